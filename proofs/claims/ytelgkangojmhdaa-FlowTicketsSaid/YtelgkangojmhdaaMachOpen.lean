/- Arguments of the laws on machines: a slice of stops, opened. -/
import Derived.Test.YtelgkangojmhdaaLawKit
import Derived.Test.YtelgkangojmhdaaG5
namespace Go.Proofs.Ytelgkangojmhdaa.M
open Go.ChangeShapes Go.WideShapes Go.ChangeAt Go.RowKit Go.Deep
variable {H : Type} {enc : TypeId × Value → H} {W : World}

set_option maxRecDepth 100000 in
theorem cellsDown : Try.prog.cellsOf 62 = 3 := by kernel_rfl
set_option maxRecDepth 100000 in
theorem cellsInt : Try.prog.cellsOf 3 = 1 := by kernel_rfl
set_option maxRecDepth 100000 in
theorem plain_add (b o j : Nat) : (⟨b, o, none⟩ : Addr).add j = ⟨b, o + j, none⟩ := by
  unfold Addr.add; split
  · rename_i h; subst h; rfl
  · rfl
set_option maxRecDepth 100000 in
theorem open_downs {base : Nat} {v : Value} {d : DataW H} {p : List MemPlace} (hv : Value.okWide Try.prog W .any base 25 v) (h : DataW.Trod enc Try.prog W 0 (fun _ => true) true 25 v d p) :
    ∃ (A : Option Addr) (cap : Nat) (l : List Dn), v = .slice A l.length cap ∧ DRd W W.heap.size A l ∧ l.length ≤ 9223372036854775807 := by
  obtain ⟨A, n, cap, rfl⟩ := okWide_slice Try.underlying25 hv
  obtain ⟨fuel, hf⟩ := h
  rcases open_slice Try.underlying25 hf with ⟨hcs, _⟩ | ⟨a, len, cap', m, n', D, Pl, hcs, _, hl, hm, hmm, _, hi⟩
  · simp [Value.cells] at hcs
    obtain ⟨rfl, rfl, rfl⟩ := hcs
    exact ⟨none, 0, [], rfl, fun h => absurd rfl h, by simp⟩
  · simp [Value.cells] at hcs
    obtain ⟨rfl, rfl, rfl⟩ := hcs
    simp only [if_true] at hmm
    subst hmm
    have hall : ∀ i, i < n → ∃ x : Dn, W.cell? (a.add (i * 3)) = some (.int .i64 x.m) ∧ W.cell? ((a.add (i * 3)).add 1) = some (.int .i64 x.f) ∧ W.cell? ((a.add (i * 3)).add 2) = some (.int .i64 x.t) := by
      intro i him
      obtain ⟨cs, hc, ht⟩ := hi i (by omega)
      rw [cellsDown] at hc
      obtain ⟨_, hcl, hat⟩ := World.cells?_some hc
      obtain ⟨ys, k, _, _, _, hyl, hg⟩ := DataW.trod_struct Try.underlying62 ht
      match cs, hcl, ys, hyl with
      | [c0, c1, c2], _, [y0, y1, y2], _ =>
        have g0 : DataW.trod enc Try.prog W 0 (fun _ => true) true k 3 (([c0, c1, c2].drop 0).take (Try.prog.cellsOf 3)) = some y0 := hg 0 _ rfl
        have g1 : DataW.trod enc Try.prog W 0 (fun _ => true) true k 3 (([c0, c1, c2].drop 1).take (Try.prog.cellsOf 3)) = some y1 := hg 1 _ rfl
        have g2 : DataW.trod enc Try.prog W 0 (fun _ => true) true k 3 (([c0, c1, c2].drop 2).take (Try.prog.cellsOf 3)) = some y2 := hg 2 _ rfl
        rw [cellsInt] at g0 g1 g2
        have a0 := hat 0 (by omega)
        have a1 := hat 1 (by omega)
        have a2 := hat 2 (by omega)
        obtain ⟨x0, e0, _, _⟩ := DataW.trod_int Try.underlying3 g0
        obtain ⟨x1, e1, _, _⟩ := DataW.trod_int Try.underlying3 g1
        obtain ⟨x2, e2, _, _⟩ := DataW.trod_int Try.underlying3 g2
        simp at e0 e1 e2
        subst e0 e1 e2
        exact ⟨⟨x0, x1, x2⟩, a0, a1, a2⟩
    obtain ⟨l, hll, hq⟩ := list_of n _ hall
    subst hll
    refine ⟨some a, _, l, rfl, fun hne => ?_, by unfold maxLen at hm; omega⟩
    have hpos : 0 < l.length := List.length_pos_iff.2 hne
    obtain ⟨z0, _⟩ := hq 0 _ (List.getElem?_eq_getElem hpos)
    have hsp : a = ⟨a.block, a.off, none⟩ := by
      have h := spot_none z0
      simpa [Addr.add] using h
    generalize a.block = b at hsp
    generalize a.off = o at hsp
    subst hsp
    refine ⟨b, o, rfl, ?_, fun i x hx => ?_⟩
    · have h := z0
      rw [plain_add] at h
      exact block_lt h
    · obtain ⟨h0, h1, h2⟩ := hq i x hx
      rw [plain_add] at h0 h1 h2
      rw [plain_add] at h1 h2
      exact ⟨h0, h1, h2⟩

set_option maxRecDepth 100000 in
theorem open_downs2 {base : Nat} {v : Value} {d : DataW H} {p : List MemPlace} (hv : Value.okWide Try.prog W .any base 25 v) (h : DataW.Trod enc Try.prog W 0 (fun _ => true) true 25 v d p) :
    ∃ (A : Option Addr) (cap : Nat) (l : List Dn), v = .slice A l.length cap ∧ DRd W W.heap.size A l ∧ l.length ≤ 9223372036854775807 ∧ (A = none → cap = 0) := by
  obtain ⟨A, cap, l, rfl, h1, h2⟩ := open_downs hv h
  refine ⟨A, cap, l, rfl, h1, h2, fun e => ?_⟩
  subst e
  obtain ⟨fuel, hf⟩ := h
  rcases open_slice Try.underlying25 hf with ⟨hcs, _⟩ | ⟨a, len, cap', m, n', D, Pl, hcs, _⟩
  · simp [Value.cells] at hcs
    exact hcs.2
  · simp [Value.cells] at hcs
set_option maxRecDepth 100000 in
theorem one_int {fuel : Nat} {v : Value} {y : DataW H × List MemPlace} (h : DataW.trod enc Try.prog W 0 (fun _ => true) true fuel 3 [v] = some y) : ∃ x, v = .int .i64 x := by
  obtain ⟨x, e, _, _⟩ := DataW.trod_int Try.underlying3 h
  simp at e
  exact ⟨x, e⟩
set_option maxRecDepth 100000 in
theorem open_down {base : Nat} {v : Value} {d : DataW H} {p : List MemPlace} (hv : Value.okWide Try.prog W .any base 62 v) (h : DataW.Trod enc Try.prog W 0 (fun _ => true) true 62 v d p) :
    ∃ x : Dn, v = .agg #[.int .i64 x.m, .int .i64 x.f, .int .i64 x.t] := by
  obtain ⟨v0, v1, v2, y0, y1, y2, n, rfl, _, _, h0, h1, h2⟩ := Go.Joins.open_agg3 Try.underlying62 (by kernel_rfl) cellsDown hv h
  obtain ⟨x0, rfl⟩ := one_int h0
  obtain ⟨x1, rfl⟩ := one_int h1
  obtain ⟨x2, rfl⟩ := one_int h2
  exact ⟨⟨x0, x1, x2⟩, rfl⟩
end Go.Proofs.Ytelgkangojmhdaa.M
