/- Arguments of the laws on lines, opened: a slice of operations, a slice of slices of ints. -/
import Derived.Test.YtelgkangojmhdaaLawKit
import Derived.Test.YtelgkangojmhdaaG3
namespace Go.Proofs.Ytelgkangojmhdaa
open Go.ChangeShapes Go.WideShapes Go.ChangeAt Go.RowKit Go.Deep
variable {H : Type} {enc : TypeId × Value → H} {W : World}

set_option maxRecDepth 100000 in
theorem cellsInt : Try.prog.cellsOf 3 = 1 := by kernel_rfl
set_option maxRecDepth 100000 in
theorem cellsStr : Try.prog.cellsOf 9 = 1 := by kernel_rfl
set_option maxRecDepth 100000 in
theorem cellsInts : Try.prog.cellsOf 33 = 1 := by kernel_rfl
set_option maxRecDepth 100000 in
theorem cellsOpn : Try.prog.cellsOf 46 = 5 := by kernel_rfl
set_option maxRecDepth 100000 in
/-- Where the head of a slice that holds something lies. -/
theorem head_at {a : Addr} {v : Value} (h : W.cell? (a.add 0) = some v) : a = ⟨a.block, a.off, none⟩ ∧ a.block < W.heap.size := by
  have h' : W.cell? a = some v := by simpa [Addr.add] using h
  have e := spot_none h'
  refine ⟨e, ?_⟩
  rw [e] at h'
  exact block_lt h'
set_option maxRecDepth 100000 in
theorem tr_ints {fuel : Nat} {cs : List Value} {x : DataW H × List MemPlace} (hf : DataW.trod enc Try.prog W 0 (fun _ => true) true fuel 33 cs = some x) :
    ∃ (A : Option Addr) (q : List Int) (cap : Nat), cs = [.slice A q.length cap] ∧ q.length ≤ cap ∧ IRd W W.heap.size A q ∧ cap ≤ maxLen ∧ (A = none → cap = 0) := by
  rcases open_slice Try.underlying33 hf with ⟨hcs, _⟩ | ⟨a, n, cap, m, k, D, Pl, hcs, _, hl, hm, hmm, _, hi⟩
  · exact ⟨none, [], 0, hcs, Nat.le_refl _, fun h => absurd rfl h, Nat.zero_le _, fun _ => rfl⟩
  · simp only [if_true] at hmm
    subst hmm
    have hall : ∀ i, i < n → ∃ y : Int, W.cell? (a.add i) = some (.int .i64 y) := by
      intro i him
      obtain ⟨c, hc, ht⟩ := hi i (by omega)
      rw [cellsInt] at hc
      obtain ⟨_, hcl, hat⟩ := World.cells?_some hc
      obtain ⟨y, e, _, _⟩ := DataW.trod_int Try.underlying3 ht
      subst e
      have h0 := hat 0 (by omega)
      exact ⟨y, by simpa [Addr.add] using h0⟩
    obtain ⟨q, hql, hq⟩ := list_of n _ hall
    subst hql
    refine ⟨some a, q, _, hcs, hl, fun hne => ?_, hm, fun e => (by cases e)⟩
    have hpos : 0 < q.length := List.length_pos_iff.2 hne
    obtain ⟨e, hb⟩ := head_at (hq 0 _ (List.getElem?_eq_getElem hpos))
    refine ⟨a.block, a.off, by rw [← e], hb, fun i y hy => ?_⟩
    have := hq i y hy
    rw [e, add_plain] at this
    exact this
set_option maxRecDepth 100000 in
theorem tr_rows {fuel : Nat} {cs : List Value} {x : DataW H × List MemPlace} (hf : DataW.trod enc Try.prog W 0 (fun _ => true) true fuel 23 cs = some x) :
    ∃ (A : Option Addr) (q : List (List Int)) (cap : Nat), cs = [.slice A q.length cap] ∧ q.length ≤ cap ∧ SRd W W.heap.size A q ∧ cap ≤ maxLen := by
  rcases open_slice Try.underlying23 hf with ⟨hcs, _⟩ | ⟨a, n, cap, m, k, D, Pl, hcs, _, hl, hm, hmm, _, hi⟩
  · exact ⟨none, [], 0, hcs, Nat.le_refl _, fun h => absurd rfl h, Nat.zero_le _⟩
  · simp only [if_true] at hmm
    subst hmm
    have hall : ∀ i, i < n → ∃ y : List Int, ∃ A' c', W.cell? (a.add i) = some (.slice A' y.length c') ∧ y.length ≤ c' ∧ IRd W W.heap.size A' y := by
      intro i him
      obtain ⟨c, hc, ht⟩ := hi i (by omega)
      rw [cellsInts] at hc
      obtain ⟨_, hcl, hat⟩ := World.cells?_some hc
      obtain ⟨A', y, c', e, h1, h2, _⟩ := tr_ints ht
      subst e
      have h0 := hat 0 (by omega)
      exact ⟨y, A', c', by simpa [Addr.add] using h0, h1, h2⟩
    obtain ⟨q, hql, hq⟩ := list_of n _ hall
    subst hql
    refine ⟨some a, q, _, hcs, hl, fun hne => ?_, hm⟩
    have hpos : 0 < q.length := List.length_pos_iff.2 hne
    obtain ⟨A0, c0, z0, _⟩ := hq 0 _ (List.getElem?_eq_getElem hpos)
    obtain ⟨e, hb⟩ := head_at z0
    refine ⟨a.block, a.off, by rw [← e], hb, fun i y hy => ?_⟩
    obtain ⟨A', c', h1, h2, h3⟩ := hq i y hy
    rw [e, add_plain] at h1
    exact ⟨A', c', h1, h2, h3⟩
set_option maxRecDepth 100000 in
theorem tr_ops {fuel : Nat} {cs : List Value} {x : DataW H × List MemPlace} (hf : DataW.trod enc Try.prog W 0 (fun _ => true) true fuel 22 cs = some x) :
    ∃ (A : Option Addr) (l : List Opn) (cap : Nat), cs = [.slice A l.length cap] ∧ l.length ≤ cap ∧ ORd W W.heap.size A l ∧ cap ≤ maxLen := by
  rcases open_slice Try.underlying22 hf with ⟨hcs, _⟩ | ⟨a, n, cap, m, k, D, Pl, hcs, _, hl, hm, hmm, _, hi⟩
  · exact ⟨none, [], 0, hcs, Nat.le_refl _, fun h => absurd rfl h, Nat.zero_le _⟩
  · simp only [if_true] at hmm
    subst hmm
    have hall : ∀ i, i < n → ∃ o : Opn, W.cell? (a.add (i * 5)) = some (.string o.name) ∧ W.cell? ((a.add (i * 5)).add 1) = some (.int .i64 o.mach) ∧ W.cell? ((a.add (i * 5)).add 2) = some (.int .i64 o.mins) ∧
        (∃ A' c', W.cell? ((a.add (i * 5)).add 3) = some (.slice A' o.after.length c') ∧ o.after.length ≤ c' ∧ IRd W W.heap.size A' o.after) ∧ ∃ A' c', W.cell? ((a.add (i * 5)).add 4) = some (.slice A' o.uses.length c') ∧ o.uses.length ≤ c' ∧ IRd W W.heap.size A' o.uses := by
      intro i him
      obtain ⟨c, hc, ht⟩ := hi i (by omega)
      rw [cellsOpn] at hc
      obtain ⟨_, hcl, hat⟩ := World.cells?_some hc
      obtain ⟨ys, j, _, _, _, hyl, hg⟩ := DataW.trod_struct Try.underlying46 ht
      match c, hcl, ys, hyl with
      | [v0, v1, v2, v3, v4], _, [y0, y1, y2, y3, y4], _ =>
        have g0 : DataW.trod enc Try.prog W 0 (fun _ => true) true j 9 (([v0, v1, v2, v3, v4].drop 0).take (Try.prog.cellsOf 9)) = some y0 := hg 0 _ rfl
        have g1 : DataW.trod enc Try.prog W 0 (fun _ => true) true j 3 (([v0, v1, v2, v3, v4].drop 1).take (Try.prog.cellsOf 3)) = some y1 := hg 1 _ rfl
        have g2 : DataW.trod enc Try.prog W 0 (fun _ => true) true j 3 (([v0, v1, v2, v3, v4].drop 2).take (Try.prog.cellsOf 3)) = some y2 := hg 2 _ rfl
        have g3 : DataW.trod enc Try.prog W 0 (fun _ => true) true j 33 (([v0, v1, v2, v3, v4].drop 3).take (Try.prog.cellsOf 33)) = some y3 := hg 3 _ rfl
        have g4 : DataW.trod enc Try.prog W 0 (fun _ => true) true j 33 (([v0, v1, v2, v3, v4].drop 4).take (Try.prog.cellsOf 33)) = some y4 := hg 4 _ rfl
        rw [cellsStr] at g0
        rw [cellsInt] at g1 g2
        rw [cellsInts] at g3 g4
        obtain ⟨s, e0, _, _⟩ := DataW.trod_string Try.underlying9 g0
        obtain ⟨x1, e1, _, _⟩ := DataW.trod_int Try.underlying3 g1
        obtain ⟨x2, e2, _, _⟩ := DataW.trod_int Try.underlying3 g2
        obtain ⟨A3, q3, c3, e3, h31, h32, _⟩ := tr_ints g3
        obtain ⟨A4, q4, c4, e4, h41, h42, _⟩ := tr_ints g4
        simp at e0 e1 e2 e3 e4
        subst e0 e1 e2 e3 e4
        exact ⟨⟨s, x1, x2, q3, q4⟩, hat 0 (by omega), hat 1 (by omega), hat 2 (by omega), ⟨A3, c3, hat 3 (by omega), h31, h32⟩, ⟨A4, c4, hat 4 (by omega), h41, h42⟩⟩
    obtain ⟨l, hll, hq⟩ := list_of n _ hall
    subst hll
    refine ⟨some a, l, _, hcs, hl, fun hne => ?_, hm⟩
    have hpos : 0 < l.length := List.length_pos_iff.2 hne
    obtain ⟨z0, _⟩ := hq 0 _ (List.getElem?_eq_getElem hpos)
    rw [Nat.zero_mul] at z0
    obtain ⟨e, hb⟩ := head_at z0
    refine ⟨a.block, a.off, by rw [← e], hb, fun i o ho => ?_⟩
    obtain ⟨h0, h1, h2, ⟨A3, c3, h3, h4, h5⟩, ⟨A4, c4, h6, h7, h8⟩⟩ := hq i o ho
    rw [e, add_plain] at h0 h1 h2 h3 h6
    rw [add_plain] at h1 h2 h3 h6
    exact ⟨h0, h1, h2, ⟨A3, c3, h3, h4, h5⟩, ⟨A4, c4, h6, h7, h8⟩⟩
set_option maxRecDepth 100000 in
theorem open_opns {base : Nat} {v : Value} {d : DataW H} {p : List MemPlace} (hv : Value.okWide Try.prog W .any base 22 v) (h : DataW.Trod enc Try.prog W 0 (fun _ => true) true 22 v d p) :
    ∃ (A : Option Addr) (cap : Nat) (l : List Opn), v = .slice A l.length cap ∧ ORd W W.heap.size A l ∧ l.length ≤ cap ∧ cap ≤ 9223372036854775807 := by
  obtain ⟨A, n, cap, rfl⟩ := okWide_slice Try.underlying22 hv
  obtain ⟨fuel, hf⟩ := h
  obtain ⟨A', l, cap', hcs, h1, h2, h3⟩ := tr_ops hf
  simp [Value.cells] at hcs
  obtain ⟨rfl, rfl, rfl⟩ := hcs
  exact ⟨A, cap, l, rfl, h2, h1, by unfold maxLen at h3; omega⟩
set_option maxRecDepth 100000 in
theorem open_rows {base : Nat} {v : Value} {d : DataW H} {p : List MemPlace} (hv : Value.okWide Try.prog W .any base 23 v) (h : DataW.Trod enc Try.prog W 0 (fun _ => true) true 23 v d p) :
    ∃ (A : Option Addr) (cap : Nat) (l : List (List Int)), v = .slice A l.length cap ∧ SRd W W.heap.size A l ∧ l.length ≤ cap ∧ cap ≤ 9223372036854775807 := by
  obtain ⟨A, n, cap, rfl⟩ := okWide_slice Try.underlying23 hv
  obtain ⟨fuel, hf⟩ := h
  obtain ⟨A', l, cap', hcs, h1, h2, h3⟩ := tr_rows hf
  simp [Value.cells] at hcs
  obtain ⟨rfl, rfl, rfl⟩ := hcs
  exact ⟨A, cap, l, rfl, h2, h1, by unfold maxLen at h3; omega⟩
end Go.Proofs.Ytelgkangojmhdaa
