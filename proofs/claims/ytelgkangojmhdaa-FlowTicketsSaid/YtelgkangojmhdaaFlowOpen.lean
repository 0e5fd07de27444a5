/- Arguments of the laws on the flow, opened: a line, a slice of tasks. -/
import Derived.Test.YtelgkangojmhdaaLineOpen
import Derived.Test.YtelgkangojmhdaaMachOpen
import Derived.Test.YtelgkangojmhdaaFlowLaw1
namespace Go.Proofs.Ytelgkangojmhdaa
open Go.ChangeShapes Go.WideShapes Go.ChangeAt Go.RowKit Go.Deep
variable {H : Type} {enc : TypeId × Value → H} {W : World}

theorem cellsBn : Try.prog.cellsOf 42 = 6 := by kernel_rfl
theorem cellsTk : Try.prog.cellsOf 39 = 5 := by kernel_rfl
theorem cellsDn : Try.prog.cellsOf 62 = 3 := by kernel_rfl
theorem wf_ir {x : Int} (h : (Lit.int .i64 x).wf = true) : IR x := by
  unfold Lit.wf at h
  simp only [Bool.and_eq_true, decide_eq_true_eq] at h
  have h1 : IntKind.i64.min = -9223372036854775808 := by decide
  have h2 : IntKind.i64.max = 9223372036854775807 := by decide
  rw [h1, h2] at h
  exact h
set_option maxRecDepth 100000 in
theorem tr_bns {fuel : Nat} {cs : List Value} {x : DataW H × List MemPlace} (hf : DataW.trod enc Try.prog W 0 (fun _ => true) true fuel 24 cs = some x) :
    ∃ (A : Option Addr) (l : List Bn) (cap : Nat), cs = [.slice A l.length cap] ∧ l.length ≤ cap ∧ BRd W W.heap.size A l ∧ cap ≤ maxLen ∧ (A = none → cap = 0) ∧ ∀ b ∈ l, BnR b ∧ IR b.tk := by
  rcases open_slice Try.underlying24 hf with ⟨hcs, _⟩ | ⟨a, n, cap, m, k, D, Pl, hcs, _, hl, hm, hmm, _, hi⟩
  · exact ⟨none, [], 0, hcs, Nat.le_refl _, fun h => absurd rfl h, Nat.zero_le _, fun _ => rfl, fun _ h => (by cases h)⟩
  · simp only [if_true] at hmm
    subst hmm
    have hall : ∀ i, i < n → ∃ o : Bn, (W.cell? (a.add (i * 6)) = some (.int .i64 o.tk) ∧ W.cell? ((a.add (i * 6)).add 1) = some (.int .i64 o.gm) ∧ W.cell? ((a.add (i * 6)).add 2) = some (.int .i64 o.sz) ∧
        W.cell? ((a.add (i * 6)).add 3) = some (.int .i64 o.lot) ∧ W.cell? ((a.add (i * 6)).add 4) = some (.int .i64 o.fr) ∧ W.cell? ((a.add (i * 6)).add 5) = some (.int .i64 o.tp)) ∧ BnR o ∧ IR o.tk := by
      intro i him
      obtain ⟨c, hc, ht⟩ := hi i (by omega)
      rw [cellsBn] at hc
      obtain ⟨_, hcl, hat⟩ := World.cells?_some hc
      obtain ⟨ys, j, _, _, _, hyl, hg⟩ := DataW.trod_struct Try.underlying42 ht
      match c, hcl, ys, hyl with
      | [v0, v1, v2, v3, v4, v5], _, [y0, y1, y2, y3, y4, y5], _ =>
        have g0 : DataW.trod enc Try.prog W 0 (fun _ => true) true j 3 (([v0, v1, v2, v3, v4, v5].drop 0).take (Try.prog.cellsOf 3)) = some y0 := hg 0 _ rfl
        have g1 : DataW.trod enc Try.prog W 0 (fun _ => true) true j 3 (([v0, v1, v2, v3, v4, v5].drop 1).take (Try.prog.cellsOf 3)) = some y1 := hg 1 _ rfl
        have g2 : DataW.trod enc Try.prog W 0 (fun _ => true) true j 3 (([v0, v1, v2, v3, v4, v5].drop 2).take (Try.prog.cellsOf 3)) = some y2 := hg 2 _ rfl
        have g3 : DataW.trod enc Try.prog W 0 (fun _ => true) true j 3 (([v0, v1, v2, v3, v4, v5].drop 3).take (Try.prog.cellsOf 3)) = some y3 := hg 3 _ rfl
        have g4 : DataW.trod enc Try.prog W 0 (fun _ => true) true j 3 (([v0, v1, v2, v3, v4, v5].drop 4).take (Try.prog.cellsOf 3)) = some y4 := hg 4 _ rfl
        have g5 : DataW.trod enc Try.prog W 0 (fun _ => true) true j 3 (([v0, v1, v2, v3, v4, v5].drop 5).take (Try.prog.cellsOf 3)) = some y5 := hg 5 _ rfl
        rw [cellsInt] at g0 g1 g2 g3 g4 g5
        obtain ⟨x0, e0, _, k0⟩ := DataW.trod_int Try.underlying3 g0
        obtain ⟨x1, e1, _, _⟩ := DataW.trod_int Try.underlying3 g1
        obtain ⟨x2, e2, _, _⟩ := DataW.trod_int Try.underlying3 g2
        obtain ⟨x3, e3, _, _⟩ := DataW.trod_int Try.underlying3 g3
        obtain ⟨x4, e4, _, k4⟩ := DataW.trod_int Try.underlying3 g4
        obtain ⟨x5, e5, _, k5⟩ := DataW.trod_int Try.underlying3 g5
        simp at e0 e1 e2 e3 e4 e5
        subst e0 e1 e2 e3 e4 e5
        exact ⟨⟨x0, x1, x2, x3, x4, x5⟩, ⟨hat 0 (by omega), hat 1 (by omega), hat 2 (by omega), hat 3 (by omega), hat 4 (by omega), hat 5 (by omega)⟩, ⟨wf_ir k4, wf_ir k5⟩, wf_ir k0⟩
    obtain ⟨l, hll, hq⟩ := list_of n _ hall
    subst hll
    refine ⟨some a, l, _, hcs, hl, fun hne => ?_, hm, fun e => (by cases e), fun b hb => ?_⟩
    · have hpos : 0 < l.length := List.length_pos_iff.2 hne
      obtain ⟨⟨z0, _⟩, _⟩ := hq 0 _ (List.getElem?_eq_getElem hpos)
      rw [Nat.zero_mul] at z0
      obtain ⟨e, hb⟩ := head_at z0
      refine ⟨a.block, a.off, by rw [← e], hb, fun i o ho => ?_⟩
      obtain ⟨⟨h0, h1, h2, h3, h4, h5⟩, _⟩ := hq i o ho
      rw [e, add_plain] at h0 h1 h2 h3 h4 h5
      rw [add_plain] at h1 h2 h3 h4 h5
      exact ⟨h0, h1, h2, h3, h4, h5⟩
    · obtain ⟨i, hi, e⟩ := List.getElem_of_mem hb
      exact (hq i b (by rw [List.getElem?_eq_getElem hi, e])).2
set_option maxRecDepth 100000 in
theorem tr_dns {fuel : Nat} {cs : List Value} {x : DataW H × List MemPlace} (hf : DataW.trod enc Try.prog W 0 (fun _ => true) true fuel 25 cs = some x) :
    ∃ (A : Option Addr) (l : List M.Dn) (cap : Nat), cs = [.slice A l.length cap] ∧ l.length ≤ cap ∧ M.DRd W W.heap.size A l ∧ cap ≤ maxLen := by
  rcases open_slice Try.underlying25 hf with ⟨hcs, _⟩ | ⟨a, n, cap, m, k, D, Pl, hcs, _, hl, hm, hmm, _, hi⟩
  · exact ⟨none, [], 0, hcs, Nat.le_refl _, fun h => absurd rfl h, Nat.zero_le _⟩
  · simp only [if_true] at hmm
    subst hmm
    have hall : ∀ i, i < n → ∃ o : M.Dn, W.cell? (a.add (i * 3)) = some (.int .i64 o.m) ∧ W.cell? ((a.add (i * 3)).add 1) = some (.int .i64 o.f) ∧ W.cell? ((a.add (i * 3)).add 2) = some (.int .i64 o.t) := by
      intro i him
      obtain ⟨c, hc, ht⟩ := hi i (by omega)
      rw [cellsDn] at hc
      obtain ⟨_, hcl, hat⟩ := World.cells?_some hc
      obtain ⟨ys, j, _, _, _, hyl, hg⟩ := DataW.trod_struct Try.underlying62 ht
      match c, hcl, ys, hyl with
      | [v0, v1, v2], _, [y0, y1, y2], _ =>
        have g0 : DataW.trod enc Try.prog W 0 (fun _ => true) true j 3 (([v0, v1, v2].drop 0).take (Try.prog.cellsOf 3)) = some y0 := hg 0 _ rfl
        have g1 : DataW.trod enc Try.prog W 0 (fun _ => true) true j 3 (([v0, v1, v2].drop 1).take (Try.prog.cellsOf 3)) = some y1 := hg 1 _ rfl
        have g2 : DataW.trod enc Try.prog W 0 (fun _ => true) true j 3 (([v0, v1, v2].drop 2).take (Try.prog.cellsOf 3)) = some y2 := hg 2 _ rfl
        rw [cellsInt] at g0 g1 g2
        obtain ⟨x0, e0, _, _⟩ := DataW.trod_int Try.underlying3 g0
        obtain ⟨x1, e1, _, _⟩ := DataW.trod_int Try.underlying3 g1
        obtain ⟨x2, e2, _, _⟩ := DataW.trod_int Try.underlying3 g2
        simp at e0 e1 e2
        subst e0 e1 e2
        exact ⟨⟨x0, x1, x2⟩, hat 0 (by omega), hat 1 (by omega), hat 2 (by omega)⟩
    obtain ⟨l, hll, hq⟩ := list_of n _ hall
    subst hll
    refine ⟨some a, l, _, hcs, hl, fun hne => ?_, hm⟩
    have hpos : 0 < l.length := List.length_pos_iff.2 hne
    obtain ⟨z0, _⟩ := hq 0 _ (List.getElem?_eq_getElem hpos)
    rw [Nat.zero_mul] at z0
    obtain ⟨e, hb⟩ := head_at z0
    refine ⟨a.block, a.off, by rw [← e], hb, fun i o ho => ?_⟩
    obtain ⟨h0, h1, h2⟩ := hq i o ho
    rw [e, add_plain] at h0 h1 h2
    rw [add_plain] at h1 h2
    exact ⟨h0, h1, h2⟩
set_option maxRecDepth 100000 in
theorem tr_tks {fuel : Nat} {cs : List Value} {x : DataW H × List MemPlace} (hf : DataW.trod enc Try.prog W 0 (fun _ => true) true fuel 29 cs = some x) :
    ∃ (A : Option Addr) (l : List Tsk) (cap : Nat), cs = [.slice A l.length cap] ∧ l.length ≤ cap ∧ TRd W W.heap.size A l ∧ cap ≤ maxLen ∧ ∀ t ∈ l, IR t.tk ∧ IR t.op := by
  rcases open_slice Try.underlying29 hf with ⟨hcs, _⟩ | ⟨a, n, cap, m, k, D, Pl, hcs, _, hl, hm, hmm, _, hi⟩
  · exact ⟨none, [], 0, hcs, Nat.le_refl _, fun h => absurd rfl h, Nat.zero_le _, fun _ h => (by cases h)⟩
  · simp only [if_true] at hmm
    subst hmm
    have hall : ∀ i, i < n → ∃ o : Tsk, (W.cell? (a.add (i * 5)) = some (.int .i64 o.tk) ∧ W.cell? ((a.add (i * 5)).add 1) = some (.int .i64 o.op) ∧ W.cell? ((a.add (i * 5)).add 2) = some (.int .i64 o.st) ∧
        W.cell? ((a.add (i * 5)).add 3) = some (.int .i64 o.a) ∧ W.cell? ((a.add (i * 5)).add 4) = some (.int .i64 o.b)) ∧ IR o.tk ∧ IR o.op := by
      intro i him
      obtain ⟨c, hc, ht⟩ := hi i (by omega)
      rw [cellsTk] at hc
      obtain ⟨_, hcl, hat⟩ := World.cells?_some hc
      obtain ⟨ys, j, _, _, _, hyl, hg⟩ := DataW.trod_struct Try.underlying39 ht
      match c, hcl, ys, hyl with
      | [v0, v1, v2, v3, v4], _, [y0, y1, y2, y3, y4], _ =>
        have g0 : DataW.trod enc Try.prog W 0 (fun _ => true) true j 3 (([v0, v1, v2, v3, v4].drop 0).take (Try.prog.cellsOf 3)) = some y0 := hg 0 _ rfl
        have g1 : DataW.trod enc Try.prog W 0 (fun _ => true) true j 3 (([v0, v1, v2, v3, v4].drop 1).take (Try.prog.cellsOf 3)) = some y1 := hg 1 _ rfl
        have g2 : DataW.trod enc Try.prog W 0 (fun _ => true) true j 3 (([v0, v1, v2, v3, v4].drop 2).take (Try.prog.cellsOf 3)) = some y2 := hg 2 _ rfl
        have g3 : DataW.trod enc Try.prog W 0 (fun _ => true) true j 3 (([v0, v1, v2, v3, v4].drop 3).take (Try.prog.cellsOf 3)) = some y3 := hg 3 _ rfl
        have g4 : DataW.trod enc Try.prog W 0 (fun _ => true) true j 3 (([v0, v1, v2, v3, v4].drop 4).take (Try.prog.cellsOf 3)) = some y4 := hg 4 _ rfl
        rw [cellsInt] at g0 g1 g2 g3 g4
        obtain ⟨x0, e0, _, k0⟩ := DataW.trod_int Try.underlying3 g0
        obtain ⟨x1, e1, _, k1⟩ := DataW.trod_int Try.underlying3 g1
        obtain ⟨x2, e2, _, _⟩ := DataW.trod_int Try.underlying3 g2
        obtain ⟨x3, e3, _, _⟩ := DataW.trod_int Try.underlying3 g3
        obtain ⟨x4, e4, _, _⟩ := DataW.trod_int Try.underlying3 g4
        simp at e0 e1 e2 e3 e4
        subst e0 e1 e2 e3 e4
        exact ⟨⟨x0, x1, x2, x3, x4⟩, ⟨hat 0 (by omega), hat 1 (by omega), hat 2 (by omega), hat 3 (by omega), hat 4 (by omega)⟩, wf_ir k0, wf_ir k1⟩
    obtain ⟨l, hll, hq⟩ := list_of n _ hall
    subst hll
    refine ⟨some a, l, _, hcs, hl, fun hne => ?_, hm, fun b hb => ?_⟩
    · have hpos : 0 < l.length := List.length_pos_iff.2 hne
      obtain ⟨⟨z0, _⟩, _⟩ := hq 0 _ (List.getElem?_eq_getElem hpos)
      rw [Nat.zero_mul] at z0
      obtain ⟨e, hb⟩ := head_at z0
      refine ⟨a.block, a.off, by rw [← e], hb, fun i o ho => ?_⟩
      obtain ⟨⟨h0, h1, h2, h3, h4⟩, _⟩ := hq i o ho
      rw [e, add_plain] at h0 h1 h2 h3 h4
      rw [add_plain] at h1 h2 h3 h4
      exact ⟨h0, h1, h2, h3, h4⟩
    · obtain ⟨i, hi, e⟩ := List.getElem_of_mem hb
      exact (hq i b (by rw [List.getElem?_eq_getElem hi, e])).2
set_option maxRecDepth 100000 in
theorem open_tasks {base : Nat} {v : Value} {d : DataW H} {p : List MemPlace} (hv : Value.okWide Try.prog W .any base 29 v) (h : DataW.Trod enc Try.prog W 0 (fun _ => true) true 29 v d p) :
    ∃ (A : Option Addr) (cap : Nat) (l : List Tsk), v = .slice A l.length cap ∧ TRd W W.heap.size A l ∧ l.length ≤ cap ∧ cap ≤ 9223372036854775807 ∧ ∀ t ∈ l, IR t.tk ∧ IR t.op := by
  obtain ⟨A, n, cap, rfl⟩ := okWide_slice Try.underlying29 hv
  obtain ⟨fuel, hf⟩ := h
  obtain ⟨A', l, cap', hcs, h1, h2, h3, h4⟩ := tr_tks hf
  simp [Value.cells] at hcs
  obtain ⟨rfl, rfl, rfl⟩ := hcs
  exact ⟨A, cap, l, rfl, h2, h1, by unfold maxLen at h3; omega, h4⟩
set_option maxRecDepth 100000 in
theorem open_line {base : Nat} {v : Value} {d : DataW H} {p : List MemPlace} (hv : Value.okWide Try.prog W .any base 27 v) (h : DataW.Trod enc Try.prog W 0 (fun _ => true) true 27 v d p) :
    ∃ x : Ln, v = x.val ∧ LnOk W x := by
  obtain ⟨v0, v1, v2, v3, y0, y1, y2, y3, n, rfl, _, _, h0, h1, h2, h3⟩ := Go.Joins.open_agg4 Try.underlying27 (by kernel_rfl) (by kernel_rfl) hv h
  obtain ⟨A, l, cap, e0, a1, a2, a3⟩ := tr_ops h0
  obtain ⟨S, ss, capS, e1, b1, b2, b3⟩ := tr_rows h1
  obtain ⟨Ab, bs, capB, e2, c1, c2, c3, c4, c5⟩ := tr_bns h2
  obtain ⟨D, ds, capD, e3, d1, d2, d3⟩ := tr_dns h3
  simp at e0 e1 e2 e3
  subst e0 e1 e2 e3
  unfold maxLen at a3 b3 c3 d3
  exact ⟨⟨A, cap, l, S, capS, ss, Ab, capB, bs, D, capD, ds⟩, rfl, ⟨a2, b2, c2, d2, a1, c1, c4, fun b hb => (c5 b hb).1, fun b hb => (c5 b hb).2, by simp only; omega, by simp only; omega, by simp only; omega⟩⟩
end Go.Proofs.Ytelgkangojmhdaa
