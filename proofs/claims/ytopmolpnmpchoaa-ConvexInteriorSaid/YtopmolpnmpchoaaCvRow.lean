/- Rows of spots that a call owns: stored into, cut, cleared. The list without what follows itself. -/
import Derived.Test.YtopmolpnmpchoaaCvSort
import Derived.Laws.IdiomCopy
namespace Go.Proofs.Ytopmolpnmpchoaa
open Go.RowKit

theorem own_shrink {w : World} {base e g n m cap : Nat} {xs : List Value} (h : w.ownsRow base e 2 (.slice (some ⟨g, 0, none⟩) n cap) n xs) (hm : m ≤ n) : w.ownsRow base e 2 (.slice (some ⟨g, 0, none⟩) m cap) m (xs.take (m * 2)) := by
  rcases h.2 with ⟨e1, _⟩ | ⟨g', cap', cur0, e1, hb, hg, hnc, hcm, hcs, htake⟩
  · cases e1
  · cases e1
    have := h.1
    refine ⟨by rw [List.length_take]; omega, .inr ⟨g, cap, cur0, rfl, hb, hg, by omega, hcm, hcs, ?_⟩⟩
    rw [← htake, List.take_take, Nat.min_eq_left (by omega)]
theorem pCells_take (l : List Pt) : ∀ m, (pCells l).take (m * 2) = pCells (l.take m) := by
  induction l with
  | nil => intro m; simp [pCells]
  | cons a l ih =>
    intro m
    cases m with
    | zero => rfl
    | succ m =>
      rw [pCells_cons, show (m + 1) * 2 = m * 2 + 2 from by omega, List.take_succ_cons, pCells_cons]
      show _ :: _ :: _ = _
      rw [← ih m]; rfl
theorem own_cut {w : World} {base e g m cap : Nat} {l : List Pt} (h : w.ownsRow base e 2 (.slice (some ⟨g, 0, none⟩) l.length cap) l.length (pCells l)) (hm : m ≤ l.length) : w.ownsRow base e 2 (.slice (some ⟨g, 0, none⟩) m cap) m (pCells (l.take m)) := by
  rw [← pCells_take]; exact own_shrink h hm
theorem pCells_set (l : List Pt) (p : Pt) : ∀ i, ((pCells l).set (i * 2) (.int .i64 p.x)).set (i * 2 + 1) (.int .i64 p.y) = pCells (l.set i p) := by
  induction l with
  | nil => intro i; simp [pCells]
  | cons a l ih =>
    intro i
    cases i with
    | zero => rfl
    | succ i =>
      rw [pCells_cons, List.set_cons_succ, pCells_cons, ← ih i, show (i + 1) * 2 = i * 2 + 1 + 1 from by omega, show i * 2 + 1 + 1 + 1 = (i * 2 + 1) + 1 + 1 from by omega]
      rfl
/-- A spot stored into a row. -/
theorem own_put {w : World} {base e g n cap : Nat} {l : List Pt} (h : w.ownsRow base e 2 (.slice (some ⟨g, 0, none⟩) n cap) n (pCells l)) (i : Nat) (p : Pt) :
    ((w.setCell ⟨g, i * 2, none⟩ (.int .i64 p.x)).setCell ⟨g, i * 2 + 1, none⟩ (.int .i64 p.y)).ownsRow base e 2 (.slice (some ⟨g, 0, none⟩) n cap) n (pCells (l.set i p)) := by
  rw [← pCells_set]
  exact (World.ownsRow.stored (World.ownsRow.stored h (i * 2) _).1 (i * 2 + 1) _).1
theorem own_sets {base e g n cap : Nat} : ∀ (vs : List Value) (o : Nat) (w : World) (xs : List Value), w.ownsRow base e 2 (.slice (some ⟨g, 0, none⟩) n cap) n xs →
    ∃ ys, (w.setCells g o vs).ownsRow base e 2 (.slice (some ⟨g, 0, none⟩) n cap) n ys ∧ ys.take o = xs.take o
  | [], o, w, xs, h => ⟨xs, h, rfl⟩
  | v :: vs, o, w, xs, h => by
    obtain ⟨ys, h1, h2⟩ := own_sets vs (o + 1) (w.setCell ⟨g, o, none⟩ v) (xs.set o v) (World.ownsRow.stored h o v).1
    refine ⟨ys, h1, ?_⟩
    have h3 := congrArg (List.take o) h2
    rw [List.take_take, List.take_take, Nat.min_eq_left (by omega), List.take_set_of_le (Nat.le_refl _)] at h3
    exact h3
theorem below_sets {B g : Nat} (hg : B ≤ g) : ∀ (vs : List Value) (o : Nat) (w0 w : World), Below B w0 w → Below B w0 (w.setCells g o vs)
  | [], _, _, _, h => h
  | v :: vs, o, w0, _, h => below_sets hg vs (o + 1) w0 _ (h.setCell hg v)
theorem below_drewN {B : Nat} {a w : World} (h : Below B a w) (n : Nat) : Below B a (w.drewN n) := ⟨h.os, h.tape, h.output, h.size, h.block⟩
theorem own_drewN {w : World} {base e size n : Nat} {v : Value} {xs : List Value} (h : w.ownsRow base e size v n xs) (k : Nat) : (w.drewN k).ownsRow base e size v n xs := h
/-- 'clear' of a part of a row of spots. -/
def zeros (n : Nat) : List Value := (Builtin.zeroCells #[.int .i64 0, .int .i64 0] n).toList
theorem run_clear2 (w : World) (ty : TypeId) (b o n c : Nat) (hn : 0 < n) (hc : ∀ j, j < n * 2 → (w.cell? ⟨b, o + j, none⟩).isSome = true) (hf : ∀ j, j < n * 2 → w.frozen? ⟨b, o + j, none⟩ = false) :
    (Builtin.clear_ #[22] ty #[.slice (some ⟨b, o, none⟩) n c]).run Try.prog w = .ok (.tuple #[]) (w.setCells b o (zeros n)) := by
  have hlen : (zeros n).length = n * 2 := by
    unfold zeros Builtin.zeroCells; simp
  have hone : ∀ v ∈ zeros n, v.oneCell' = true := by
    intro v hv
    unfold zeros Builtin.zeroCells at hv
    simp at hv
    obtain ⟨i, hi, rfl⟩ := hv
    rcases Nat.mod_two_eq_zero_or_one i with h | h <;> simp [h] <;> rfl
  have hst := run_storeCells_cells (P := Try.prog) b o (zeros n) 0 w (by rw [hlen]; simpa using hc) (by rw [hlen]; simpa using hf) hone
  simp only [Nat.add_zero] at hst
  obtain ⟨m, rfl⟩ : ∃ m, n = m + 1 := ⟨n - 1, by omega⟩
  have hz : ∀ w, (zeroValue 31).run Try.prog w = .ok (.agg #[.int .i64 0, .int .i64 0]) w := Try.zeroValue31
  unfold zeros at hst ⊢
  simp [Builtin.clear_, run_underlying Try.underlying22, hz, Value.cells, hst]

/-! ## A list without what follows itself -/
def uqStep (s : List Pt) (p : Pt) : List Pt := if s.getLast? = some p then s else s ++ [p]
def uq (l : List Pt) : List Pt := l.foldl uqStep []
theorem uq_snoc (l : List Pt) (p : Pt) : uq (l ++ [p]) = uqStep (uq l) p := by unfold uq; rw [List.foldl_append]; rfl
theorem uq_take {l : List Pt} {k : Nat} {p : Pt} (h : l[k]? = some p) : uq (l.take (k + 1)) = uqStep (uq (l.take k)) p := by
  rw [List.take_add_one, h]; exact uq_snoc _ _
theorem uq_last : ∀ (n : Nat) (l : List Pt), l.length = n → (uq l).getLast? = l.getLast? := by
  intro n l _
  rcases snoc_or l with rfl | ⟨l', p, rfl⟩
  · rfl
  · rw [uq_snoc]
    unfold uqStep
    split
    · rename_i h; rw [h]; simp
    · simp
theorem take_last {l : List Pt} {k : Nat} (hk : k < l.length) : (l.take (k + 1)).getLast? = l[k]? := by
  rw [List.take_add_one, List.getElem?_eq_getElem hk, List.getLast?_append]; rfl
/-- The k-th spot is like the one before it. -/
theorem uq_same {l : List Pt} {k : Nat} {p q : Pt} (h0 : l[k]? = some q) (h1 : l[k + 1]? = some p) (e : p = q) : uq (l.take (k + 1 + 1)) = uq (l.take (k + 1)) := by
  rw [uq_take h1]
  unfold uqStep
  rw [if_pos]
  rw [uq_last _ _ rfl, take_last (List.getElem?_eq_some_iff.1 h0).1, h0, e]
theorem uq_new {l : List Pt} {k : Nat} {p q : Pt} (h0 : l[k]? = some q) (h1 : l[k + 1]? = some p) (e : p ≠ q) : uq (l.take (k + 1 + 1)) = uq (l.take (k + 1)) ++ [p] := by
  rw [uq_take h1]
  unfold uqStep
  rw [if_neg]
  rw [uq_last _ _ rfl, take_last (List.getElem?_eq_some_iff.1 h0).1, h0]
  intro h
  injection h with h
  exact e h.symm
theorem uq_one {l : List Pt} {p : Pt} (h : l[0]? = some p) : uq (l.take 1) = [p] := by
  rw [uq_take h]; rfl
theorem uq_len : ∀ (n : Nat) (l : List Pt), l.length = n → (uq l).length ≤ n := by
  intro n
  induction n with
  | zero => intro l h; rw [List.eq_nil_of_length_eq_zero h]; exact Nat.le_refl _
  | succ n ih =>
    intro l h
    rcases snoc_or l with rfl | ⟨l', p, rfl⟩
    · simp at h
    · have := ih l' (by simpa using h)
      rw [uq_snoc]
      unfold uqStep
      split
      · omega
      · simp; omega
theorem uq_mem : ∀ (n : Nat) (l : List Pt), l.length = n → ∀ q, q ∈ uq l ↔ q ∈ l := by
  intro n
  induction n with
  | zero => intro l h q; rw [List.eq_nil_of_length_eq_zero h]; exact Iff.rfl
  | succ n ih =>
    intro l h q
    rcases snoc_or l with rfl | ⟨l', p, rfl⟩
    · simp at h
    · have := ih l' (by simpa using h) q
      rw [uq_snoc]
      unfold uqStep
      split
      · rename_i hl
        rw [this, List.mem_append]
        constructor
        · exact .inl
        · rintro (h1 | h1)
          · exact h1
          · simp at h1
            rw [h1, ← ih l' (by simpa using h)]
            exact List.mem_of_getLast? hl
      · rw [List.mem_append, List.mem_append, this]
theorem uq_asc : ∀ (n : Nat) (l : List Pt), l.length = n → Bd l → l.Pairwise (fun x y => ¬ Less y x) → Asc M0 (uq l) := by
  intro n
  induction n with
  | zero => intro l h _ _; rw [List.eq_nil_of_length_eq_zero h]; exact List.Pairwise.nil
  | succ n ih =>
    intro l h hb hs
    rcases snoc_or l with rfl | ⟨l', p, rfl⟩
    · simp at h
    · have hl' : l'.length = n := by simpa using h
      have hb' : Bd l' := fun q hq => hb q (List.mem_append_left _ hq)
      have h1 := ih l' hl' hb' (List.pairwise_append.1 hs).1
      rw [uq_snoc]
      unfold uqStep
      split
      · exact h1
      · rename_i hl
        refine List.pairwise_append.2 ⟨h1, List.pairwise_singleton _ _, fun a ha b hbm => ?_⟩
        simp at hbm
        subst hbm
        have ha' := (uq_mem _ l' rfl a).1 ha
        have k1 := (List.pairwise_append.1 hs).2.2 a ha' b (by simp)
        have bb := hb b (by simp)
        by_cases c : lv M0 a < lv M0 b
        · exact c
        · exfalso
          have k2 : lv M0 a = lv M0 b := by
            have hn : ¬ lv M0 b < lv M0 a := fun h => k1 ((less_lv bb (hb' a ha')).2 h)
            omega
          have e := inj_lv (hb' a ha') bb k2
          subst e
          rw [uq_last _ _ rfl] at hl
          obtain ⟨g, hg⟩ : ∃ g, l'.getLast? = some g := ⟨_, List.getLast?_eq_some_getLast (List.ne_nil_of_mem ha')⟩
          have hga : g ≠ a := fun e => hl (by rw [hg, e])
          have hgm := List.mem_of_getLast? hg
          have k3 := (List.pairwise_append.1 hs).2.2 g hgm a (by simp)
          have k4 : lv M0 g ≤ lv M0 a := by
            have hn : ¬ lv M0 a < lv M0 g := fun h => k3 ((less_lv (hb' a ha') (hb' g hgm)).2 h)
            omega
          have k5 : lv M0 a ≤ lv M0 g := by
            rcases snoc_or l' with rfl | ⟨l2, c2, rfl⟩
            · cases ha'
            · simp at hg
              subst hg
              rcases List.mem_append.1 ha' with hx | hx
              · have k6 := (List.pairwise_append.1 (List.pairwise_append.1 hs).1).2.2 a hx c2 (by simp)
                have hn : ¬ lv M0 c2 < lv M0 a := fun h => k6 ((less_lv (hb' c2 hgm) (hb' a ha')).2 h)
                omega
              · simp at hx; rw [hx]; exact Int.le_refl _
          exact hga (inj_lv (hb' g hgm) (hb' a ha') (by omega))
end Go.Proofs.Ytopmolpnmpchoaa
