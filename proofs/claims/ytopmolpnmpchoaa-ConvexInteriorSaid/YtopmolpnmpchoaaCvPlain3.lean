/- Plain laws of convex hulls: the two halves make a hull. No program in sight. -/
import Derived.Test.YtopmolpnmpchoaaCvPlain2
namespace Go.Proofs.Ytopmolpnmpchoaa

def gt (s : List Pt) (i : Nat) : Pt := s.getD i ⟨0, 0⟩
def rd (h : List Pt) (i : Nat) : Pt := gt h (i % h.length)
def ng (M : Pt) : Pt := ⟨-M.x, -M.y⟩
theorem lv_ng (M u : Pt) : lv (ng M) u = - lv M u := by unfold lv ng; grind
theorem gt_mem {s : List Pt} {i : Nat} (h : i < s.length) : gt s i ∈ s := by
  unfold gt
  rw [List.getD_eq_getElem?_getD, List.getElem?_eq_getElem h]
  exact List.getElem_mem h
theorem gt_rev {s : List Pt} {i : Nat} (h : i < s.length) : gt s.reverse i = gt s (s.length - 1 - i) := by
  unfold gt
  rw [List.getD_eq_getElem?_getD, List.getD_eq_getElem?_getD, List.getElem?_reverse h]
theorem gt_app1 {a b : List Pt} {i : Nat} (h : i < a.length) : gt (a ++ b) i = gt a i := by
  unfold gt
  rw [List.getD_eq_getElem?_getD, List.getD_eq_getElem?_getD, List.getElem?_append_left h]
theorem gt_app2 {a b : List Pt} {i : Nat} (h : a.length ≤ i) : gt (a ++ b) i = gt b (i - a.length) := by
  unfold gt
  rw [List.getD_eq_getElem?_getD, List.getD_eq_getElem?_getD, List.getElem?_append_right h]
theorem gt_tail (s : List Pt) (i : Nat) : gt s.tail i = gt s (i + 1) := by
  unfold gt
  cases s with
  | nil => rfl
  | cons a r => rfl
theorem Edges.at {P : Pt → Pt → Prop} : ∀ {s : List Pt}, Edges P s → ∀ j, j + 1 < s.length → P (gt s (j + 1)) (gt s j)
  | [], _, j, h => by simp at h
  | [_], _, j, h => by simp at h
  | b :: a :: r, hs, 0, _ => hs.1
  | b :: a :: r, hs, j + 1, h => Edges.at (s := a :: r) hs.2 j (by simp at h ⊢; omega)
theorem Turns.at : ∀ {s : List Pt}, Turns s → ∀ j, j + 2 < s.length → 0 < crs (gt s (j + 2)) (gt s (j + 1)) (gt s j)
  | [], _, j, h => by simp at h
  | [_], _, j, h => by simp at h
  | [_, _], _, j, h => by simp at h; omega
  | c :: b :: a :: r, hs, 0, _ => hs.1
  | c :: b :: a :: r, hs, j + 1, h => Turns.at (s := b :: a :: r) hs.2 j (by simp at h ⊢; omega)
theorem rd_mod (h : List Pt) (i k : Nat) : rd h (i + k) = rd h (i % h.length + k) := by
  unfold rd
  rw [Nat.add_mod, Nat.add_mod (i % h.length) k, Nat.mod_mod]
/-- All on one line. -/
def Col (l : List Pt) : Prop := ∀ x ∈ l, ∀ y ∈ l, ∀ z ∈ l, crs x y z = 0
theorem col_of {l : List Pt} {a g : Pt} {M : Pt} (hl : lv M a ≠ lv M g) (h : ∀ q ∈ l, crs a g q = 0) : Col l := by
  intro x hx y hy z hz
  have h1 := h x hx
  have h2 := h y hy
  have h3 := h z hz
  have e := lv_pl M (dv x y) (dv a g) (dv x z)
  have e1 : cv (dv a g) (dv x z) = crs a g z - crs a g x := by unfold cv dv crs; grind
  have e2 : cv (dv x y) (dv a g) = crs a g x - crs a g y := by unfold cv dv crs; grind
  rw [e1, e2, h1, h2, h3] at e
  rw [crs_cv']
  have e3 : lv M (dv a g) ≠ 0 := by rw [lv_dv]; omega
  have e4 : lv M (dv a g) * cv (dv x y) (dv x z) = 0 := by rw [e]; grind
  rcases Int.mul_eq_zero.1 e4 with e | e
  · exact absurd e e3
  · exact e
theorem junction {M : Pt} {l : List Pt} {a g b : Pt} (hag : lv M a < lv M g) (hgb : lv M b < lv M g) (hb : b ∈ l) (h1 : ∀ q ∈ l, 0 ≤ crs a g q) (h2 : ∀ q ∈ l, 0 ≤ crs g b q) (hc : ¬ Col l) : 0 < crs a g b := by
  have h0 := h1 b hb
  by_cases hz : crs a g b = 0
  · exfalso
    refine hc (col_of (M := M) (a := a) (g := g) (by omega) fun q hq => ?_)
    have e := lv_pl M (dv a g) (dv g b) (dv g q)
    rw [← crs_cv, ← crs_cv, ← crs_cv', hz] at e
    have k1 := h1 q hq
    have k2 := h2 q hq
    have k3 : 0 ≤ lv M (dv a g) * crs g b q := Int.mul_nonneg (by rw [lv_dv]; omega) k2
    by_cases hq0 : crs a g q = 0
    · exact hq0
    · exfalso
      have := Int.mul_neg_of_neg_of_pos (show lv M (dv g b) < 0 by rw [lv_dv]; omega) (show 0 < crs a g q by omega)
      simp at e
      omega
  · omega
end Go.Proofs.Ytopmolpnmpchoaa
