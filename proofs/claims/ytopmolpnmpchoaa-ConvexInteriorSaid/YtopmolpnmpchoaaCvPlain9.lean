/- Plain laws of convex hulls: spots on one line; hull and wrapping agree. No program in sight. -/
import Derived.Test.YtopmolpnmpchoaaCvPlain8
namespace Go.Proofs.Ytopmolpnmpchoaa

theorem far_of {a b q : Pt} {n t : Int} (hn : 0 < n) (h0 : 0 ≤ t) (h1 : t ≤ n) (hx : n * (q.x - a.x) = t * (b.x - a.x)) (hy : n * (q.y - a.y) = t * (b.y - a.y)) (hne : b ≠ a) : q = b ∨ dist a q < dist a b := by
  have hd : n * dist a q = t * dist a b := by
    rw [dist_dv, dist_dv, Int.mul_add, Int.mul_add, max_scale hn h0 hx, max_scale hn h0 hy]
  by_cases e : t = n
  · left
    rw [e] at hx hy
    have x1 := Int.eq_of_mul_eq_mul_left (by omega) hx
    have y1 := Int.eq_of_mul_eq_mul_left (by omega) hy
    exact Pt.same (by omega) (by omega)
  · right
    have h2 := Int.mul_lt_mul_of_pos_right (show t < n by omega) (dist_pos hne)
    rw [← hd] at h2
    exact Int.lt_of_mul_lt_mul_left h2 (Int.le_of_lt hn)
theorem flat_next {M : Pt} {l : List Pt} {a b : Pt} (hb : b ∈ l) (hab : lv M a < lv M b) (hz : ∀ q ∈ l, crs a b q = 0) (h0 : ∀ q ∈ l, lv M a ≤ lv M q) (h1 : ∀ q ∈ l, lv M q ≤ lv M b) : NextIs l a b := by
  have hne : b ≠ a := by intro e; rw [e] at hab; omega
  refine ⟨hb, hne, fun q hq => by rw [hz q hq]; exact Int.le_refl _, fun q hq z => ?_⟩
  have k0 := h0 q hq
  have k1 := h1 q hq
  have ex : (lv M b - lv M a) * (q.x - a.x) = (lv M q - lv M a) * (b.x - a.x) - M.y * crs a b q := by unfold lv crs; grind
  have ey : (lv M b - lv M a) * (q.y - a.y) = (lv M q - lv M a) * (b.y - a.y) + M.x * crs a b q := by unfold lv crs; grind
  rw [z, Int.mul_zero] at ex ey
  exact far_of (n := lv M b - lv M a) (t := lv M q - lv M a) (by omega) (by omega) (by omega) (by omega) (by omega) hne
theorem flat_round {M : Pt} {l : List Pt} {s g : Pt} (hs : s ∈ l) (hg : g ∈ l) (hsg : lv M s < lv M g) (hc : Col l) (h0 : ∀ q ∈ l, lv M s ≤ lv M q) (h1 : ∀ q ∈ l, lv M q ≤ lv M g) : Round M l [s, g] := by
  have n1 : NextIs l s g := flat_next (M := M) hg hsg (fun q hq => hc s hs g hg q hq) h0 h1
  have n2 : NextIs l g s := flat_next (M := ng M) hs (by rw [lv_ng, lv_ng]; omega) (fun q hq => hc g hg s hs q hq) (fun q hq => by rw [lv_ng, lv_ng]; have := h1 q hq; omega) (fun q hq => by rw [lv_ng, lv_ng]; have := h0 q hq; omega)
  have e : ∀ i, (rd [s, g] i = s ∧ rd [s, g] (i + 1) = g) ∨ (rd [s, g] i = g ∧ rd [s, g] (i + 1) = s) := by
    intro i
    induction i with
    | zero => exact .inl ⟨rfl, rfl⟩
    | succ i ih =>
      have e2 : rd [s, g] (i + 1 + 1) = rd [s, g] i := rd_zero_of [s, g] i
      rcases ih with ⟨a, b⟩ | ⟨a, b⟩
      · exact .inr ⟨b, by rw [e2, a]⟩
      · exact .inl ⟨b, by rw [e2, a]⟩
  refine ⟨by simp, fun i => ?_, fun i => ?_, h0, fun i k1 k2 => ?_⟩
  · rcases e i with ⟨a, _⟩ | ⟨a, _⟩ <;> rw [a] <;> assumption
  · rcases e i with ⟨a, b⟩ | ⟨a, b⟩ <;> rw [a, b] <;> assumption
  · have : i = 1 := by simp at k2; omega
    subst this
    exact hsg
end Go.Proofs.Ytopmolpnmpchoaa
