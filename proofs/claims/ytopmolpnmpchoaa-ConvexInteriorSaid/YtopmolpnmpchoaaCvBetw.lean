/- garmentref11.Between: whether a spot lies on a segment. Nothing that lay in memory is changed. -/
import Derived.Test.YtopmolpnmpchoaaCv1
namespace Go.Proofs.Ytopmolpnmpchoaa
open Go.RowKit

theorem betw_cases (a b q : Pt) :
    (crs a b q ≠ 0 ∧ decide (betw a b q) = false)
    ∨ (crs a b q = 0 ∧ ¬ min a.x b.x ≤ q.x ∧ decide (betw a b q) = false)
    ∨ (crs a b q = 0 ∧ min a.x b.x ≤ q.x ∧ ¬ q.x ≤ max a.x b.x ∧ decide (betw a b q) = false)
    ∨ (crs a b q = 0 ∧ min a.x b.x ≤ q.x ∧ q.x ≤ max a.x b.x ∧ ¬ min a.y b.y ≤ q.y ∧ decide (betw a b q) = false)
    ∨ (crs a b q = 0 ∧ min a.x b.x ≤ q.x ∧ q.x ≤ max a.x b.x ∧ min a.y b.y ≤ q.y ∧ ¬ q.y ≤ max a.y b.y ∧ decide (betw a b q) = false)
    ∨ (crs a b q = 0 ∧ min a.x b.x ≤ q.x ∧ q.x ≤ max a.x b.x ∧ min a.y b.y ≤ q.y ∧ q.y ≤ max a.y b.y ∧ decide (betw a b q) = true) := by
  by_cases h0 : crs a b q = 0
  · by_cases h1 : min a.x b.x ≤ q.x
    · by_cases h2 : q.x ≤ max a.x b.x
      · by_cases h3 : min a.y b.y ≤ q.y
        · by_cases h4 : q.y ≤ max a.y b.y
          · exact .inr (.inr (.inr (.inr (.inr ⟨h0, h1, h2, h3, h4, decide_eq_true ⟨h0, h1, h2, h3, h4⟩⟩))))
          · exact .inr (.inr (.inr (.inr (.inl ⟨h0, h1, h2, h3, h4, decide_eq_false fun h => h4 h.2.2.2.2⟩))))
        · exact .inr (.inr (.inr (.inl ⟨h0, h1, h2, h3, decide_eq_false fun h => h3 h.2.2.2.1⟩)))
      · exact .inr (.inr (.inl ⟨h0, h1, h2, decide_eq_false fun h => h2 h.2.2.1⟩))
    · exact .inr (.inl ⟨h0, h1, decide_eq_false fun h => h1 h.2.1⟩)
  · exact .inl ⟨h0, decide_eq_false fun h => h0 h.1⟩

set_option maxRecDepth 100000 in
set_option maxHeartbeats 4000000 in
theorem between_any (a b q : Pt) (w : World) (ha : In 8388608 a) (hb : In 8388608 b) (hq : In 8388608 q) :
    Calls Try.prog 30 #[.agg #[.int .i64 a.x, .int .i64 a.y], .agg #[.int .i64 b.x, .int .i64 b.y], .agg #[.int .i64 q.x, .int .i64 q.y]] w fun e w' => e = .returned (.bool (decide (betw a b q))) ∧ Below w.heap.size w w' := by
  have HCR : Hid (∀ wx, Calls Try.prog 25 #[.agg #[.int .i64 a.x, .int .i64 a.y], .agg #[.int .i64 b.x, .int .i64 b.y], .agg #[.int .i64 q.x, .int .i64 q.y]] wx fun e w' => e = .returned (.int .i64 (crs a b q)) ∧ Below wx.heap.size wx w') := fun wx => refCross_any a b q wx ha hb hq
  have HC := hid (betw_cases a b q)
  have HB0 := hid (below3 w (.cells #[.int .i64 a.x, .int .i64 a.y] 31) (.cells #[.int .i64 b.x, .int .i64 b.y] 31) (.cells #[.int .i64 q.x, .int .i64 q.y] 31))
  clear ha hb hq
  generalize crs a b q = c at *
  generalize decide (betw a b q) = r at *
  obtain ⟨ax, ay⟩ := a
  obtain ⟨bx, b_y⟩ := b
  obtain ⟨qx, qy⟩ := q
  simp only at *
  go_enter Try.func30, Try.ntmps30
  go_wp2_with fail
  ((with_reducible refine (HCR.out _).mono ?_); rintro e w1 ⟨rfl, hb1⟩)
  have HB1 := hid (HB0.out.trans (hb1.mono HB0.out.size))
  have k0 : w1.cell? ⟨w.heap.size, 0, none⟩ = some (.int .i64 ax) := (hb1.cell (p := ⟨w.heap.size, 0, none⟩) (by simp; omega)).trans (by simp [go_sem])
  have k1 : w1.cell? ⟨w.heap.size, 1, none⟩ = some (.int .i64 ay) := (hb1.cell (p := ⟨w.heap.size, 1, none⟩) (by simp; omega)).trans (by simp [go_sem])
  have k2 : w1.cell? ⟨w.heap.size + 1, 0, none⟩ = some (.int .i64 bx) := (hb1.cell (p := ⟨w.heap.size + 1, 0, none⟩) (by simp)).trans (by simp [go_sem])
  have k3 : w1.cell? ⟨w.heap.size + 1, 1, none⟩ = some (.int .i64 b_y) := (hb1.cell (p := ⟨w.heap.size + 1, 1, none⟩) (by simp)).trans (by simp [go_sem])
  have k4 : w1.cell? ⟨w.heap.size + 2, 0, none⟩ = some (.int .i64 qx) := (hb1.cell (p := ⟨w.heap.size + 2, 0, none⟩) (by simp)).trans (by simp [go_sem])
  have k5 : w1.cell? ⟨w.heap.size + 2, 1, none⟩ = some (.int .i64 qy) := (hb1.cell (p := ⟨w.heap.size + 2, 1, none⟩) (by simp)).trans (by simp [go_sem])
  clear hb1 HB0 HCR
  have hcs := HC.out
  clear HC
  rcases hcs with ⟨h0, hr⟩ | ⟨h0, h1, hr⟩ | ⟨h0, h1, h2, hr⟩ | ⟨h0, h1, h2, h3, hr⟩ | ⟨h0, h1, h2, h3, h4, hr⟩ | ⟨h0, h1, h2, h3, h4, hr⟩
  · have z : (c == 0) = false := by simp [h0]
    have HR := hid hr
    clear h0 hr
    go_wp2
    go_ret
    exact ⟨ret_bool HR.out.symm, HB1.out⟩
  all_goals
    have z : (c == 0) = true := by simp [h0]
    have HR := hid hr
    clear h0 hr
    go_wp2
    all_goals
      go_ret
      exact ⟨ret_bool (by first | exact HR.out.symm | (rw [HR.out]; simp; omega)), HB1.out⟩
end Go.Proofs.Ytopmolpnmpchoaa
