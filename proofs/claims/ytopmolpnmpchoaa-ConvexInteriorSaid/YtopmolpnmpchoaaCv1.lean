/- Slices of spots; walks of the small functions on spots: each computes its plain function; nothing that lay in memory is changed. -/
import Derived.Test.YtopmolpnmpchoaaRows
import Derived.Test.YtopmolpnmpchoaaLawKit
import Derived.Test.YtopmolpnmpchoaaCvPlain13
import Derived.WalkKit
import Derived.WalkSpells
import Derived.WalkLawsBesides
import Derived.WalkSmall
import Derived.Below
namespace Go.Proofs.Ytopmolpnmpchoaa
open Go.RowKit

theorem hid {p : Prop} (h : p) : Hid p := h
/-- The slice at A reads as the spots l; it lies below block B. -/
def PRd (w : World) (B : Nat) (A : Option Addr) (l : List Pt) : Prop :=
  l ≠ [] → ∃ b off, A = some ⟨b, off, none⟩ ∧ b < B ∧ ∀ i p, l[i]? = some p →
    w.cell? ⟨b, off + i * 2, none⟩ = some (.int .i64 p.x) ∧ w.cell? ⟨b, off + i * 2 + 1, none⟩ = some (.int .i64 p.y)
theorem PRd.below {w w' : World} {B : Nat} {A : Option Addr} {l : List Pt} (h : PRd w B A l) (hb : Below B w w') : PRd w' B A l := by
  intro hl
  obtain ⟨b, off, e, hB, hc⟩ := h hl
  refine ⟨b, off, e, hB, fun i d hd => ?_⟩
  obtain ⟨c0, c1⟩ := hc i d hd
  exact ⟨(hb.cell (p := ⟨b, _, none⟩) hB).trans c0, (hb.cell (p := ⟨b, _, none⟩) hB).trans c1⟩
theorem PRd.more {w : World} {B B' : Nat} {A : Option Addr} {l : List Pt} (h : PRd w B A l) (hB : B ≤ B') : PRd w B' A l := by
  intro hl
  obtain ⟨b, off, e, hb, hc⟩ := h hl
  exact ⟨b, off, e, by omega, hc⟩
theorem PRd.keep {w w' : World} {B : Nat} {A : Option Addr} {l : List Pt} (h : PRd w B A l) (hb : Below B w w') (hs : B ≤ w'.heap.size) : PRd w' w'.heap.size A l := (h.below hb).more hs
theorem PRd.nil (w : World) (B : Nat) (A : Option Addr) : PRd w B A [] := fun h => absurd rfl h
theorem PRd.at_ {w w' : World} {B : Nat} {A : Option Addr} {l : List Pt} (h : PRd w B A l) (hb : Below B w w') {k : Nat} (hk : k < l.length) :
    ∃ b off s, A = some ⟨b, off, none⟩ ∧ b < B ∧ l[k]? = some s ∧ w'.cell? ⟨b, off + k * 2, none⟩ = some (.int .i64 s.x) ∧ w'.cell? ⟨b, off + k * 2 + 1, none⟩ = some (.int .i64 s.y) := by
  obtain ⟨b, off, e, hB, hc⟩ := (h.below hb) (by intro e; subst e; simp at hk)
  have hd : l[k]? = some l[k] := List.getElem?_eq_getElem hk
  obtain ⟨c0, c1⟩ := hc k _ hd
  exact ⟨b, off, l[k], e, hB, hd, c0, c1⟩

theorem ret_int {k : IntKind} {a b : Int} (h : a = b) : Ending.returned (.int k a) = .returned (.int k b) := by rw [h]
theorem int_eq {k : IntKind} {a b : Int} (h : a = b) : Value.int k a = Value.int k b := by rw [h]
theorem ret_bool {a b : Bool} (h : a = b) : Ending.returned (.bool a) = .returned (.bool b) := by rw [h]

/-! ## Products within bounds -/
theorem mul_in {a b A B : Int} (ha : -A ≤ a ∧ a ≤ A) (hb : -B ≤ b ∧ b ≤ B) : -(A * B) ≤ a * b ∧ a * b ≤ A * B := by
  have hA : 0 ≤ A := by omega
  have hB : 0 ≤ B := by omega
  have h1 := Int.mul_nonneg (show 0 ≤ A - a by omega) (show 0 ≤ B - b by omega)
  have h2 := Int.mul_nonneg (show 0 ≤ A + a by omega) (show 0 ≤ B + b by omega)
  have h3 := Int.mul_nonneg (show 0 ≤ A - a by omega) (show 0 ≤ B + b by omega)
  have h4 := Int.mul_nonneg (show 0 ≤ A + a by omega) (show 0 ≤ B - b by omega)
  have e1 : (A - a) * (B - b) = A * B - A * b - a * B + a * b := by grind
  have e2 : (A + a) * (B + b) = A * B + A * b + a * B + a * b := by grind
  have e3 : (A - a) * (B + b) = A * B + A * b - a * B - a * b := by grind
  have e4 : (A + a) * (B - b) = A * B - A * b + a * B - a * b := by grind
  constructor <;> omega
theorem crs_in {a b c : Pt} (ha : In 8388608 a) (hb : In 8388608 b) (hc : In 8388608 c) :
    (-281474976710656 ≤ (b.x - a.x) * (c.y - a.y) ∧ (b.x - a.x) * (c.y - a.y) ≤ 281474976710656) ∧ (-281474976710656 ≤ (b.y - a.y) * (c.x - a.x) ∧ (b.y - a.y) * (c.x - a.x) ≤ 281474976710656) := by
  unfold In at ha hb hc
  exact ⟨mul_in (A := 16777216) (B := 16777216) (by omega) (by omega), mul_in (A := 16777216) (B := 16777216) (by omega) (by omega)⟩

theorem below3 (w : World) (a b c : Obj) : Below w.heap.size w (((w.alloc a).alloc b).alloc c) := (((Below.refl _ _).alloc (Nat.le_refl _) _).alloc (by simp) _).alloc (by simp; omega) _
theorem below2 (w : World) (a b : Obj) : Below w.heap.size w ((w.alloc a).alloc b) := ((Below.refl _ _).alloc (Nat.le_refl _) _).alloc (by simp) _
theorem below1 (w : World) (a : Obj) : Below w.heap.size w (w.alloc a) := (Below.refl _ _).alloc (Nat.le_refl _) _

set_option maxHeartbeats 1000000 in
theorem cross_any (a b c : Pt) (w : World) (ha : In 8388608 a) (hb : In 8388608 b) (hc : In 8388608 c) :
    Calls Try.prog 36 #[.agg #[.int .i64 a.x, .int .i64 a.y], .agg #[.int .i64 b.x, .int .i64 b.y], .agg #[.int .i64 c.x, .int .i64 c.y]] w fun e w' => e = .returned (.int .i64 (crs a b c)) ∧ Below w.heap.size w w' := by
  obtain ⟨⟨h1, h2⟩, h3, h4⟩ := crs_in ha hb hc
  have HC : Hid (crs a b c = (b.x - a.x) * (c.y - a.y) - (b.y - a.y) * (c.x - a.x)) := rfl
  unfold In at ha hb hc
  obtain ⟨ax, ay⟩ := a
  obtain ⟨bx, b_y⟩ := b
  obtain ⟨cx, cy⟩ := c
  simp only at *
  go_enter Try.func36, Try.ntmps36
  go_wp2
  go_ret
  exact ⟨ret_int HC.out.symm, below3 _ _ _ _⟩

set_option maxHeartbeats 1000000 in
theorem refCross_any (a b c : Pt) (w : World) (ha : In 8388608 a) (hb : In 8388608 b) (hc : In 8388608 c) :
    Calls Try.prog 25 #[.agg #[.int .i64 a.x, .int .i64 a.y], .agg #[.int .i64 b.x, .int .i64 b.y], .agg #[.int .i64 c.x, .int .i64 c.y]] w fun e w' => e = .returned (.int .i64 (crs a b c)) ∧ Below w.heap.size w w' := by
  obtain ⟨⟨h1, h2⟩, h3, h4⟩ := crs_in ha hb hc
  have HC : Hid (crs a b c = (b.x - a.x) * (c.y - a.y) - (b.y - a.y) * (c.x - a.x)) := rfl
  unfold In at ha hb hc
  obtain ⟨ax, ay⟩ := a
  obtain ⟨bx, b_y⟩ := b
  obtain ⟨cx, cy⟩ := c
  simp only at *
  go_enter Try.func25, Try.ntmps25
  go_wp2
  go_ret
  exact ⟨ret_int HC.out.symm, below3 _ _ _ _⟩

theorem not_in {B : Int} {p : Pt} (h : ¬ In B p) : p.x < -B ∨ (¬ p.x < -B ∧ B < p.x) ∨ (¬ p.x < -B ∧ ¬ B < p.x ∧ p.y < -B) ∨ (¬ p.x < -B ∧ ¬ B < p.x ∧ ¬ p.y < -B ∧ B < p.y) := by unfold In at h; omega
set_option maxHeartbeats 1000000 in
theorem outside_any (p : Pt) (w : World) :
    Calls Try.prog 32 #[.agg #[.int .i64 p.x, .int .i64 p.y]] w fun e w' => e = .returned (.bool (!decide (In 4194304 p))) ∧ Below w.heap.size w w' := by
  by_cases h : In 4194304 p
  · have HR : Hid ((!decide (In 4194304 p)) = false) := by show _ = _; rw [decide_eq_true h]; rfl
    unfold In at h
    obtain ⟨x, y⟩ := p
    simp only at *
    have b1 : decide (x < -4194304) = false := by simp; omega
    have b2 : decide (4194304 < x) = false := by simp; omega
    have b3 : decide (y < -4194304) = false := by simp; omega
    have b4 : decide (4194304 < y) = false := by simp; omega
    clear h
    go_enter Try.func32, Try.ntmps32
    go_wp2
    go_ret
    exact ⟨ret_bool HR.out.symm, below1 _ _⟩
  · have HR : Hid ((!decide (In 4194304 p)) = true) := by show _ = _; rw [decide_eq_false h]; rfl
    have h' := not_in h
    clear h
    obtain ⟨x, y⟩ := p
    simp only at *
    rcases h' with h | ⟨h1, h2⟩ | ⟨h1, h2, h3⟩ | ⟨h1, h2, h3, h4⟩
    all_goals
      go_enter Try.func32, Try.ntmps32
      go_wp2
      go_ret
      exact ⟨ret_bool HR.out.symm, below1 _ _⟩
set_option maxHeartbeats 1000000 in
theorem within_any (p : Pt) (B : Int) (w : World) (hB : 0 ≤ B) (hB2 : B ≤ 1000000000) :
    Calls Try.prog 24 #[.agg #[.int .i64 p.x, .int .i64 p.y], .int .i64 B] w fun e w' => e = .returned (.bool (decide (In B p))) ∧ Below w.heap.size w w' := by
  by_cases h : In B p
  · have HR : Hid (decide (In B p) = true) := decide_eq_true h
    unfold In at h
    obtain ⟨x, y⟩ := p
    simp only at *
    obtain ⟨h1, h2, h3, h4⟩ := h
    go_enter Try.func24, Try.ntmps24
    go_wp2
    go_ret
    exact ⟨ret_bool (by first | exact HR.out.symm | (rw [HR.out]; simp; omega)), below1 _ _⟩
  · have HR : Hid (decide (In B p) = false) := decide_eq_false h
    have h' := not_in h
    clear h
    obtain ⟨x, y⟩ := p
    simp only at *
    rcases h' with h | ⟨h1, h2⟩ | ⟨h1, h2, h3⟩ | ⟨h1, h2, h3, h4⟩
    all_goals
      go_enter Try.func24, Try.ntmps24
      go_wp2
      go_ret
      exact ⟨ret_bool (by first | exact HR.out.symm | (rw [HR.out]; simp; omega)), below1 _ _⟩
set_option maxHeartbeats 1000000 in
theorem less_any (a b : Pt) (w : World) :
    Calls Try.prog 26 #[.agg #[.int .i64 a.x, .int .i64 a.y], .agg #[.int .i64 b.x, .int .i64 b.y]] w fun e w' => e = .returned (.bool (decide (Less a b))) ∧ Below w.heap.size w w' := by
  have key : (a.x < b.x ∧ decide (Less a b) = true) ∨ (¬ a.x < b.x ∧ (a.x == b.x) = true ∧ a.y < b.y ∧ decide (Less a b) = true) ∨ (¬ a.x < b.x ∧ (a.x == b.x) = true ∧ ¬ a.y < b.y ∧ decide (Less a b) = false) ∨ (¬ a.x < b.x ∧ (a.x == b.x) = false ∧ decide (Less a b) = false) := by
    by_cases h1 : a.x < b.x
    · exact .inl ⟨h1, decide_eq_true (.inl h1)⟩
    · by_cases h2 : a.x = b.x
      · have e : (a.x == b.x) = true := by simp [h2]
        by_cases h3 : a.y < b.y
        · exact .inr (.inl ⟨h1, e, h3, decide_eq_true (.inr ⟨h2, h3⟩)⟩)
        · exact .inr (.inr (.inl ⟨h1, e, h3, decide_eq_false (by unfold Less; omega)⟩))
      · exact .inr (.inr (.inr ⟨h1, by simp [h2], decide_eq_false (by unfold Less; omega)⟩))
  obtain ⟨ax, ay⟩ := a
  obtain ⟨bx, b_y⟩ := b
  simp only at *
  rcases key with ⟨h1, hr⟩ | ⟨h1, h2, h3, hr⟩ | ⟨h1, h2, h3, hr⟩ | ⟨h1, h2, hr⟩
  all_goals
    have HR := hid hr
    clear hr
    go_enter Try.func26, Try.ntmps26
    go_wp2
    go_ret
    exact ⟨ret_bool (by first | exact HR.out.symm | (rw [HR.out]; simp; omega)), below2 _ _ _⟩
set_option maxHeartbeats 1000000 in
theorem distance_any (a b : Pt) (w : World) (ha : In 8388608 a) (hb : In 8388608 b) :
    Calls Try.prog 48 #[.agg #[.int .i64 a.x, .int .i64 a.y], .agg #[.int .i64 b.x, .int .i64 b.y]] w fun e w' => e = .returned (.int .i64 (dist a b)) ∧ Below w.heap.size w w' := by
  have HD : Hid (dist a b = max (a.x - b.x) (b.x - a.x) + max (a.y - b.y) (b.y - a.y)) := rfl
  unfold In at ha hb
  obtain ⟨ax, ay⟩ := a
  obtain ⟨bx, b_y⟩ := b
  simp only at *
  go_enter Try.func48, Try.ntmps48
  go_wp2
  all_goals
    go_ret
    exact ⟨ret_int (by rw [HD.out]; omega), below2 _ _ _⟩
set_option maxHeartbeats 1000000 in
theorem limited_any (n m : Int) (w : World) (hm : 0 ≤ m) (hm2 : m ≤ 1000000000) : Calls Try.prog 38 #[.int .i64 n, .int .i64 m] w fun e w' => e = .returned (.int .i64 (lim m n)) ∧ w = w' := by
  go_enter Try.func38, Try.ntmps38
  go_wp2
  all_goals
    go_ret
    exact ⟨ret_int (by unfold lim; omega), rfl⟩
set_option maxHeartbeats 1000000 in
theorem refLimited_any (n m : Int) (w : World) (hm : 0 ≤ m) (hm2 : m ≤ 1000000000) : Calls Try.prog 39 #[.int .i64 n, .int .i64 m] w fun e w' => e = .returned (.int .i64 (lim m n)) ∧ w = w' := by
  go_enter Try.func39, Try.ntmps39
  go_wp2
  all_goals
    go_ret
    exact ⟨ret_int (by unfold lim; omega), rfl⟩
end Go.Proofs.Ytopmolpnmpchoaa
