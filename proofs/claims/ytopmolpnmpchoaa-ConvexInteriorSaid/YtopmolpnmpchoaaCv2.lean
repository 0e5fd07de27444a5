/- Walks of cmp.Compare, cmp.Or, convex.compare and of the reference's Between. -/
import Derived.Test.YtopmolpnmpchoaaCv1
import Derived.Deep.QuietTactic
import Derived.BigQuiet
import Derived.RegionTactic
import Derived.BigRegion
import Derived.Deep.RegionWith
import Derived.Deep.RegionHeld3
import Derived.StillTailTactics
namespace Go.Proofs.Ytopmolpnmpchoaa
open Go.RowKit

def cmpI (x y : Int) : Int := if x < y then -1 else if y < x then 1 else 0
set_option maxHeartbeats 1000000 in
theorem cmpCompare_any (x y : Int) (W : World) : Calls Try.prog 52 #[.int .i64 x, .int .i64 y] W fun e w' => e = .returned (.int .i64 (cmpI x y)) ∧ W = w' := by
  rcases Int.lt_trichotomy x y with h | h | h
  · have H := hid (show cmpI x y = -1 from by unfold cmpI; rw [if_pos h])
    go_enter Try.func52, Try.ntmps52
    go_wp2
    go_ret
    exact ⟨ret_int H.out.symm, rfl⟩
  · subst h
    have H := hid (show cmpI x x = 0 from by unfold cmpI; rw [if_neg (by omega), if_neg (by omega)])
    go_enter Try.func52, Try.ntmps52
    go_wp2
    go_ret
    exact ⟨ret_int H.out.symm, rfl⟩
  · have H := hid (show cmpI x y = 1 from by unfold cmpI; rw [if_neg (by omega), if_pos h])
    have h' : ¬ x < y := by omega
    go_enter Try.func52, Try.ntmps52
    go_wp2
    go_ret
    exact ⟨ret_int H.out.symm, rfl⟩
def orI (x y : Int) : Int := if x = 0 then y else x
theorem orI_z (y : Int) : orI 0 y = y := by unfold orI; rw [if_pos rfl]
theorem orI_n {x : Int} (h : x ≠ 0) (y : Int) : orI x y = x := by unfold orI; rw [if_neg h]
set_option maxHeartbeats 1000000 in
theorem cmpOr_any (x y : Int) (b cap : Nat) (W : World) (c0 : W.cell? ⟨b, 0, none⟩ = some (.int .i64 x)) (c1 : W.cell? ⟨b, 1, none⟩ = some (.int .i64 y)) :
    Calls Try.prog 51 #[.slice (some ⟨b, 0, none⟩) 2 cap] W fun e w' => e = .returned (.int .i64 (orI x y)) ∧ W = w' := by
  have key : x = 0 ∧ y = 0 ∨ x = 0 ∧ y ≠ 0 ∧ (y == 0) = false ∨ x ≠ 0 ∧ (x == 0) = false := by
    by_cases h1 : x = 0 <;> by_cases h2 : y = 0 <;> simp [h1, h2]
  go_enter Try.func51, Try.ntmps51
  go_wp2
  go_loopw [5, 8] (fun _ i wr => ∃ k : Nat, i = .int .i64 k ∧ Hid (k = 0 ∨ (k = 1 ∧ x = 0) ∨ (k = 2 ∧ x = 0 ∧ y = 0)) ∧ wr = W) (fun _ i _ => 2 - (intOf i).toNat)
  case atStart => exact ⟨0, rfl, .inl rfl, rfl⟩
  case round =>
    obtain ⟨k, rfl, h, rfl⟩ := hrel
    rcases h.out with rfl | ⟨rfl, rfl⟩ | ⟨rfl, rfl, rfl⟩
    · clear h
      rcases key with ⟨rfl, rfl⟩ | ⟨rfl, e2, f2⟩ | ⟨e1, f1⟩
      · go_wp2
        go_roundw
        case rel => exact ⟨1, rfl, .inr (.inl ⟨rfl, by first | rfl | trivial⟩), by first | rfl | trivial⟩
        case measure => simp [intOf]
      · clear e2
        go_wp2
        go_roundw
        case rel => exact ⟨1, rfl, .inr (.inl ⟨rfl, by first | rfl | trivial⟩), by first | rfl | trivial⟩
        case measure => simp [intOf]
      · have HR := hid (orI_n e1 y)
        clear e1
        go_wp2
        go_ret
        exact ⟨ret_int HR.out.symm, rfl⟩
    · clear h
      have HR := hid (orI_z y)
      rcases key with ⟨_, rfl⟩ | ⟨_, e2, f2⟩ | ⟨e1, _⟩
      · go_wp2
        go_roundw
        case rel => exact ⟨2, rfl, .inr (.inr ⟨rfl, by first | rfl | trivial, by first | rfl | trivial⟩), by first | rfl | trivial⟩
        case measure => simp [intOf]
      · clear e2
        go_wp2
        go_ret
        exact ⟨ret_int HR.out.symm, rfl⟩
      · exact absurd rfl e1
    · clear h key
      have HR := hid (orI_z 0)
      go_wp2
      go_ret
      exact ⟨ret_int HR.out.symm, rfl⟩

def cfPt (x y : Pt) : Int := orI (cmpI x.x y.x) (cmpI x.y y.y)
set_option maxHeartbeats 2000000 in
theorem compare_any (x y : Pt) (W : World) : Calls Try.prog 43 #[.agg #[.int .i64 x.x, .int .i64 x.y], .agg #[.int .i64 y.x, .int .i64 y.y]] W fun e w' => e = .returned (.int .i64 (cfPt x y)) ∧ ∃ a b c q, w' = (((W.alloc a).alloc b).alloc c).drewN q := by
  go_enter Try.func43, Try.ntmps43
  go_wp2_with fail
  generalize hw2 : (W.alloc (.cells #[.int .i64 x.x, .int .i64 x.y] 31)).alloc (.cells #[.int .i64 y.x, .int .i64 y.y] 31) = w2
  have c0 : w2.drew.cell? ⟨W.heap.size, 0, none⟩ = some (.int .i64 x.x) := by rw [← hw2]; simp [go_sem]
  have c1 : w2.drew.cell? ⟨W.heap.size, 1, none⟩ = some (.int .i64 x.y) := by rw [← hw2]; simp [go_sem]
  have c2 : w2.drew.cell? ⟨W.heap.size + 1, 0, none⟩ = some (.int .i64 y.x) := by rw [← hw2]; simp [go_sem]
  have c3 : w2.drew.cell? ⟨W.heap.size + 1, 1, none⟩ = some (.int .i64 y.y) := by rw [← hw2]; simp [go_sem]
  have HW := hid hw2
  clear hw2
  refine wp_region_still_tail 10 (by kernel_rfl) (by kernel_rfl) ?_
  change wpStill _ _ (World.drew w2) (fun a' => wpList _ _ _ _ a' (World.drew w2)) _ _
  generalize hw3 : w2.drew = w3 at *
  simp only [List.take_succ_cons, List.take_zero, List.drop_succ_cons, List.drop_zero]
  repeat still_step
  still_call (cmpCompare_any _ _ _).mono fun e w' h => ⟨h.1, h.2.symm⟩
  repeat still_step
  still_call (cmpCompare_any _ _ _).mono fun e w' h => ⟨h.1, h.2.symm⟩
  refine wpStill_nil ?_
  have HW3 := hid hw3
  clear hw3
  go_wp2_with ((go_at_call 51; refine (cmpOr_any (cmpI x.x y.x) (cmpI x.y y.y) _ _ _ (by simp [go_sem]) (by simp [go_sem])).mono ?_; rintro e w' ⟨rfl, rfl⟩))
  go_ret
  exact ⟨rfl, _, _, _, 1, by rw [← HW3.out, ← HW.out]; rfl⟩
end Go.Proofs.Ytopmolpnmpchoaa
