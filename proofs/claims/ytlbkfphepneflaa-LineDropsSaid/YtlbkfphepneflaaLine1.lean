/- line.add: its plain function and its walk; words as sets. -/
import Derived.Test.YtlbkfphepneflaaBnd
import Derived.Test.YtlbkfphepneflaaLinePlain
namespace Go.Proofs.Ytlbkfphepneflaa
open Go.RowKit

theorem quo_bnd {f c : Int} (h0 : 0 ≤ f) (h1 : f ≤ 1000000000) (h2 : 1 ≤ c) : 0 ≤ f / c ∧ f / c ≤ 1000000000 ∧ 0 ≤ f / c * c ∧ f / c * c ≤ f ∧ (f / c + 1) * c = f / c * c + c ∧ (f / c + 1 + 1) * c = f / c * c + c + c := by
  have q0 : 0 ≤ f / c := Int.ediv_nonneg h0 (by omega)
  have q1 : f / c * c ≤ f := Int.ediv_mul_le f (by omega)
  have q2 : f / c ≤ f := Int.ediv_le_self c h0
  exact ⟨q0, by omega, Int.mul_nonneg q0 (by omega), q1, by rw [Int.add_mul]; omega, by rw [Int.add_mul, Int.add_mul]; omega⟩
theorem mul_bnd {s c : Int} (h0 : 0 ≤ s) (h1 : s ≤ 1000) (h2 : 1 ≤ c) (h3 : c ≤ 1000000) : 0 ≤ s * c ∧ s * c ≤ 1000000000 ∧ (s + 1) * c = s * c + c := by
  refine ⟨Int.mul_nonneg h0 (by omega), ?_, by rw [Int.add_mul]; omega⟩
  have := Int.mul_le_mul h1 h3 (by omega) (by omega)
  omega
theorem addSt_up {f c m : Int} (h : (f / c + 1) * c < f + m) : addSt f c m (-1) = f / c + 1 := by unfold addSt; rw [if_pos rfl, if_pos h]
theorem addSt_in {f c m : Int} (h : ¬ (f / c + 1) * c < f + m) : addSt f c m (-1) = f / c := by unfold addSt; rw [if_pos rfl, if_neg h]
theorem addSt_given {f c m s : Int} (h : s ≠ -1) : addSt f c m s = s := by unfold addSt; rw [if_neg h]
def AddPost (f c m s : Int) (e : Ending) : Prop := e = .returned (.tuple #[.int .i64 (addV f c m s), .bool (addOk f c m s)])
theorem addPost_of {f c m s v : Int} {b : Bool} (h : addV f c m s = v) (hb : addOk f c m s = b) : AddPost f c m s (.returned (.tuple #[.int .i64 v, .bool b])) := by
  subst h; subst hb; rfl

set_option maxRecDepth 100000 in
set_option maxHeartbeats 2000000 in
theorem add_any (f c m s : Int) (w : World) (h0 : 0 ≤ f) (h1 : f ≤ 1000000000) (h2 : 1 ≤ c) (h3 : c ≤ 1000000) (h4 : 1 ≤ m) (h5 : m ≤ 10000) (h6 : -1 ≤ s) (h7 : s ≤ 1000) :
    Calls Try.prog 36 #[.int .i64 f, .int .i64 c, .int .i64 m, .int .i64 s] w fun e w' => AddPost f c m s e ∧ w = w' := by
  have hne : c ≠ 0 := by omega
  obtain ⟨q0, q1, q2, q3, q4, q5⟩ := quo_bnd h0 h1 h2
  by_cases hs : s = -1
  · subst hs
    go_enter Try.func36, Try.ntmps36
    go_wp2
    all_goals go_ret2
    · exact ⟨addPost_of (by unfold addV; rw [addSt_up (by omega)]; omega) (by unfold addOk addV; rw [addSt_up (by omega), Bool.eq_iff_iff, decide_eq_true_iff, decide_eq_true_iff]; omega), rfl⟩
    · exact ⟨addPost_of (by unfold addV; rw [addSt_up (by omega)]; omega) (by unfold addOk addV; rw [addSt_up (by omega), Bool.eq_iff_iff, decide_eq_true_iff, decide_eq_true_iff]; omega), rfl⟩
    · exact ⟨addPost_of (by unfold addV; rw [addSt_in (by omega)]; omega) (by unfold addOk addV; rw [addSt_in (by omega), decide_eq_true_iff]; omega), rfl⟩
  · obtain ⟨p0, p1, p2⟩ := mul_bnd (s := s) (by omega) h7 h2 h3
    go_enter Try.func36, Try.ntmps36
    go_wp2
    all_goals go_ret2
    · exact ⟨addPost_of (by unfold addV; rw [addSt_given hs]; omega) (by unfold addOk addV; rw [addSt_given hs, Bool.eq_iff_iff, decide_eq_true_iff, decide_eq_true_iff]; omega), rfl⟩
    · exact ⟨addPost_of (by unfold addV; rw [addSt_given hs]; omega) (by unfold addOk addV; rw [addSt_given hs, Bool.eq_iff_iff, decide_eq_true_iff, decide_eq_true_iff]; omega), rfl⟩
end Go.Proofs.Ytlbkfphepneflaa
