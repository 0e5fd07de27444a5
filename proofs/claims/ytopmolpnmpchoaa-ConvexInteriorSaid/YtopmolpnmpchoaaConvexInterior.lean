/- Proved: the law ConvexInterior returns true for every input, and each argument reads afterwards as before. No conditions. -/
import Derived.Test.YtopmolpnmpchoaaCvLaw7
namespace Go.Proofs.Ytopmolpnmpchoaa
open Go.ChangeShapes Go.WideShapes Go.ChangeAt Go.RowKit

set_option maxRecDepth 100000 in
theorem convexInterior_core (H : Type) (enc : TypeId × Value → H) (W : World) (base : Nat) (args : Array Value) (ds : List (DataW H)) (p : List MemPlace)
    (hval : ∀ (j : Nat) t v, Try.f10.params[j]? = some t → args[j]? = some v → Value.okWide Try.prog W .any base t v)
    (hA : DataW.TrodAll enc Try.prog W 0 (fun _ => true) true Try.f10.params.toList args.toList ds p) :
    Calls Try.prog 10 args W fun e W' => e = .returned (.bool true) ∧ Below W.heap.size W W' := by
  rw [Try.params10] at hA hval
  obtain ⟨v0, vs0, d0, ds0, p0, q0, hargs, rfl, rfl, h0, r0⟩ := trodAll_cons hA
  obtain ⟨v1, vs1, d1, ds1, p1, q1, rfl, rfl, rfl, h1, r1⟩ := trodAll_cons r0
  obtain ⟨v2, vs2, d2, ds2, p2, q2, rfl, rfl, rfl, h2, r2⟩ := trodAll_cons r1
  obtain ⟨rfl, rfl, rfl⟩ := trodAll_nil r2
  obtain rfl : args = #[v0, v1, v2] := by cases args; simp_all
  obtain ⟨A0, c0, l0, rfl, g0, m0⟩ := open_pts (hval 0 22 v0 rfl rfl) h0
  obtain ⟨x1, rfl⟩ := open_pt (hval 1 31 v1 rfl rfl) h1
  obtain ⟨x2, rfl⟩ := open_pt (hval 2 31 v2 rfl rfl) h2
  exact convexInterior_walk A0 c0 l0 x1 x2 W g0 m0

set_option maxRecDepth 100000 in
theorem convexInterior_lifted (os : Os) (started : os.Started) (H : Type) (enc : TypeId × Value → H) :
    ReturnsInHanded {} Try.checked os 10 .any (Rows.convexInteriorSpec.pre6 enc Try.prog Try.f10 Rows.convexInteriorRow.domain false) (Rows.convexInteriorSpec.post enc Try.prog Try.f10 false true false false) := by
  refine returnsInHanded_of_change (C := Try.checked) own started (by kernel_rfl) Try.func10
    (ChangeSpec.witness6 (enc := enc) (C := Try.checked) false ⟨#[], #[.slice none 0 0, .agg #[.int .i64 0, .int .i64 0], .agg #[.int .i64 0, .int .i64 0]], []⟩ 8 (by kernel_rfl) (by kernel_rfl) (by kernel_rfl) (by kernel_rfl)) ?_
  intro W base args ds gs before hval hW _ _
  refine law_frame 10 Try.f10 Rows.convexInteriorSpec rfl (by kernel_rfl) ?_ ?_ hW fun p hA => convexInterior_core H enc W base args ds p hval hA
  · intro t ht
    rw [Try.params10] at ht
    have ht' : t ∈ ([22, 31, 31] : List TypeId) := ht
    simp only [List.mem_cons, List.not_mem_nil, or_false] at ht'
    rcases ht' with rfl | rfl | rfl <;> exact ⟨by kernel_rfl, of_decide_eq_true (by kernel_rfl)⟩
  · intro ds hds
    rw [Try.params10] at hds
    match ds, hds with
    | [d0, d1, d2], _ => rfl

theorem convexInterior_holds : Rows.ConvexInteriorSaid :=
  OpenClaim.holds_of_wide 10 Try.f10 rfl rfl rfl rfl rfl rfl rfl ⟨rfl, rfl, rfl, rfl, rfl⟩ rfl rfl rfl rfl rfl (by kernel_rfl) Try.func10 (by kernel_rfl)
    (of_decide_eq_true (by kernel_rfl)) (by unfold Func.isWrapper; first | (rw [if_pos (by decide +kernel)]; kernel_rfl) | (rw [if_neg (by decide +kernel)]; exact ⟨rfl, rfl⟩))
    (fun os started H enc _ => convexInterior_lifted os started H enc)
#print axioms convexInterior_holds
end Go.Proofs.Ytopmolpnmpchoaa
