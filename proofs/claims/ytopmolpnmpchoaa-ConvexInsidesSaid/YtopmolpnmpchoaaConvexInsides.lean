/- Proved: the law ConvexInsides returns true for every input, and each argument reads afterwards as before. No conditions. -/
import Derived.Test.YtopmolpnmpchoaaCvLaw2
namespace Go.Proofs.Ytopmolpnmpchoaa
open Go.ChangeShapes Go.WideShapes Go.ChangeAt Go.RowKit

set_option maxRecDepth 100000 in
theorem convexInsides_core (H : Type) (enc : TypeId × Value → H) (W : World) (base : Nat) (args : Array Value) (ds : List (DataW H)) (p : List MemPlace)
    (hval : ∀ (j : Nat) t v, Try.f5.params[j]? = some t → args[j]? = some v → Value.okWide Try.prog W .any base t v)
    (hA : DataW.TrodAll enc Try.prog W 0 (fun _ => true) true Try.f5.params.toList args.toList ds p) :
    Calls Try.prog 5 args W fun e W' => e = .returned (.bool true) ∧ Below W.heap.size W W' := by
  rw [Try.params5] at hA hval
  obtain ⟨v0, vs0, d0, ds0, p0, q0, hargs, rfl, rfl, h0, r0⟩ := trodAll_cons hA
  obtain ⟨v1, vs1, d1, ds1, p1, q1, rfl, rfl, rfl, h1, r1⟩ := trodAll_cons r0
  obtain ⟨rfl, rfl, rfl⟩ := trodAll_nil r1
  obtain rfl : args = #[v0, v1] := by cases args; simp_all
  obtain ⟨A0, c0, l0, rfl, g0, m0⟩ := open_pts (hval 0 22 v0 rfl rfl) h0
  obtain ⟨x1, rfl⟩ := open_pt (hval 1 31 v1 rfl rfl) h1
  exact convexInsides_walk A0 c0 l0 x1 W g0 m0

set_option maxRecDepth 100000 in
theorem convexInsides_lifted (os : Os) (started : os.Started) (H : Type) (enc : TypeId × Value → H) :
    ReturnsInHanded {} Try.checked os 5 .any (Rows.convexInsidesSpec.pre6 enc Try.prog Try.f5 Rows.convexInsidesRow.domain false) (Rows.convexInsidesSpec.post enc Try.prog Try.f5 false true false false) := by
  refine returnsInHanded_of_change (C := Try.checked) own started (by kernel_rfl) Try.func5
    (ChangeSpec.witness6 (enc := enc) (C := Try.checked) false ⟨#[], #[.slice none 0 0, .agg #[.int .i64 0, .int .i64 0]], []⟩ 8 (by kernel_rfl) (by kernel_rfl) (by kernel_rfl) (by kernel_rfl)) ?_
  intro W base args ds gs before hval hW _ _
  refine law_frame 5 Try.f5 Rows.convexInsidesSpec rfl (by kernel_rfl) ?_ ?_ hW fun p hA => convexInsides_core H enc W base args ds p hval hA
  · intro t ht
    rw [Try.params5] at ht
    have ht' : t ∈ ([22, 31] : List TypeId) := ht
    simp only [List.mem_cons, List.not_mem_nil, or_false] at ht'
    rcases ht' with rfl | rfl <;> exact ⟨by kernel_rfl, of_decide_eq_true (by kernel_rfl)⟩
  · intro ds hds
    rw [Try.params5] at hds
    match ds, hds with
    | [d0, d1], _ => rfl

theorem convexInsides_holds : Rows.ConvexInsidesSaid :=
  OpenClaim.holds_of_wide 5 Try.f5 rfl rfl rfl rfl rfl rfl rfl ⟨rfl, rfl, rfl, rfl, rfl⟩ rfl rfl rfl rfl rfl (by kernel_rfl) Try.func5 (by kernel_rfl)
    (of_decide_eq_true (by kernel_rfl)) (by unfold Func.isWrapper; first | (rw [if_pos (by decide +kernel)]; kernel_rfl) | (rw [if_neg (by decide +kernel)]; exact ⟨rfl, rfl⟩))
    (fun os started H enc _ => convexInsides_lifted os started H enc)
#print axioms convexInsides_holds
end Go.Proofs.Ytopmolpnmpchoaa
