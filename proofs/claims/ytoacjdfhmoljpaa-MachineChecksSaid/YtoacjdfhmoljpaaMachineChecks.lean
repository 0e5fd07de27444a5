/- Proved: the law MachineChecks returns true for every input, and each argument reads afterwards as before. No conditions. -/
import Derived.Test.YtoacjdfhmoljpaaMachOpen
import Derived.Test.YtoacjdfhmoljpaaMachLaw1
namespace Go.Proofs.Ytoacjdfhmoljpaa
open Go.ChangeShapes Go.WideShapes Go.ChangeAt Go.RowKit

theorem machineChecks_core (H : Type) (enc : TypeId × Value → H) (W : World) (base : Nat) (args : Array Value) (ds : List (DataW H)) (p : List MemPlace)
    (hval : ∀ (j : Nat) t v, Try.f3.params[j]? = some t → args[j]? = some v → Value.okWide Try.prog W .any base t v)
    (hA : DataW.TrodAll enc Try.prog W 0 (fun _ => true) true Try.f3.params.toList args.toList ds p) :
    Calls Try.prog 3 args W fun e W' => e = .returned (.bool true) ∧ Below W.heap.size W W' := by
  rw [Try.params3] at hA hval
  obtain ⟨v0, vs0, d0, ds0, p0, q0, hargs, rfl, rfl, h0, r0⟩ := trodAll_cons hA
  obtain ⟨rfl, rfl, rfl⟩ := trodAll_nil r0
  obtain rfl : args = #[v0] := by cases args; simp_all
  obtain ⟨A0, c0, l0, rfl, g0, m0⟩ := open_downs (hval 0 22 v0 rfl rfl) h0
  exact machineChecks_walk A0 c0 l0 W g0 m0

set_option maxRecDepth 100000 in
theorem machineChecks_lifted (os : Os) (started : os.Started) (H : Type) (enc : TypeId × Value → H) :
    ReturnsInHanded {} Try.checked os 3 .any (Rows.machineChecksSpec.pre6 enc Try.prog Try.f3 Rows.machineChecksRow.domain false) (Rows.machineChecksSpec.post enc Try.prog Try.f3 false true false false) := by
  refine returnsInHanded_of_change (C := Try.checked) own started (by kernel_rfl) Try.func3
    (ChangeSpec.witness6 (enc := enc) (C := Try.checked) false ⟨#[], #[.slice none 0 0], []⟩ 8 (by kernel_rfl) (by kernel_rfl) (by kernel_rfl) (by kernel_rfl)) ?_
  intro W base args ds gs before hval hW _ _
  refine law_frame 3 Try.f3 Rows.machineChecksSpec rfl (by kernel_rfl) ?_ ?_ hW fun p hA => machineChecks_core H enc W base args ds p hval hA
  · intro t ht
    rw [Try.params3] at ht
    simp at ht
    subst ht
    exact ⟨by kernel_rfl, of_decide_eq_true (by kernel_rfl)⟩
  · intro ds hds
    rw [Try.params3] at hds
    match ds, hds with
    | [d0], _ => rfl

theorem machineChecks_holds : Rows.MachineChecksSaid :=
  OpenClaim.holds_of_wide 3 Try.f3 rfl rfl rfl rfl rfl rfl rfl ⟨rfl, rfl, rfl, rfl, rfl⟩ rfl rfl rfl rfl rfl (by kernel_rfl) Try.func3 (by kernel_rfl)
    (of_decide_eq_true (by kernel_rfl)) (by unfold Func.isWrapper; first | (rw [if_pos (by decide +kernel)]; kernel_rfl) | (rw [if_neg (by decide +kernel)]; exact ⟨rfl, rfl⟩))
    (fun os started H enc _ => machineChecks_lifted os started H enc)
#print axioms machineChecks_holds
end Go.Proofs.Ytoacjdfhmoljpaa
