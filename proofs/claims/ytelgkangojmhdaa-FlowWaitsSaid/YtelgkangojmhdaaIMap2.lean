/- Maps from ints to ints that the call makes: the index of bundles. -/
import Derived.Test.YtelgkangojmhdaaG1
import Derived.Test.YtelgkangojmhdaaG2
import Derived.Test.YtelgkangojmhdaaG7
namespace Go.Proofs.Ytelgkangojmhdaa
open Go.RowKit Go.Maps

theorem zeroInt' (w : World) : (zeroValue 3).run Try.prog w = .ok (.int .i64 0) w := by kernel_rfl
def rInt : Value → Option (DataW Unit × List MemPlace)
  | .int .i64 x => some (.lit (.int .i64 x), [])
  | _ => none
theorem rInt_mk (x : Int) : rInt (.int .i64 x) = some (.lit (.int .i64 x), []) := rfl
theorem rInt_inv {v : Value} {z : DataW Unit × List MemPlace} (h : rInt v = some z) : ∃ x, v = .int .i64 x ∧ z = (.lit (.int .i64 x), []) := by
  unfold rInt at h
  split at h
  · injection h with h; exact ⟨_, rfl, h.symm⟩
  · cases h
def ixF (bs : List Bn) (k : Nat) (y : Int) : Option (DataW Unit) := (ixN bs k y).map fun i => .lit (.int .i64 (i : Int))
theorem ixF_zero (bs : List Bn) : ixF bs 0 = fun _ => none := rfl
theorem ixF_succ (bs : List Bn) (k : Nat) : (fun y => if y = (bs.getD k bn0).tk then some (DataW.lit (H := Unit) (.int .i64 (k : Int))) else ixF bs k y) = ixF bs (k + 1) := by
  funext y
  unfold ixF
  rw [show ixN bs (k + 1) y = if y = (bs.getD k bn0).tk then some k else ixN bs k y from rfl]
  by_cases e : y = (bs.getD k bn0).tk
  · rw [if_pos e, if_pos e]; rfl
  · rw [if_neg e, if_neg e]
section
variable {w : World} {ops : Array Oper} {rest : List Oper} {o : Oper} {a : Act} {Q : Exit → Act → World → Prop} {b M : Nat} {bs : List Bn} {k : Nat} {x : Int}
theorem wpList_ix_put (hg : o.guard = none) (m y v : Operand) (hop : o.op = Op.mapUpdate 99 m y v) (hm : a.eval m = .map (some b)) (hS : IM rInt w b M (ixF bs k)) (hM : M < 1000000) (hy : a.eval y = .int .i64 x) (hx : x = (bs.getD k bn0).tk)
    (hv : a.eval v = .int .i64 (k : Int)) (h0 : -9223372036854775808 ≤ x) (h1 : x ≤ 9223372036854775807)
    (hK : ∀ w', IM rInt w' b (M + 1) (ixF bs (k + 1)) → w.grownBy w' (some b) → wpList Try.prog ops Q rest (a.put o.dst undef) w') : wpList Try.prog ops Q (o :: rest) a w := by
  obtain ⟨n, D, hn, hown, hV⟩ := hS
  refine wpList_mapUpdate_own w hg m y v 99 hop 3 3 keyInt Try.underlying99 rInt b n D hm hown (by unfold maxLen; omega) _ _ (ik x) hy hv (ikey h0 h1) _ [] (rInt_mk _) ?_
  intro w' hown' hgrow
  exact hK w' ⟨n + 1, _, by omega, hown', by rw [← ixF_succ, ← hx]; exact hV.put x _⟩ hgrow
def ixV (z : Option Nat) : Int := match z with | none => 0 | some i => (i : Int)
theorem wpList_ix_look (hg : o.guard = none) (m y : Operand) (hop : o.op = Op.lookup 99 m y false) (hm : a.eval m = .map (some b)) (hS : IM rInt w b M (ixF bs k)) (hy : a.eval y = .int .i64 x)
    (h0 : -9223372036854775808 ≤ x) (h1 : x ≤ 9223372036854775807) (hK : wpList Try.prog ops Q rest (a.put o.dst (.int .i64 (ixV (ixN bs k x)))) w) : wpList Try.prog ops Q (o :: rest) a w := by
  refine wpList_plain hg fun K' hK' => ?_
  obtain ⟨n, D, _, hown, hV⟩ := hS
  obtain ⟨v, ps, hrun, hv⟩ := hown.lookup keyInt Try.underlying99 (zeroInt' w) (rInt_mk 0) (ikey h0 h1)
  obtain ⟨c, rfl, hc⟩ := rInt_inv hv
  have hat := hV.2.2.1 x (.lit (.int .i64 0))
  have e : c = ixV (ixN bs k x) := by
    have h2 := congrArg Prod.fst hc
    simp only at h2
    rw [hat] at h2
    unfold ixF at h2
    unfold ixV
    cases hx : ixN bs k x with
    | none => rw [hx] at h2; simp at h2; exact h2.symm
    | some i => rw [hx] at h2; simp at h2; exact h2.symm
  subst e
  unfold Oper.wp
  simp [execOp, hop, hm, hy, hrun, Result.andThen]
  exact hK' _ _ hK
theorem wpList_ix_ok (hg : o.guard = none) (m y : Operand) (hop : o.op = Op.lookup 99 m y true) (hm : a.eval m = .map (some b)) (hS : IM rInt w b M (ixF bs k)) (hy : a.eval y = .int .i64 x)
    (h0 : -9223372036854775808 ≤ x) (h1 : x ≤ 9223372036854775807) (hK : wpList Try.prog ops Q rest (a.put o.dst (.tuple #[.int .i64 (ixV (ixN bs k x)), .bool (ixN bs k x).isSome])) w) : wpList Try.prog ops Q (o :: rest) a w := by
  obtain ⟨n, D, _, hown, hV⟩ := hS
  refine wpList_lookup_own_ok w hg m y 99 hop 3 3 keyInt Try.underlying99 rInt (zeroInt' w) (.lit (.int .i64 0)) [] rfl b n D hm hown _ (ik x) hy (ikey h0 h1) ?_
  intro v ps hv
  rw [hV.2.1]
  rw [hV.2.2.1] at hv
  obtain ⟨c, rfl, hc⟩ := rInt_inv hv
  have h2 := congrArg Prod.fst hc
  unfold ixF at h2 ⊢
  cases hx : ixN bs k x with
  | none => rw [hx] at h2 hK; simp at h2; subst h2; simpa [ixV] using hK
  | some i => rw [hx] at h2 hK; simp at h2; subst h2; simpa [ixV] using hK
end
end Go.Proofs.Ytelgkangojmhdaa
