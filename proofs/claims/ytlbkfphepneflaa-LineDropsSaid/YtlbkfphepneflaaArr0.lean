/- The map of maps that operation.arrange keeps: its laws for the walk. -/
import Derived.Test.YtlbkfphepneflaaOp6
import Derived.Maps.RangeWalk
namespace Go.Proofs.Ytlbkfphepneflaa
open Go.RowKit Go.Maps

def rMap : Value → Option (DataW Unit × List MemPlace)
  | .map (some c) => some (.lit (.int .i64 c), [])
  | .map none => some (.nil, [])
  | _ => none
theorem rMap_mk (c : Nat) : rMap (.map (some c)) = some (.lit (.int .i64 c), []) := rfl
theorem rMap_inv {v : Value} {z : DataW Unit × List MemPlace} (h : rMap v = some z) : ∃ c, v = .map c := by
  unfold rMap at h
  split at h
  · exact ⟨_, rfl⟩
  · exact ⟨_, rfl⟩
  · cases h
theorem rMap_at {v : Value} {c : Nat} {ps : List MemPlace} (h : rMap v = some (.lit (.int .i64 c), ps)) : v = .map (some c) := by
  unfold rMap at h
  split at h
  · rename_i d
    simp at h
    obtain ⟨h, _⟩ := h
    rw [show d = c from by omega]
  · simp at h
  · cases h
theorem rMap_nil {v : Value} {ps : List MemPlace} (h : rMap v = some (.nil, ps)) : v = .map none := by
  unfold rMap at h
  split at h
  · simp at h
  · rfl
  · cases h
theorem zeroMap (w : World) : (zeroValue 62).run Try.prog w = .ok (.map none) w := by kernel_rfl

/-- The outer map holds, for each i of dom, the map at block β i. -/
def outF (β : Nat → Nat) (dom : List Nat) (x : Int) : Option (DataW Unit) := if 0 ≤ x ∧ x.toNat ∈ dom then some (.lit (.int .i64 (β x.toNat))) else none
theorem outF_nil (β : Nat → Nat) : outF β [] = fun _ => none := by funext x; simp [outF]
theorem outF_at (β : Nat → Nat) {dom : List Nat} {i : Nat} (h : i ∈ dom) : outF β dom i = some (.lit (.int .i64 (β i))) := by
  unfold outF; rw [if_pos ⟨by omega, by simpa using h⟩]; simp
theorem outF_not (β : Nat → Nat) {dom : List Nat} {i : Nat} (h : i ∉ dom) : outF β dom i = none := by
  unfold outF; rw [if_neg]; rintro ⟨_, h'⟩; exact h (by simpa using h')
theorem outF_congr {β β' : Nat → Nat} {dom : List Nat} (h : ∀ i ∈ dom, β i = β' i) : outF β dom = outF β' dom := by
  funext x
  unfold outF
  by_cases hx : 0 ≤ x ∧ x.toNat ∈ dom
  · rw [if_pos hx, if_pos hx, h _ hx.2]
  · rw [if_neg hx, if_neg hx]
theorem outF_mem {β : Nat → Nat} {dom dom' : List Nat} (h : ∀ i, i ∈ dom ↔ i ∈ dom') : outF β dom = outF β dom' := by
  funext x; unfold outF; simp [h]
theorem outF_put {β : Nat → Nat} {dom : List Nat} {i : Nat} (c : Nat) (hi : i ∉ dom) : (fun y => if y = (i : Int) then some (DataW.lit (H := Unit) (.int .i64 c)) else outF β dom y) = outF (fun j => if j = i then c else β j) (dom ++ [i]) := by
  funext y
  by_cases e : y = (i : Int)
  · subst e
    rw [if_pos rfl, outF_at _ (by simp)]
    simp
  · rw [if_neg e]
    unfold outF
    by_cases hy : 0 ≤ y ∧ y.toNat ∈ dom
    · have hne : y.toNat ≠ i := fun h => hi (h ▸ hy.2)
      rw [if_pos hy, if_pos ⟨hy.1, by simp [hy.2]⟩]; simp [hne]
    · rw [if_neg hy, if_neg]
      rintro ⟨h0, h1⟩
      rcases List.mem_append.1 h1 with h1 | h1
      · exact hy ⟨h0, h1⟩
      · simp at h1; omega
theorem outF_del {β : Nat → Nat} {dom : List Nat} (i : Nat) : (fun y => if y = (i : Int) then none else outF β dom y) = outF β (dom.filter (· ≠ i)) := by
  funext y
  by_cases e : y = (i : Int)
  · subst e; rw [if_pos rfl, outF_not]; simp
  · rw [if_neg e]
    unfold outF
    by_cases hy : 0 ≤ y ∧ y.toNat ∈ dom
    · rw [if_pos hy, if_pos ⟨hy.1, by simp [hy.2]; omega⟩]
    · rw [if_neg hy, if_neg]
      rintro ⟨h0, h1⟩
      exact hy ⟨h0, (List.mem_filter.1 h1).1⟩
theorem outF_zero {β : Nat → Nat} {dom : List Nat} : (∀ x, outF β dom x = none) ↔ dom = [] := by
  constructor
  · intro h
    cases dom with
    | nil => rfl
    | cons i dom => have := h (i : Int); rw [outF_at β (by simp)] at this; cases this
  · intro h; subst h; simp [outF]

section
variable {w : World} {ops : Array Oper} {rest : List Oper} {o : Oper} {a : Act} {Q : Exit → Act → World → Prop} {b M i : Nat} {β : Nat → Nat} {dom : List Nat} {x : Int}
theorem ikn {i : Nat} (h : i ≤ 1000) : keyOf Try.prog 3 (.int .i64 (i : Int)) = some (ik i) := ikey (by omega) (by omega)
theorem wpList_out_look (hg : o.guard = none) (m y : Operand) (hop : o.op = Op.lookup 61 m y false) (hm : a.eval m = .map (some b)) (hS : IM rMap w b M (outF β dom)) (hy : a.eval y = .int .i64 (i : Int)) (hi : i ≤ 1000) (hd : i ∈ dom)
    (hK : wpList Try.prog ops Q rest (a.put o.dst (.map (some (β i)))) w) : wpList Try.prog ops Q (o :: rest) a w := by
  refine wpList_plain hg fun K' hK' => ?_
  obtain ⟨n, D, _, hown, hV⟩ := hS
  obtain ⟨v, ps, hrun, hv⟩ := hown.lookup keyInt Try.underlying61 (zeroMap w) (zd := .nil) (zp := []) rfl (ikn hi)
  rw [hV.2.2.1, outF_at β hd] at hv
  have := rMap_at (c := β i) hv
  subst this
  unfold Oper.wp
  simp [execOp, hop, hm, hy, hrun, Result.andThen]
  exact hK' _ _ hK
theorem wpList_out_ok (hg : o.guard = none) (m y : Operand) (hop : o.op = Op.lookup 61 m y true) (hm : a.eval m = .map (some b)) (hS : IM rMap w b M (outF β dom)) (hy : a.eval y = .int .i64 (i : Int)) (hi : i ≤ 1000)
    (hK : wpList Try.prog ops Q rest (a.put o.dst (.tuple #[.map (if i ∈ dom then some (β i) else none), .bool (decide (i ∈ dom))])) w) : wpList Try.prog ops Q (o :: rest) a w := by
  obtain ⟨n, D, _, hown, hV⟩ := hS
  refine wpList_lookup_own_ok w hg m y 61 hop 3 62 keyInt Try.underlying61 rMap (zeroMap w) .nil [] rfl b n D hm hown _ (ik i) hy (ikn hi) ?_
  intro v ps hv
  rw [hV.2.1]
  rw [hV.2.2.1] at hv
  by_cases hd : i ∈ dom
  · rw [outF_at β hd] at hv ⊢
    have := rMap_at (c := β i) hv
    subst this
    rw [if_pos hd] at hK
    simpa [hd] using hK
  · rw [outF_not β hd] at hv ⊢
    have := rMap_nil hv
    subst this
    rw [if_neg hd] at hK
    simpa [hd] using hK
theorem wpList_out_put (hg : o.guard = none) (m y v : Operand) (hop : o.op = Op.mapUpdate 61 m y v) (hm : a.eval m = .map (some b)) (hS : IM rMap w b M (outF β dom)) (hM : M < 1000000) (hy : a.eval y = .int .i64 (i : Int)) (hi : i ≤ 1000)
    {c : Nat} (hv : a.eval v = .map (some c)) (hd : i ∉ dom)
    (hK : ∀ w', IM rMap w' b (M + 1) (outF (fun j => if j = i then c else β j) (dom ++ [i])) → w.grownBy w' (some b) → wpList Try.prog ops Q rest (a.put o.dst undef) w') : wpList Try.prog ops Q (o :: rest) a w := by
  obtain ⟨n, D, hn, hown, hV⟩ := hS
  refine wpList_mapUpdate_own w hg m y v 61 hop 3 62 keyInt Try.underlying61 rMap b n D hm hown (by unfold maxLen; omega) _ _ (ik i) hy hv (ikn hi) _ [] (rMap_mk c) ?_
  intro w' hown' hgrow
  exact hK w' ⟨n + 1, _, by omega, hown', by rw [← outF_put c hd]; exact hV.put i _⟩ hgrow
theorem wpList_out_del (hg : o.guard = none) (m y : Operand) (hop : o.op = Op.call { callee := Callee.builtin Builtin.delete, args := #[m, y], argTypes := #[61, 3] }) (hm : a.eval m = .map (some b)) (hS : IM rMap w b M (outF β dom)) (hy : a.eval y = .int .i64 (i : Int)) (hi : i ≤ 1000)
    (hK : ∀ w', IM rMap w' b M (outF β (dom.filter (· ≠ i))) → w.grownBy w' (some b) → wpList Try.prog ops Q rest (a.put o.dst (.tuple #[])) w') : wpList Try.prog ops Q (o :: rest) a w := by
  obtain ⟨n, D, hn, hown, hV⟩ := hS
  refine wpList_delete_own w hg m y 61 3 hop 62 keyInt Try.underlying61 rMap b n D hm hown _ (ik i) hy (ikn hi) ?_
  intro w' hown' hturn
  exact hK w' ⟨n, _, hn, hown', by rw [← outF_del i]; exact hV.del i⟩ hturn.grown
theorem wpList_out_len (hg : o.guard = none) (m : Operand) (hop : o.op = Op.call { callee := Callee.builtin Builtin.len, args := #[m], argTypes := #[61] }) (hm : a.eval m = .map (some b)) (hS : IM rMap w b M (outF β dom))
    (hK : ∀ c : Nat, (c = 0 ↔ dom = []) → wpList Try.prog ops Q rest (a.put o.dst (.int .i64 (c : Int))) w) : wpList Try.prog ops Q (o :: rest) a w := by
  obtain ⟨n, D, hn, hown, hV⟩ := hS
  exact wpList_len_own w hg m 61 hop 3 62 Try.underlying61 rMap b n D hm hown (hK _ (hV.size_zero.trans outF_zero))
theorem wpList_set_len_g {S : List Int} (hw : Region.wanted o (yielded ops a.tmps) = true) (m : Operand) (hop : o.op = Op.call { callee := Callee.builtin Builtin.len, args := #[m], argTypes := #[62] }) (hm : a.eval m = .map (some b)) (hS : IM rBool w b M (setF S))
    (hK : ∀ c : Nat, (c = 0 ↔ S = []) → wpList Try.prog ops Q rest (a.put o.dst (.int .i64 (c : Int))) w) : wpList Try.prog ops Q (o :: rest) a w := by
  obtain ⟨n, D, hn, hown, hV⟩ := hS
  refine wpList_step fun K' hK' => ?_
  rw [if_pos hw]
  have hz : (∀ x, setF S x = none) ↔ S = [] := by
    constructor
    · intro h
      cases S with
      | nil => rfl
      | cons y S => have := h y; simp [setF] at this
    · intro h; subst h; simp [setF]
  unfold Oper.wp
  simp [execOp, hop, resolve, invoke, builtin, hm, hown.len Try.underlying62 o.type, Result.andThen]
  exact hK' _ _ (hK _ (hV.size_zero.trans hz))
end
end Go.Proofs.Ytlbkfphepneflaa
