/- Maps with int keys that the call makes: what they hold, said by a function on ints. -/
import Derived.Test.YtlbkfphepneflaaRows
import Derived.WalkKit
import Derived.Maps.Own
import Derived.Maps.OwnOps
import Derived.Maps.OwnSet
import Derived.Maps.Views
import Derived.Lib.Hide
namespace Go.Proofs.Ytlbkfphepneflaa
open Go.RowKit Go.Maps

def ik (x : Int) : Lit := .int .i64 x
theorem ik_ne {x y : Int} (h : x ≠ y) : ik x ≠ ik y := fun e => h (by unfold ik at e; injection e)
theorem ik_lit (x : Int) : WideAt.IsKeyLit (ik x) := by unfold ik; simp [WideAt.IsKeyLit]

def intKeys : DataW Unit → Prop
  | .map es => ∀ p ∈ es, ∃ x, p.1 = ik x
  | _ => True
/-- D holds just f: f x is what lies under the key x. -/
def View (D : DataW Unit) (f : Int → Option (DataW Unit)) : Prop :=
  IsMap D ∧ (∀ x, Maps.has D (ik x) = (f x).isSome) ∧ (∀ x z, D.atKey (ik x) z = (f x).getD z) ∧ intKeys D
theorem mem_insert {x y : Lit × DataW Unit} : ∀ {l : List (Lit × DataW Unit)}, y ∈ DataW.insert x l → y = x ∨ y ∈ l
  | [], h => by simp [DataW.insert] at h; exact .inl h
  | z :: l, h => by
    unfold DataW.insert at h
    split at h
    · rcases List.mem_cons.1 h with h | h
      · exact .inl h
      · exact .inr h
    · rcases List.mem_cons.1 h with h | h
      · exact .inr (by simp [h])
      · rcases mem_insert h with h | h
        · exact .inl h
        · exact .inr (by simp [h])
theorem intKeys_put {D : DataW Unit} (hD : IsMap D) (h : intKeys D) (x : Int) (d : DataW Unit) : intKeys (D.put (ik x) d) := by
  obtain ⟨es, rfl⟩ := hD
  intro p hp
  rcases mem_insert hp with rfl | hp
  · exact ⟨x, rfl⟩
  · exact h p (List.mem_filter.1 hp).1
theorem intKeys_del {D : DataW Unit} (hD : IsMap D) (h : intKeys D) (x : Int) : intKeys (D.del (ik x)) := by
  obtain ⟨es, rfl⟩ := hD
  intro p hp
  exact h p (List.mem_filter.1 hp).1

theorem View.empty : View (.map []) (fun _ => none) := ⟨isMap_empty, fun _ => rfl, fun _ _ => rfl, fun p hp => by cases hp⟩
theorem View.put {D : DataW Unit} {f : Int → Option (DataW Unit)} (h : View D f) (x : Int) (d : DataW Unit) : View (D.put (ik x) d) (fun y => if y = x then some d else f y) := by
  obtain ⟨h1, h2, h3, h4⟩ := h
  refine ⟨h1.put _ _, fun y => ?_, fun y z => ?_, intKeys_put h1 h4 x d⟩
  · by_cases e : y = x
    · subst e; rw [has_put_same h1 (ik_lit _)]; simp
    · rw [has_put_other (ik_ne e), h2]; simp [e]
  · by_cases e : y = x
    · subst e; rw [atKey_put_same h1 (ik_lit _)]; simp
    · rw [atKey_put_other (ik_ne e), h3]; simp [e]
theorem View.del {D : DataW Unit} {f : Int → Option (DataW Unit)} (h : View D f) (x : Int) : View (D.del (ik x)) (fun y => if y = x then none else f y) := by
  obtain ⟨h1, h2, h3, h4⟩ := h
  refine ⟨h1.del _, fun y => ?_, fun y z => ?_, intKeys_del h1 h4 x⟩
  · by_cases e : y = x
    · subst e; rw [has_del_same]; simp
    · rw [has_del_other (ik_ne e), h2]; simp [e]
  · by_cases e : y = x
    · subst e; rw [atKey_del_same]; simp
    · rw [atKey_del_other (ik_ne e), h3]; simp [e]
theorem View.size_zero {D : DataW Unit} {f : Int → Option (DataW Unit)} (h : View D f) : Maps.size D = 0 ↔ ∀ x, f x = none := by
  obtain ⟨⟨es, rfl⟩, h2, h3, h4⟩ := h
  constructor
  · intro hz x
    have : es = [] := List.eq_nil_of_length_eq_zero hz
    subst this
    have := h2 x
    simp [Maps.has] at this
    exact this
  · intro hf
    cases es with
    | nil => rfl
    | cons p es =>
      exfalso
      obtain ⟨x, hx⟩ := h4 p (by simp)
      have := h2 x
      rw [hf x] at this
      simp [Maps.has, hx, ik, Lit.sameKey] at this

/-- The map at block b of the world w holds f; its elements read by R; it was given at most M entries. -/
def IM (R : Value → Option (DataW Unit × List MemPlace)) (w : World) (b M : Nat) (f : Int → Option (DataW Unit)) : Prop := ∃ n D, n ≤ M ∧ w.ownsMap Try.prog 3 R b n D ∧ View D f
theorem keyInt : Keyed Try.prog 3 := int_keyed Try.underlying3
theorem wf64 {x : Int} (h0 : -9223372036854775808 ≤ x) (h1 : x ≤ 9223372036854775807) : (Lit.int .i64 x).wf = true := by exact WalkArith.wf_i64 (by omega)
theorem ikey {x : Int} (h0 : -9223372036854775808 ≤ x) (h1 : x ≤ 9223372036854775807) : keyOf Try.prog 3 (.int .i64 x) = some (ik x) := keyOf_int_mk Try.underlying3 (wf64 h0 h1)

section
variable {R : Value → Option (DataW Unit × List MemPlace)} {w w' : World} {b M : Nat} {f : Int → Option (DataW Unit)}
theorem IM.made (w : World) (R : Value → Option (DataW Unit × List MemPlace)) : IM R (w.alloc (.map #[] 0)) w.heap.size 0 (fun _ => none) := ⟨0, .map [], Nat.le_refl _, World.ownsMap_made _ _ _ _, View.empty⟩
theorem IM.kept {row : Option Nat} (h : IM R w b M f) (hg : w.grownBy w' row) (hne : some b ≠ row) : IM R w' b M f := by
  obtain ⟨n, D, h1, h2, h3⟩ := h; exact ⟨n, D, h1, h2.kept hg hne, h3⟩
theorem IM.alloc (h : IM R w b M f) (o : Obj) : IM R (w.alloc o) b M f := by
  obtain ⟨n, D, h1, h2, h3⟩ := h; exact ⟨n, D, h1, h2.alloc o, h3⟩
theorem IM.lt (h : IM R w b M f) : b < w.heap.size := by obtain ⟨n, D, h1, h2, h3⟩ := h; exact h2.lt
theorem IM.more {M' : Nat} (h : IM R w b M f) (hm : M ≤ M') : IM R w b M' f := by
  obtain ⟨n, D, h1, h2, h3⟩ := h; exact ⟨n, D, by omega, h2, h3⟩
end

/-! ### sets: map[int]bool, only true stored -/
def setF (S : List Int) (x : Int) : Option (DataW Unit) := if x ∈ S then some (.lit (.bool true)) else none
theorem setF_nil : setF [] = fun _ => none := by funext x; simp [setF]
theorem setF_cons (S : List Int) (x : Int) : (fun y => if y = x then some (DataW.lit (H := Unit) (.bool true)) else setF S y) = setF (x :: S) := by
  funext y
  unfold setF
  by_cases e : y = x
  · simp [e]
  · simp [e]
theorem setF_del (S : List Int) (x : Int) : (fun y => if y = x then none else setF S y) = setF (S.filter (· ≠ x)) := by
  funext y
  unfold setF
  by_cases e : y = x
  · simp [e]
  · simp [e]
theorem zeroBool (w : World) : (zeroValue 4).run Try.prog w = .ok (.bool false) w := by kernel_rfl
def rBool : Value → Option (DataW Unit × List MemPlace)
  | .bool x => some (.lit (.bool x), [])
  | _ => none
theorem rBool_mk (x : Bool) : rBool (.bool x) = some (.lit (.bool x), []) := rfl
theorem rBool_inv {v : Value} {z : DataW Unit × List MemPlace} (h : rBool v = some z) : ∃ x, v = .bool x ∧ z = (.lit (.bool x), []) := by
  unfold rBool at h
  cases v <;> simp at h
  exact ⟨_, rfl, h.symm⟩

section
variable {w : World} {ops : Array Oper} {rest : List Oper} {o : Oper} {a : Act} {Q : Exit → Act → World → Prop} {b M : Nat} {S : List Int} {x : Int}
theorem wpList_set_look (hg : o.guard = none) (m y : Operand) (hop : o.op = Op.lookup 62 m y false) (hm : a.eval m = .map (some b)) (hS : IM rBool w b M (setF S)) (hy : a.eval y = .int .i64 x)
    (h0 : -9223372036854775808 ≤ x) (h1 : x ≤ 9223372036854775807) (hK : wpList Try.prog ops Q rest (a.put o.dst (.bool (decide (x ∈ S)))) w) : wpList Try.prog ops Q (o :: rest) a w := by
  refine wpList_plain hg fun K' hK' => ?_
  obtain ⟨n, D, _, hown, hV⟩ := hS
  obtain ⟨v, ps, hrun, hv⟩ := hown.lookup keyInt Try.underlying62 (zeroBool w) (rBool_mk false) (ikey h0 h1)
  obtain ⟨c, rfl, hc⟩ := rBool_inv hv
  have hat := hV.2.2.1 x (.lit (.bool false))
  have e : c = decide (x ∈ S) := by
    have h2 := congrArg Prod.fst hc
    simp only at h2
    rw [hat] at h2
    unfold setF at h2
    by_cases hx : x ∈ S
    · rw [if_pos hx] at h2; simp at h2; simp [hx, ← h2]
    · rw [if_neg hx] at h2; simp at h2; simp [hx, ← h2]
  subst e
  unfold Oper.wp
  simp [execOp, hop, hm, hy, hrun, Result.andThen]
  exact hK' _ _ hK
theorem wpList_set_put (hg : o.guard = none) (m y v : Operand) (hop : o.op = Op.mapUpdate 62 m y v) (hm : a.eval m = .map (some b)) (hS : IM rBool w b M (setF S)) (hM : M < 1000000) (hy : a.eval y = .int .i64 x)
    (hv : a.eval v = .bool true) (h0 : -9223372036854775808 ≤ x) (h1 : x ≤ 9223372036854775807)
    (hK : ∀ w', IM rBool w' b (M + 1) (setF (x :: S)) → w.grownBy w' (some b) → wpList Try.prog ops Q rest (a.put o.dst undef) w') : wpList Try.prog ops Q (o :: rest) a w := by
  obtain ⟨n, D, hn, hown, hV⟩ := hS
  refine wpList_mapUpdate_own w hg m y v 62 hop 3 4 keyInt Try.underlying62 rBool b n D hm hown (by unfold maxLen; omega) _ _ (ik x) hy hv (ikey h0 h1) _ [] (rBool_mk true) ?_
  intro w' hown' hgrow
  exact hK w' ⟨n + 1, _, by omega, hown', by rw [← setF_cons]; exact hV.put x _⟩ hgrow
theorem wpList_set_del (hg : o.guard = none) (m y : Operand) (hop : o.op = Op.call { callee := Callee.builtin Builtin.delete, args := #[m, y], argTypes := #[62, 3] }) (hm : a.eval m = .map (some b)) (hS : IM rBool w b M (setF S)) (hy : a.eval y = .int .i64 x)
    (h0 : -9223372036854775808 ≤ x) (h1 : x ≤ 9223372036854775807)
    (hK : ∀ w', IM rBool w' b M (setF (S.filter (· ≠ x))) → w.grownBy w' (some b) → wpList Try.prog ops Q rest (a.put o.dst (.tuple #[])) w') : wpList Try.prog ops Q (o :: rest) a w := by
  obtain ⟨n, D, hn, hown, hV⟩ := hS
  refine wpList_delete_own w hg m y 62 3 hop 4 keyInt Try.underlying62 rBool b n D hm hown _ (ik x) hy (ikey h0 h1) ?_
  intro w' hown' hturn
  exact hK w' ⟨n, _, hn, hown', by rw [← setF_del]; exact hV.del x⟩ hturn.grown
end
end Go.Proofs.Ytlbkfphepneflaa
