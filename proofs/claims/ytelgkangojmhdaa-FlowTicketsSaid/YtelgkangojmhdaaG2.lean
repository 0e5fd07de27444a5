/- Several texts as one: Arr0, Arr1, Arr2, RefOp, RefOp2, Bnd. -/
import Derived.Test.YtelgkangojmhdaaG1
import Derived.Maps.RangeWalk
import Derived.Deep.AppendLies
/- The map of maps that operation.arrange keeps: its laws for the walk. -/
namespace Go.Proofs.Ytelgkangojmhdaa
open Go.RowKit Go.Maps

def rMap : Value → Option (DataW Unit × List MemPlace)
  | .map (some c) => some (.lit (.int .i64 c), [])
  | .map none => some (.nil, [])
  | _ => none
theorem rMap_mk (c : Nat) : rMap (.map (some c)) = some (.lit (.int .i64 c), []) := rfl
theorem rMap_inv {v : Value} {z : DataW Unit × List MemPlace} (h : rMap v = some z) : ∃ c, v = .map c := by
  unfold rMap at h
  split at h
  · exact ⟨_, rfl⟩
  · exact ⟨_, rfl⟩
  · cases h
theorem rMap_at {v : Value} {c : Nat} {ps : List MemPlace} (h : rMap v = some (.lit (.int .i64 c), ps)) : v = .map (some c) := by
  unfold rMap at h
  split at h
  · rename_i d
    simp at h
    obtain ⟨h, _⟩ := h
    rw [show d = c from by omega]
  · simp at h
  · cases h
theorem rMap_nil {v : Value} {ps : List MemPlace} (h : rMap v = some (.nil, ps)) : v = .map none := by
  unfold rMap at h
  split at h
  · simp at h
  · rfl
  · cases h
theorem zeroMap (w : World) : (zeroValue 114).run Try.prog w = .ok (.map none) w := by kernel_rfl

/-- The outer map holds, for each i of dom, the map at block β i. -/
def outF (β : Nat → Nat) (dom : List Nat) (x : Int) : Option (DataW Unit) := if 0 ≤ x ∧ x.toNat ∈ dom then some (.lit (.int .i64 (β x.toNat))) else none
theorem outF_nil (β : Nat → Nat) : outF β [] = fun _ => none := by funext x; simp [outF]
theorem outF_at (β : Nat → Nat) {dom : List Nat} {i : Nat} (h : i ∈ dom) : outF β dom i = some (.lit (.int .i64 (β i))) := by
  unfold outF; rw [if_pos ⟨by omega, by simpa using h⟩]; simp
theorem outF_not (β : Nat → Nat) {dom : List Nat} {i : Nat} (h : i ∉ dom) : outF β dom i = none := by
  unfold outF; rw [if_neg]; rintro ⟨_, h'⟩; exact h (by simpa using h')
theorem outF_congr {β β' : Nat → Nat} {dom : List Nat} (h : ∀ i ∈ dom, β i = β' i) : outF β dom = outF β' dom := by
  funext x
  unfold outF
  by_cases hx : 0 ≤ x ∧ x.toNat ∈ dom
  · rw [if_pos hx, if_pos hx, h _ hx.2]
  · rw [if_neg hx, if_neg hx]
theorem outF_mem {β : Nat → Nat} {dom dom' : List Nat} (h : ∀ i, i ∈ dom ↔ i ∈ dom') : outF β dom = outF β dom' := by
  funext x; unfold outF; simp [h]
theorem outF_put {β : Nat → Nat} {dom : List Nat} {i : Nat} (c : Nat) (hi : i ∉ dom) : (fun y => if y = (i : Int) then some (DataW.lit (H := Unit) (.int .i64 c)) else outF β dom y) = outF (fun j => if j = i then c else β j) (dom ++ [i]) := by
  funext y
  by_cases e : y = (i : Int)
  · subst e
    rw [if_pos rfl, outF_at _ (by simp)]
    simp
  · rw [if_neg e]
    unfold outF
    by_cases hy : 0 ≤ y ∧ y.toNat ∈ dom
    · have hne : y.toNat ≠ i := fun h => hi (h ▸ hy.2)
      rw [if_pos hy, if_pos ⟨hy.1, by simp [hy.2]⟩]; simp [hne]
    · rw [if_neg hy, if_neg]
      rintro ⟨h0, h1⟩
      rcases List.mem_append.1 h1 with h1 | h1
      · exact hy ⟨h0, h1⟩
      · simp at h1; omega
theorem outF_del {β : Nat → Nat} {dom : List Nat} (i : Nat) : (fun y => if y = (i : Int) then none else outF β dom y) = outF β (dom.filter (· ≠ i)) := by
  funext y
  by_cases e : y = (i : Int)
  · subst e; rw [if_pos rfl, outF_not]; simp
  · rw [if_neg e]
    unfold outF
    by_cases hy : 0 ≤ y ∧ y.toNat ∈ dom
    · rw [if_pos hy, if_pos ⟨hy.1, by simp [hy.2]; omega⟩]
    · rw [if_neg hy, if_neg]
      rintro ⟨h0, h1⟩
      exact hy ⟨h0, (List.mem_filter.1 h1).1⟩
theorem outF_zero {β : Nat → Nat} {dom : List Nat} : (∀ x, outF β dom x = none) ↔ dom = [] := by
  constructor
  · intro h
    cases dom with
    | nil => rfl
    | cons i dom => have := h (i : Int); rw [outF_at β (by simp)] at this; cases this
  · intro h; subst h; simp [outF]

section
variable {w : World} {ops : Array Oper} {rest : List Oper} {o : Oper} {a : Act} {Q : Exit → Act → World → Prop} {b M i : Nat} {β : Nat → Nat} {dom : List Nat} {x : Int}
theorem ikn {i : Nat} (h : i ≤ 1000) : keyOf Try.prog 3 (.int .i64 (i : Int)) = some (ik i) := ikey (by omega) (by omega)
theorem wpList_out_look (hg : o.guard = none) (m y : Operand) (hop : o.op = Op.lookup 113 m y false) (hm : a.eval m = .map (some b)) (hS : IM rMap w b M (outF β dom)) (hy : a.eval y = .int .i64 (i : Int)) (hi : i ≤ 1000) (hd : i ∈ dom)
    (hK : wpList Try.prog ops Q rest (a.put o.dst (.map (some (β i)))) w) : wpList Try.prog ops Q (o :: rest) a w := by
  refine wpList_plain hg fun K' hK' => ?_
  obtain ⟨n, D, _, hown, hV⟩ := hS
  obtain ⟨v, ps, hrun, hv⟩ := hown.lookup keyInt Try.underlying113 (zeroMap w) (zd := .nil) (zp := []) rfl (ikn hi)
  rw [hV.2.2.1, outF_at β hd] at hv
  have := rMap_at (c := β i) hv
  subst this
  unfold Oper.wp
  simp [execOp, hop, hm, hy, hrun, Result.andThen]
  exact hK' _ _ hK
theorem wpList_out_ok (hg : o.guard = none) (m y : Operand) (hop : o.op = Op.lookup 113 m y true) (hm : a.eval m = .map (some b)) (hS : IM rMap w b M (outF β dom)) (hy : a.eval y = .int .i64 (i : Int)) (hi : i ≤ 1000)
    (hK : wpList Try.prog ops Q rest (a.put o.dst (.tuple #[.map (if i ∈ dom then some (β i) else none), .bool (decide (i ∈ dom))])) w) : wpList Try.prog ops Q (o :: rest) a w := by
  obtain ⟨n, D, _, hown, hV⟩ := hS
  refine wpList_lookup_own_ok w hg m y 113 hop 3 114 keyInt Try.underlying113 rMap (zeroMap w) .nil [] rfl b n D hm hown _ (ik i) hy (ikn hi) ?_
  intro v ps hv
  rw [hV.2.1]
  rw [hV.2.2.1] at hv
  by_cases hd : i ∈ dom
  · rw [outF_at β hd] at hv ⊢
    have := rMap_at (c := β i) hv
    subst this
    rw [if_pos hd] at hK
    simpa [hd] using hK
  · rw [outF_not β hd] at hv ⊢
    have := rMap_nil hv
    subst this
    rw [if_neg hd] at hK
    simpa [hd] using hK
theorem wpList_out_put (hg : o.guard = none) (m y v : Operand) (hop : o.op = Op.mapUpdate 113 m y v) (hm : a.eval m = .map (some b)) (hS : IM rMap w b M (outF β dom)) (hM : M < 1000000) (hy : a.eval y = .int .i64 (i : Int)) (hi : i ≤ 1000)
    {c : Nat} (hv : a.eval v = .map (some c)) (hd : i ∉ dom)
    (hK : ∀ w', IM rMap w' b (M + 1) (outF (fun j => if j = i then c else β j) (dom ++ [i])) → w.grownBy w' (some b) → wpList Try.prog ops Q rest (a.put o.dst undef) w') : wpList Try.prog ops Q (o :: rest) a w := by
  obtain ⟨n, D, hn, hown, hV⟩ := hS
  refine wpList_mapUpdate_own w hg m y v 113 hop 3 114 keyInt Try.underlying113 rMap b n D hm hown (by unfold maxLen; omega) _ _ (ik i) hy hv (ikn hi) _ [] (rMap_mk c) ?_
  intro w' hown' hgrow
  exact hK w' ⟨n + 1, _, by omega, hown', by rw [← outF_put c hd]; exact hV.put i _⟩ hgrow
theorem wpList_out_del (hg : o.guard = none) (m y : Operand) (hop : o.op = Op.call { callee := Callee.builtin Builtin.delete, args := #[m, y], argTypes := #[113, 3] }) (hm : a.eval m = .map (some b)) (hS : IM rMap w b M (outF β dom)) (hy : a.eval y = .int .i64 (i : Int)) (hi : i ≤ 1000)
    (hK : ∀ w', IM rMap w' b M (outF β (dom.filter (· ≠ i))) → w.grownBy w' (some b) → wpList Try.prog ops Q rest (a.put o.dst (.tuple #[])) w') : wpList Try.prog ops Q (o :: rest) a w := by
  obtain ⟨n, D, hn, hown, hV⟩ := hS
  refine wpList_delete_own w hg m y 113 3 hop 114 keyInt Try.underlying113 rMap b n D hm hown _ (ik i) hy (ikn hi) ?_
  intro w' hown' hturn
  exact hK w' ⟨n, _, hn, hown', by rw [← outF_del i]; exact hV.del i⟩ hturn.grown
theorem wpList_out_len (hg : o.guard = none) (m : Operand) (hop : o.op = Op.call { callee := Callee.builtin Builtin.len, args := #[m], argTypes := #[113] }) (hm : a.eval m = .map (some b)) (hS : IM rMap w b M (outF β dom))
    (hK : ∀ c : Nat, (c = 0 ↔ dom = []) → wpList Try.prog ops Q rest (a.put o.dst (.int .i64 (c : Int))) w) : wpList Try.prog ops Q (o :: rest) a w := by
  obtain ⟨n, D, hn, hown, hV⟩ := hS
  exact wpList_len_own w hg m 113 hop 3 114 Try.underlying113 rMap b n D hm hown (hK _ (hV.size_zero.trans outF_zero))
theorem wpList_set_len_g {S : List Int} (hw : Region.wanted o (yielded ops a.tmps) = true) (m : Operand) (hop : o.op = Op.call { callee := Callee.builtin Builtin.len, args := #[m], argTypes := #[114] }) (hm : a.eval m = .map (some b)) (hS : IM rBool w b M (setF S))
    (hK : ∀ c : Nat, (c = 0 ↔ S = []) → wpList Try.prog ops Q rest (a.put o.dst (.int .i64 (c : Int))) w) : wpList Try.prog ops Q (o :: rest) a w := by
  obtain ⟨n, D, hn, hown, hV⟩ := hS
  refine wpList_step fun K' hK' => ?_
  rw [if_pos hw]
  have hz : (∀ x, setF S x = none) ↔ S = [] := by
    constructor
    · intro h
      cases S with
      | nil => rfl
      | cons y S => have := h y; simp [setF] at this
    · intro h; subst h; simp [setF]
  unfold Oper.wp
  simp [execOp, hop, resolve, invoke, builtin, hm, hown.len Try.underlying114 o.type, Result.andThen]
  exact hK' _ _ (hK _ (hV.size_zero.trans hz))
end
end Go.Proofs.Ytelgkangojmhdaa
/- Walk of operation.arrange: it returns the least order of the operations, or false. -/
namespace Go.Proofs.Ytelgkangojmhdaa
open Go.RowKit Go.Maps

/-- What is left of the After of operation i when out is done. -/
def remOf (l : List Opn) (i : Nat) (out : List Nat) : List Int := (l.getD i op0).after.reverse.filter fun a => !out.contains a.toNat
/-- The inner maps of the operations below k that are not done. -/
def Inner (w : World) (l : List Opn) (β : Nat → Nat) (B k : Nat) (out : List Nat) : Prop :=
  (∀ i, i < k → B < β i ∧ β i < w.heap.size) ∧ (∀ i j, i < j → j < k → β i < β j) ∧ ∀ i, i < k → i ∉ out → IM rBool w (β i) 1000 (setF (remOf l i out))
theorem Inner.kept {w w' : World} {l : List Opn} {β : Nat → Nat} {B k : Nat} {out : List Nat} {row : Option Nat} (h : Inner w l β B k out) (hg : w.grownBy w' row) (hr : ∀ i, i < k → i ∉ out → some (β i) ≠ row) : Inner w' l β B k out :=
  ⟨fun i hi => ⟨(h.1 i hi).1, Nat.lt_of_lt_of_le (h.1 i hi).2 hg.size⟩, h.2.1, fun i hi ho => (h.2.2 i hi ho).kept hg (hr i hi ho)⟩
theorem Inner.alloc {w : World} {l : List Opn} {β : Nat → Nat} {B k : Nat} {out : List Nat} (h : Inner w l β B k out) (o : Obj) : Inner (w.alloc o) l β B k out :=
  h.kept (World.grownBy_alloc w o none) (fun i _ _ => by simp)

theorem add_plain (g o j : Nat) : (⟨g, o, none⟩ : Addr).add j = ⟨g, o + j, none⟩ := by
  unfold Addr.add; split
  · rename_i h; subst h; rfl
  · rfl
theorem far_cell {w w' : World} {b g p : Nat} (hg : w.grownBy w' (some b)) (hlt : g < w.heap.size) (hne : g ≠ b) : w'.cell? ⟨g, p, none⟩ = w.cell? ⟨g, p, none⟩ :=
  World.cell?_of_block (hg.block g hlt fun e => hne (by injection e))
theorem afterCell (w : World) (o : Opn) (Aa Au : Option Addr) (ca cu : Nat) (T : TypeId) (ob : Obj) :
    ((w.alloc (.cells #[.string o.name, .int .i64 o.mach, .int .i64 o.mins, .slice Aa o.after.length ca, .slice Au o.uses.length cu] T)).alloc ob).cell? ⟨w.heap.size, 3, none⟩ = some (.slice Aa o.after.length ca) := by
  rw [World.cell?_alloc_lt _ _ _ (by simp)]; simp [go_sem]

theorem inner_add {w : World} {l : List Opn} {β : Nat → Nat} {B k n : Nat} {S : List Int} (h : Inner w l β B k []) (hc : ∀ i, i < k → β i < n) (hB : B < n + 1) (hlt : n + 1 < w.heap.size) (hm : IM rBool w (n + 1) 1000 (setF S)) (hS : S = remOf l k []) :
    Inner w l (fun j => if j = k then n + 1 else β j) B (k + 1) [] := by
  refine ⟨fun i hi => ?_, fun i j hij hj => ?_, fun i hi ho => ?_⟩
  · by_cases e : i = k
    · subst e; simp only [↓reduceIte]; exact ⟨hB, hlt⟩
    · simp only [if_neg e]; exact h.1 i (by omega)
  · by_cases e : j = k
    · subst e; simp only [↓reduceIte, if_neg (show i ≠ j by omega)]; have := hc i hij; omega
    · simp only [if_neg e, if_neg (show i ≠ k by omega)]; exact h.2.1 i j hij (by omega)
  · by_cases e : i = k
    · subst e; simp only [↓reduceIte]; rw [← hS]; exact hm
    · simp only [if_neg e]; exact h.2.2 i (by omega) ho

def sliceLen : Value → Nat
  | .slice _ n _ => n
  | _ => 0
theorem own_any {w : World} {base e size n : Nat} {v : Value} {xs : List Value} (h : w.ownsRow base e size v n xs) : ∃ A c, v = .slice A n c := by
  rcases h.2 with ⟨rfl, rfl⟩ | ⟨g, cap, cur, rfl, _⟩
  · exact ⟨_, _, rfl⟩
  · exact ⟨_, _, rfl⟩
def natCells (out : List Nat) : List Value := out.map fun (i : Nat) => Value.int .i64 (i : Int)
theorem Upto.all {l : List Opn} {out : List Nat} (h : Upto l out) (hl : out.length = l.length) : ((List.range l.length).filter fun i => !out.contains i) = [] := by
  rw [List.filter_eq_nil_iff]
  intro i hi
  have hs : out ⊆ List.range l.length := fun i hi => List.mem_range.2 (h.2.1 i hi)
  by_cases hc : i ∈ out
  · simp [hc]
  · exfalso
    have hn : (i :: out).Nodup := List.nodup_cons.2 ⟨hc, h.1⟩
    have hs' : (i :: out) ⊆ List.range l.length := by
      intro x hx
      rcases List.mem_cons.1 hx with rfl | hx
      · exact hi
      · exact hs hx
    have := List.Nodup.length_le_of_subset hn hs'
    simp at this
    omega
theorem Upto.notAll {l : List Opn} {out : List Nat} (h : Upto l out) (hl : out.length ≠ l.length) : ((List.range l.length).filter fun i => !out.contains i) ≠ [] := by
  intro he
  rw [List.filter_eq_nil_iff] at he
  have hs : List.range l.length ⊆ out := fun i hi => by have := he i hi; simpa using this
  have := List.Nodup.length_le_of_subset List.nodup_range hs
  have := h.le
  simp at *
  omega
theorem ird_own {w : World} {base e n c : Nat} {out : List Nat} {A : Option Addr} (h : w.ownsRow base e 1 (.slice A n c) out.length (natCells out)) : IRd w w.heap.size A (out.map Int.ofNat) := by
  intro hl
  have hpos : 0 < out.length := by
    rcases Nat.eq_zero_or_pos out.length with h0 | h0
    · exact absurd (by rw [List.eq_nil_of_length_eq_zero h0]; rfl) hl
    · exact h0
  obtain ⟨g, cap, hv, _, hlt⟩ := h.form hpos
  have hA : A = some ⟨g, 0, none⟩ := by injection hv
  subst hA
  have hc : ∀ j u, (natCells out)[j]? = some u → w.cell? ((⟨g, 0, none⟩ : Addr).add j) = some u := h.cells (g := g) rfl
  refine ⟨g, 0, rfl, hlt, fun i x hx => ?_⟩
  have hx' : (natCells out)[i]? = some (.int .i64 x) := by
    unfold natCells
    rw [List.getElem?_map] at hx ⊢
    cases ho : out[i]? with
    | none => rw [ho] at hx; cases hx
    | some y => rw [ho] at hx; cases hx; rfl
  have := hc i _ hx'
  rw [add_plain] at this
  exact this
theorem ready_done {l : List Opn} {out : List Nat} {i : Nat} (h : i ∈ out) : readyB l out i = false := by
  unfold readyB; simp [h]
theorem ready_yes {l : List Opn} {out : List Nat} {i : Nat} (h : i ∉ out) (hr : remOf l i out = []) : readyB l out i = true := by
  unfold remOf at hr
  rw [List.filter_eq_nil_iff] at hr
  unfold readyB
  simp only [Bool.and_eq_true, List.all_eq_true]
  exact ⟨by simp [h], fun a ha => by have := hr a (by simpa using ha); simpa using this⟩
theorem ready_no {l : List Opn} {out : List Nat} {i : Nat} (hr : remOf l i out ≠ []) : readyB l out i = false := by
  cases hb : readyB l out i with
  | false => rfl
  | true =>
    exfalso
    apply hr
    unfold readyB at hb
    simp only [Bool.and_eq_true, List.all_eq_true] at hb
    unfold remOf
    rw [List.filter_eq_nil_iff]
    intro a ha
    have := hb.2 a (by simpa using ha)
    simpa using this
theorem upto_succ {p : Nat → Bool} {q : Nat} (h : ∀ i, i < q → p i = false) (hq : p q = false) : ∀ i, i < q + 1 → p i = false := by
  intro i hi
  by_cases e : i = q
  · subst e; exact hq
  · exact h i (by omega)
theorem infoInt : (Try.prog.info? 3).map (fun i => (i.zero, i.size, i.bytes)) = some (some (.int .i64 0), 1, 8) := by kernel_rfl
theorem invK (key : Value) (kl : Lit) (h : keyOf Try.prog 3 key = some kl) : ∃ x, key = Value.int .i64 x := by
  obtain ⟨x, rfl, _⟩ := Maps.keyOf_int_inv Try.underlying3 h; exact ⟨x, rfl⟩
theorem invV (v : Value) (y : DataW Unit × List MemPlace) (h : rMap v = some y) : ∃ c, v = Value.map c := rMap_inv h
theorem dom_snoc (n : Nat) (out : List Nat) (q : Nat) (i : Nat) : i ∈ ((List.range n).filter fun i => !(out ++ [q]).contains i) ↔ i ∈ (((List.range n).filter fun i => !out.contains i).filter (· ≠ q)) := by
  simp only [List.mem_filter, List.mem_range]
  by_cases hq : i = q
  · subst hq; simp
  · by_cases ho : i ∈ out <;> simp [hq, ho]
theorem own_none (v : Value) : v.ownBlock = none ∨ v.ownBlock ≠ none := by
  cases v.ownBlock with
  | none => exact .inl rfl
  | some x => exact .inr (by simp)
theorem own_map {R : Value → Option (DataW Unit × List MemPlace)} {w : World} {base e size n b M : Nat} {v : Value} {xs : List Value} {f : Int → Option (DataW Unit)} (h : w.ownsRow base e size v n xs) (hm : IM R w b M f) : v.ownBlock = none ∨ v.ownBlock ≠ some b := by
  rcases h.2 with ⟨rfl, _⟩ | ⟨g, cap, cur, rfl, _, hh, _⟩
  · exact .inl rfl
  · refine .inr ?_
    intro he
    have hgb : g = b := by simpa [Value.ownBlock] using he
    subst hgb
    obtain ⟨n, D, _, ⟨es, cl, hb, _⟩, _⟩ := hm
    rw [hh] at hb
    cases hb
/-- The inner maps while the range runs: those still to come are as they were, the others without q. -/
def InnerR (w : World) (l : List Opn) (β : Nat → Nat) (B k : Nat) (out : List Nat) (q : Nat) (left : Lit → Bool) : Prop :=
  (∀ i, i < k → B < β i ∧ β i < w.heap.size) ∧ (∀ i j, i < j → j < k → β i < β j) ∧ ∀ i, i < k → i ∉ out → i ≠ q → IM rBool w (β i) 1000 (setF (if left (ik i) = true then remOf l i out else remOf l i (out ++ [q])))
theorem innerR_start {w w1 w2 : World} {l : List Opn} {β : Nat → Nat} {B q : Nat} {out : List Nat} {D : DataW Unit} (h : Inner w l β B l.length out) (hg1 : w.grownBy w1 (some B)) (hg2 : w1.grownBy w2 none)
    (hV : View D (outF β (((List.range l.length).filter fun i => !out.contains i).filter (· ≠ q)))) : InnerR w2 l β B l.length out q (Maps.has D) := by
  have h1 := (h.kept hg1 (fun i hi _ => by have := (h.1 i hi).1; simp; omega)).kept hg2 (fun i _ _ => by simp)
  refine ⟨h1.1, h1.2.1, fun i hi ho hq => ?_⟩
  have hd : i ∈ (((List.range l.length).filter fun i => !out.contains i).filter (· ≠ q)) := by simp [hi, ho, hq]
  rw [hV.2.1, outF_at β hd]
  simpa using h1.2.2 i hi ho
theorem remOf_snoc (l : List Opn) (i q : Nat) (out : List Nat) (hnn : ∀ a ∈ (l.getD i op0).after, 0 ≤ a) : (remOf l i out).filter (· ≠ (q : Int)) = remOf l i (out ++ [q]) := by
  unfold remOf
  rw [List.filter_filter]
  apply List.filter_congr
  intro a ha
  have h0 := hnn a (by simpa using ha)
  have hiff : a = (q : Int) ↔ a.toNat = q := by omega
  by_cases hq : a.toNat = q
  · have hq' := hiff.2 hq
    simp [hq']
  · have hq' : ¬ a = (q : Int) := fun e => hq (hiff.1 e)
    simp [hq, hq']
theorem innerR_end {w : World} {l : List Opn} {β : Nat → Nat} {B k q : Nat} {out : List Nat} {left : Lit → Bool} (h : InnerR w l β B k out q left) (hl : ∀ kl, left kl = false) : Inner w l β B k (out ++ [q]) := by
  refine ⟨h.1, h.2.1, fun i hi ho => ?_⟩
  have := h.2.2 i hi (fun hh => ho (by simp [hh])) (fun hh => ho (by simp [hh]))
  rw [hl] at this
  simpa using this
theorem entry_is {D : DataW Unit} {β : Nat → Nat} {dom : List Nat} {x : Int} {c : Option Nat} {kl : Lit} {y : DataW Unit × List MemPlace} (hV : View D (outF β dom)) (hkey : keyOf Try.prog 3 (.int .i64 x) = some kl) (hv : rMap (.map c) = some y) (hat : ∀ zd, D.atKey kl zd = y.1) :
    ∃ i, i ∈ dom ∧ x = (i : Int) ∧ c = some (β i) ∧ kl = ik i := by
  obtain ⟨x', e, rfl, _⟩ := Maps.keyOf_int_inv Try.underlying3 hkey
  cases e
  have h1 := fun zd => (hV.2.2.1 x zd).symm.trans (hat zd)
  cases ho : outF β dom x with
  | none =>
    exfalso
    have a := h1 (.lit (.bool true))
    have b := h1 (.lit (.bool false))
    rw [ho] at a b
    simp at a b
    rw [← a] at b
    simp at b
  | some d =>
    have a := h1 (.lit (.bool true))
    rw [ho] at a
    simp at a
    have hx : 0 ≤ x ∧ x.toNat ∈ dom := by
      unfold outF at ho
      by_cases hc : 0 ≤ x ∧ x.toNat ∈ dom
      · exact hc
      · rw [if_neg hc] at ho; cases ho
    refine ⟨x.toNat, hx.2, by omega, ?_, ?_⟩
    · unfold outF at ho
      rw [if_pos hx] at ho
      cases ho
      have hy : y = (.lit (.int .i64 (β x.toNat)), y.2) := by rw [a]
      rw [hy] at hv
      have := rMap_at (c := β x.toNat) hv
      cases this
      rfl
    · show Lit.int .i64 x = Lit.int .i64 (x.toNat : Int)
      rw [show ((x.toNat : Nat) : Int) = x from by omega]
theorem getD_mem {l : List Opn} {i : Nat} (h : i < l.length) : l.getD i op0 ∈ l := by
  rw [List.getD_eq_getElem?_getD, List.getElem?_eq_getElem h]; exact List.getElem_mem h
theorem ik_same {i j : Nat} : (ik (j : Int)).sameKey (ik (i : Int)) = decide (j = i) := by
  unfold ik Lit.sameKey
  rw [Bool.eq_iff_iff]
  simp
  omega
theorem innerR_step {w w3 w4 : World} {l : List Opn} {β : Nat → Nat} {B k q i r : Nat} {out : List Nat} {left : Lit → Bool} (h : InnerR w l β B k out q left) (hg3 : w.grownBy w3 (some r)) (hg4 : w3.grownBy w4 (some (β i))) (hi : i < k) (hr : ∀ j, j < k → β j < r)
    (hm : IM rBool w4 (β i) 1000 (setF (remOf l i (out ++ [q])))) : InnerR w4 l β B k out q (fun z => left z && !z.sameKey (ik i)) := by
  refine ⟨fun j hj => ⟨(h.1 j hj).1, ?_⟩, h.2.1, fun j hj ho hq => ?_⟩
  · have := (h.1 j hj).2; have := hg3.size; have := hg4.size; omega
  · show IM rBool w4 (β j) 1000 (setF (if (left (ik j) && !(ik (j : Int)).sameKey (ik (i : Int))) = true then remOf l j out else remOf l j (out ++ [q])))
    rw [ik_same]
    by_cases e : j = i
    · subst e; simpa using hm
    · have h1 := ((h.2.2 j hj ho hq).kept hg3 (by have := hr j hj; simp; omega)).kept hg4 (by
        have : β j ≠ β i := by
          rcases Nat.lt_or_gt_of_ne e with hlt | hgt
          · have := h.2.1 j i hlt hi; omega
          · have := h.2.1 i j hgt hj; omega
        simp [this])
      simpa [e] using h1
theorem own_iter {R : Value → Option (DataW Unit × List MemPlace)} {w : World} {base e size n b r m cnt : Nat} {k : TypeId} {v : Value} {xs : List Value} {D : DataW Unit} {left : Lit → Bool} (h : w.ownsRow base e size v n xs) (hm : w.ranges Try.prog k R b r m D left cnt) : v.ownBlock = none ∨ v.ownBlock ≠ some r := by
  rcases h.2 with ⟨rfl, _⟩ | ⟨g, cap, cur, rfl, _, hh, _⟩
  · exact .inl rfl
  · refine .inr ?_
    intro he
    have hgb : g = r := by simpa [Value.ownBlock] using he
    subst hgb
    obtain ⟨_, _, _, _, _, _, _, _, _, hb, _⟩ := hm
    rw [hh] at hb
    cases hb
theorem own_map2 {R R' : Value → Option (DataW Unit × List MemPlace)} {w w3 : World} {base e size n b r m cnt c M : Nat} {k : TypeId} {v : Value} {xs : List Value} {D : DataW Unit} {left : Lit → Bool} {f : Int → Option (DataW Unit)} (h : w.ownsRow base e size v n xs) (hg : w.grownBy w3 (some r)) (hm : w.ranges Try.prog k R b r m D left cnt)
    (hc : IM R' w3 c M f) : v.ownBlock = none ∨ v.ownBlock ≠ some c := own_map (h.kept hg (own_iter h hm)) hc
def ArrPost (l : List Opn) (e : Ending) (w' : World) : Prop :=
  ((order l).length = l.length → ∃ A c, e = .returned (.tuple #[.slice A (order l).length c, .bool true]) ∧ IRd w' w'.heap.size A ((order l).map Int.ofNat)) ∧
  ((order l).length ≠ l.length → e = .returned (.tuple #[.slice none 0 0, .bool false]))

set_option maxRecDepth 100000 in
set_option maxHeartbeats 2000000 in
theorem arrange_any (A : Option Addr) (cap : Nat) (l : List Opn) (w : World) (h : ORd w w.heap.size A l) (hs : OSmall l) (hsd : Sound l) :
    Calls Try.prog 53 #[.slice A l.length cap] w fun e w' => ArrPost l e w' ∧ Below w.heap.size w w' := by
  have H := Lib.hid h
  have HS := Lib.hid hs
  have HSD := Lib.hid hsd
  have hn : l.length ≤ 16 := hsd.len
  clear h hs hsd
  have hmm := @run_makeMap Try.prog
  go_enter Try.func53, Try.ntmps53
  go_wp2
  clear hmm
  go_loopw [5, 6, 8, 18] (fun _ _ _ j wr => ∃ (k : Nat) (β : Nat → Nat), k ≤ l.length ∧ j = .int .i64 k ∧ IM rMap wr w.heap.size k (outF β (List.range k)) ∧ Inner wr l β w.heap.size k [] ∧ Below w.heap.size w wr) (fun _ _ _ j _ => l.length - (intOf j).toNat)
  case atStart => exact ⟨0, fun _ => 0, Nat.zero_le _, rfl, by simpa [outF_nil] using IM.made w rMap, ⟨fun i hi => absurd hi (by omega), fun i j _ hj => absurd hj (by omega), fun i hi => absurd hi (by omega)⟩, (Below.refl _ _).alloc (Nat.le_refl _) _⟩
  case round =>
    obtain ⟨k, β, hk, rfl, hm, hin, hb⟩ := hrel
    have HM := Lib.hid hm
    have HI := Lib.hid hin
    have HB := Lib.hid hb
    have hsz := hb.size
    have hsz' : w.heap.size < wr.heap.size := hm.lt
    clear hm hin hb
    by_cases hlt : k < l.length
    · obtain ⟨b, off, o, rfl, hB, hd, hat⟩ := H.out.at_ (Below.refl _ _) hlt
      obtain ⟨c0', c1', c2', ⟨Aa, ca, c3', a1, a2⟩, ⟨Au, cu, c4', u1, u2⟩⟩ := hat
      have c0 := (HB.out.cell (p := ⟨b, _, none⟩) hB).trans c0'
      have c1 := (HB.out.cell (p := ⟨b, _, none⟩) hB).trans c1'
      have c2 := (HB.out.cell (p := ⟨b, _, none⟩) hB).trans c2'
      have c3 := (HB.out.cell (p := ⟨b, _, none⟩) hB).trans c3'
      have c4 := (HB.out.cell (p := ⟨b, _, none⟩) hB).trans c4'
      clear c0' c1' c2' c3' c4'
      have hso := (HS.out o (List.mem_of_getElem? hd)).2.1
      have HDX := Lib.hid (HSD.out.idx o (List.mem_of_getElem? hd))
      have HD := Lib.hid hd
      have HA := Lib.hid a2
      have hkr : k ∉ List.range k := by simp
      have HKR := Lib.hid hkr
      clear hd a2 u1 u2 hkr
      have hmm := @run_makeMap Try.prog
      go_wp2_with (at_mapUpdate; refine wpList_out_put rfl (.tmp 23) (.tmp 24) (.tmp 25) rfl rfl ((HM.out.alloc _).alloc _) (by omega) rfl (by omega) (c := wr.heap.size + 1) rfl HKR.out ?_; intro w1 hm1 hg1; have f3 := far_cell hg1 (g := wr.heap.size) (p := 3) (by simp; omega) (by omega); rw [afterCell] at f3; have hs1 := hg1.size; simp only [World.size_alloc] at hs1; have hg1' := Lib.hid hg1; have hm1' := Lib.hid hm1; clear hm1 hg1)
      have hmC : IM rBool w1 (wr.heap.size + 1) 0 (setF []) := by
        rw [setF_nil]
        have := IM.made (wr.alloc (.cells #[.string o.name, .int .i64 o.mach, .int .i64 o.mins, .slice Aa o.after.length ca, .slice Au o.uses.length cu] 46)) rBool
        rw [World.size_alloc] at this
        exact this.kept hg1'.out (by simp; omega)
      have hmI : Inner w1 l β w.heap.size k [] := ((HI.out.alloc _).alloc _).kept hg1'.out (fun i hi _ => by have := (HI.out.1 i hi).1; simp; omega)
      have hmB : Below w.heap.size w w1 := below_block ((HB.out.alloc (by omega) _).alloc (by simp; omega) _) hg1'.out (by simp; omega) (Nat.le_refl _)
      have HC1 := Lib.hid hmC
      have HI1 := Lib.hid hmI
      have HB1 := Lib.hid hmB
      clear hmC hmI hmB hmm c0 c1 c2 c3 c4 f3
      obtain ⟨wo, rfl⟩ : ∃ wo : World, wo = wr := ⟨_, rfl⟩
      go_loopw [8, 29] (fun _ j wz => ∃ q : Nat, q ≤ o.after.length ∧ j = .int .i64 q ∧ IM rMap wz w.heap.size (k + 1) (outF (fun j => if j = k then wo.heap.size + 1 else β j) (List.range k ++ [k])) ∧ Inner wz l β w.heap.size k [] ∧ IM rBool wz (wo.heap.size + 1) q (setF (o.after.take q).reverse) ∧ Below w.heap.size w wz) (fun _ j _ => o.after.length - (intOf j).toNat)
      case atStart => exact ⟨0, Nat.zero_le _, rfl, hm1'.out, HI1.out, by simpa using HC1.out, HB1.out⟩
      case round =>
        obtain ⟨q, hq, rfl, hmo, hmi, hmc, hmb⟩ := hrel
        have HO2 := Lib.hid hmo
        have HI2 := Lib.hid hmi
        have HC2 := Lib.hid hmc
        have HB2 := Lib.hid hmb
        have hsz2 := hmb.size
        have hlc := hmc.lt
        clear hmo hmi hmc hmb
        by_cases hlq : q < o.after.length
        · obtain ⟨b2, off2, x, rfl, hB2, hdx, cx⟩ := HA.out.at_ HB2.out hlq
          obtain ⟨x0, x1⟩ := HDX.out x (List.mem_of_getElem? hdx)
          have HS2 := Lib.hid (show x :: (o.after.take q).reverse = (o.after.take (q + 1)).reverse from by rw [List.take_add_one, hdx]; simp)
          have HKD : Hid (k ∈ List.range k ++ [k]) := by show _ ∈ _; simp
          clear hdx
          go_wp2_with (first
            | (at_lookup; refine wpList_out_look rfl (.tmp 33) (.tmp 34) rfl rfl HO2.out rfl (by omega) HKD.out ?_; rw [if_pos rfl])
            | (at_mapUpdate; refine wpList_set_put rfl (.tmp 35) (.tmp 36) _ rfl rfl HC2.out (by omega) rfl rfl (by omega) (by omega) ?_; intro w3 hm3 hg3; have hg3' := Lib.hid hg3; have hm3' := Lib.hid hm3; clear hm3 hg3))
          have HC3 : Hid (IM rBool w3 (wo.heap.size + 1) (q + 1) (setF (o.after.take (q + 1)).reverse)) := by rw [← HS2.out]; exact hm3'.out
          have HO3 := Lib.hid (HO2.out.kept hg3'.out (by simp; omega))
          have HI3 := Lib.hid (HI2.out.kept hg3'.out (fun i hi _ => by have := (HI.out.1 i hi).2; simp; omega))
          have HB3 := Lib.hid (below_block HB2.out hg3'.out hsz2 (by omega))
          go_wp2
          go_roundw
          case rel => exact ⟨q + 1, by omega, by go_num, HO3.out, HI3.out, HC3.out, HB3.out⟩
          case measure => simp [intOf]; omega
        · have hql : q = o.after.length := by omega
          subst hql
          have HIN : Hid (Inner wr l (fun j => if j = k then wo.heap.size + 1 else β j) w.heap.size (k + 1) []) := by
            refine inner_add HI2.out (fun i hi => (HI.out.1 i hi).2) (by omega) hlc (HC2.out.more (by omega)) ?_
            rw [List.take_length]
            unfold remOf
            rw [getD_at HD.out, List.filter_eq_self.2 (fun _ _ => by simp)]
          have HO4 : Hid (IM rMap wr w.heap.size (k + 1) (outF (fun j => if j = k then wo.heap.size + 1 else β j) (List.range (k + 1)))) := by rw [List.range_succ]; exact HO2.out
          go_wp2
          go_roundw
          case rel => exact ⟨k + 1, _, by omega, by go_num, HO4.out, HIN.out, HB2.out⟩
          case measure => simp [intOf]; omega
    · have hkl : k = l.length := by omega
      subst hkl
      obtain ⟨wo, rfl⟩ : ∃ wo : World, wo = wr := ⟨_, rfl⟩
      go_wp2
      go_loopw [9, 10, 11, 12, 14] (fun v _ _ _ _ wr => ∃ out : List Nat, Upto l out ∧ order l = topo l (l.length - out.length) out ∧ wr.ownsRow w.heap.size 3 1 v out.length (natCells out) ∧
          IM rMap wr w.heap.size l.length (outF β ((List.range l.length).filter fun i => !out.contains i)) ∧ Inner wr l β w.heap.size l.length out ∧ Below w.heap.size w wr) (fun v _ _ _ _ _ => l.length - sliceLen v)
      case atStart => exact ⟨[], Upto.nil l, rfl, ⟨by simp [natCells], .inl ⟨rfl, rfl⟩⟩, by rw [List.filter_eq_self.2 (fun _ _ => by simp)]; exact HM.out, HI.out, HB.out⟩
      case round =>
        obtain ⟨out, hup, hord, hown, hmo, hmi, hmb⟩ := hrel
        have HUP := Lib.hid hup
        have HORD := Lib.hid hord
        have HOWN := Lib.hid hown
        have HO := Lib.hid hmo
        have HIN := Lib.hid hmi
        have HBR := Lib.hid hmb
        have hol := hup.le
        have hszr := hmb.size
        clear hup hord hown hmo hmi hmb
        obtain ⟨A9, c9, rfl⟩ := own_any HOWN.out
        by_cases hall : out.length = l.length
        · have HDM := Lib.hid (HUP.out.all hall)
          have HALL := Lib.hid hall
          clear hall
          go_wp2_with (at_len; refine wpList_out_len rfl (.tmp 39) rfl rfl HO.out ?_; intro cnt hcnt; have hc0 : cnt = 0 := hcnt.2 HDM.out; subst hc0; clear hcnt)
          go_ret2
          show ArrPost l (.returned (.tuple #[.slice A9 out.length c9, .bool true])) _ ∧ _
          refine ⟨?_, HBR.out⟩
          have e : order l = out := by rw [HORD.out, HALL.out, Nat.sub_self]; rfl
          unfold ArrPost
          rw [e]
          exact ⟨fun _ => ⟨A9, c9, rfl, ird_own HOWN.out⟩, fun h => absurd HALL.out h⟩
        · have HDM := Lib.hid (HUP.out.notAll hall)
          have HALL := Lib.hid hall
          have hol' : out.length < l.length := by omega
          clear hall
          go_wp2_with (at_len; refine wpList_out_len rfl (.tmp 39) rfl rfl HO.out ?_; intro cnt hcnt; have hc0 : 0 < cnt := Nat.pos_of_ne_zero (fun e => HDM.out (hcnt.1 e)); clear hcnt)
          obtain ⟨wm, rfl⟩ : ∃ wm : World, wm = wr := ⟨_, rfl⟩
          go_loop [10, 11, 12] (fun j _ _ => ∃ q : Nat, q ≤ l.length ∧ j = .int .i64 q ∧ (∀ i, i < q → readyB l out i = false)) (fun j _ _ => l.length - (intOf j).toNat)
          case atStart => exact ⟨0, Nat.zero_le _, rfl, fun i hi => absurd hi (by omega)⟩
          case round =>
            obtain ⟨q, hq, rfl, hnr⟩ := hrel
            have HNR := Lib.hid hnr
            clear hnr
            by_cases hlq : q < l.length
            · by_cases hqo : q ∈ out
              · have hnd : q ∉ ((List.range l.length).filter fun i => !out.contains i) := by simp [hqo]
                have HND := Lib.hid hnd
                have HRD := Lib.hid (ready_done (l := l) hqo)
                clear hnd hqo
                go_wp2_with (at_lookup; refine wpList_out_ok rfl (.tmp 47) (.tmp 48) rfl rfl HO.out rfl (by omega) ?_; rw [if_neg HND.out, decide_eq_false HND.out])
                go_round
                case rel => exact ⟨q + 1, by omega, by go_num, upto_succ HNR.out HRD.out⟩
                case measure => simp [intOf]; omega
              · have hnd : q ∈ ((List.range l.length).filter fun i => !out.contains i) := by simp [hqo, hlq]
                have HND := Lib.hid hnd
                have HQO := Lib.hid hqo
                have HIQ := Lib.hid (HIN.out.2.2 q hlq hqo)
                clear hnd hqo
                by_cases hrem : remOf l q out = []
                · have HRD := Lib.hid (ready_yes HQO.out hrem)
                  have HREM := Lib.hid hrem
                  clear hrem
                  have HPK := Lib.hid (pick_eq hlq HRD.out HNR.out)
                  have HOL : Hid (q < l.length) := hlq
                  go_wp2_with (first
                    | (at_lookup; refine wpList_out_ok rfl (.tmp 47) (.tmp 48) rfl rfl HO.out rfl (by omega) ?_; rw [if_pos HND.out, decide_eq_true HND.out])
                    | (at_len; (refine wpList_set_len_g ?_ (.tmp 54) rfl rfl HIQ.out ?_); (first | rfl | (simp [Region.wanted, yielded]; done)); intro c2 hc2; have hc2' : c2 = 0 := hc2.2 HREM.out; subst hc2'; clear hc2)
                    | (at_delete; refine wpList_out_del rfl (.tmp 64) (.tmp 65) rfl rfl HO.out rfl (by omega) ?_; intro w1 hm1 hg1; obtain ⟨n1, D1, hn1, hown1, hV1⟩ := hm1; have HOWN1 := Lib.hid hown1; have HV1 := Lib.hid hV1; have HG1 := Lib.hid hg1; clear hown1 hV1 hg1)
                    | (at_range; refine wpList_range_own _ rfl (.tmp 66) 113 rfl 3 114 keyInt Try.underlying113 rMap w.heap.size n1 D1 rfl HOWN1.out ?_; intro w2 hrg hg2 hs2; have HRG := Lib.hid hrg; have HG2 := Lib.hid hg2; have HS2 := Lib.hid hs2; clear hrg hg2 hs2))
                  have HIR0 : Hid (InnerR w2 l β w.heap.size l.length out q (Maps.has D1)) := innerR_start HIN.out HG1.out HG2.out HV1.out
                  have HBW0 : Hid (Below w.heap.size w w2) := (below_block HBR.out HG1.out hszr (Nat.le_refl _)).grown HG2.out (by have := HG1.out.size; omega) (fun k hk => by cases hk)
                  have HRO0 : Hid (w2.ownsRow w.heap.size 3 1 (.slice A9 out.length c9) out.length (natCells out)) := (HOWN.out.kept HG1.out (own_map HOWN.out HO.out)).kept HG2.out (own_none _)
                  have hs1 := HG1.out.size
                  have hbr1 : w.heap.size < w1.heap.size := by have := HO.out.lt; omega
                  obtain ⟨r, hr⟩ : ∃ r, r = w1.heap.size := ⟨_, rfl⟩
                  have HR := Lib.hid hr
                  have HRG0 : Hid (w2.ranges Try.prog 3 rMap w.heap.size r n1 D1 (Maps.has D1) (Maps.size D1)) := by rw [HR.out]; exact HRG.out
                  have hrb : w.heap.size < r := by omega
                  have HBR1 : Hid (∀ i, i < l.length → β i < r) := fun i hi => by have := (HIN.out.1 i hi).2; rw [HR.out]; omega
                  rw [← HR.out]
                  clear hr HRG
                  go_loopw [14] (fun _ wz => ∃ left cnt, wz.ranges Try.prog 3 rMap w.heap.size r n1 D1 left cnt ∧ InnerR wz l β w.heap.size l.length out q left ∧ wz.ownsRow w.heap.size 3 1 (.slice A9 out.length c9) out.length (natCells out) ∧ Below w.heap.size w wz) (fun _ wz => wz.rangeLeft w.heap.size r)
                  case atStart => exact ⟨_, _, HRG0.out, HIR0.out, HRO0.out, HBW0.out⟩
                  case round =>
                    obtain ⟨left, cnt, hrg, hir, hro, hbz⟩ := hrel
                    have HRG2 := Lib.hid hrg
                    have HIR2 := Lib.hid hir
                    have HRO2 := Lib.hid hro
                    have HBZ2 := Lib.hid hbz
                    have hszz := hbz.size
                    clear hrg hir hro hbz
                    obtain ⟨i0, hi0, hz0, hz1, hz2⟩ := info_parts infoInt
                    go_wp2_with (at_next; refine wpList_next_ranges _ rfl (.tmp 67) rfl 3 keyInt rMap (Value.int .i64) Value.map invK invV w.heap.size r n1 D1 left cnt rfl HRG2.out ?_ ?_)
                    · intro hc0 hl0
                      have HIF := Lib.hid (innerR_end HIR2.out hl0)
                      clear hc0 hl0
                      go_wp2_with (at_builtin; refine wpList_append_own _ rfl (.tmp 74) (.tmp 76) 33 rfl w.heap.size 3 i0 _ 1 8 Try.underlying33 hi0 hz0 hz1 hz2 rfl (by decide) _ _ _ rfl (HRO2.out.alloc _) ⟨wr.heap.size, 0, none⟩ 1 1 [.int .i64 (q : Int)] rfl rfl ?m1 ?m2 ?m3 ?m4 ?m5 ?_)
                      case m1 => exact cell_one_new _ _ _
                      case m2 => intro u hu; simp at hu; subst hu; rfl
                      case m3 => unfold maxLen; omega
                      case m4 => omega
                      case m5 => simp; omega
                      intro v' w' hown' hgrow _
                      have HO' : Hid (w'.ownsRow w.heap.size 3 1 v' (out ++ [q]).length (natCells (out ++ [q]))) := by
                        show World.ownsRow _ _ _ _ _ _ _
                        rw [List.length_append]; unfold natCells; rw [List.map_append]; exact hown'
                      have HB' : Hid (Below w.heap.size w w') := (HBZ2.out.alloc hszz _).grown hgrow (by simp; omega) (fun g hg => (HRO2.out.lt g hg).1)
                      have HM' : Hid (IM rMap w' w.heap.size l.length (outF β ((List.range l.length).filter fun i => !(out ++ [q]).contains i))) := by
                        have h1 : IM rMap wr w.heap.size l.length (outF β (((List.range l.length).filter fun i => !out.contains i).filter (· ≠ q))) := ⟨n1, D1, hn1, HRG2.out.owns, HV1.out⟩
                        have h2 := (h1.alloc (.cells #[.int .i64 (q : Int)] 3)).kept hgrow (by rcases own_map HRO2.out h1 with h | h <;> rw [ne_comm] <;> first | exact h | (rw [h]; simp))
                        rw [outF_mem (dom' := ((List.range l.length).filter fun i => !out.contains i).filter (· ≠ q)) (dom_snoc l.length out q)]
                        exact h2
                      have HI' : Hid (Inner w' l β w.heap.size l.length (out ++ [q])) := (HIF.out.alloc _).kept hgrow (fun i hi ho => by rcases own_map HRO2.out (HIF.out.2.2 i hi ho) with h | h <;> rw [ne_comm] <;> first | exact h | (rw [h]; simp))
                      have HUP' := Lib.hid (HUP.out.step HPK.out)
                      have HORD' : Hid (order l = topo l (l.length - (out ++ [q]).length) (out ++ [q])) := by
                        show _ = _
                        rw [HORD.out, show l.length - out.length = (l.length - (out ++ [q]).length) + 1 from by simp; omega, topo_step HPK.out]
                      clear hown' hgrow
                      obtain ⟨Av, cv, rfl⟩ := own_any HO'.out
                      go_wp2
                      go_roundw
                      case rel => exact ⟨out ++ [q], HUP'.out, HORD'.out, HO'.out, HM'.out, HI'.out, HB'.out⟩
                      case measure => simp [sliceLen]; omega
                    · intro x c kl y1 y2 w3 cnt3 hkey hlk hv hat hrg3 hlt3 hg3 hs3 hen
                      obtain ⟨i, hi, rfl, rfl, rfl⟩ := entry_is (y := (y1, y2)) HV1.out hkey hv hat
                      have hio : i < l.length ∧ i ≠ q ∧ i ∉ out := by simpa [and_assoc] using hi
                      obtain ⟨il, iq, io⟩ := hio
                      have HIX : Hid (IM rBool w3 (β i) 1000 (setF (remOf l i out))) := by
                        have h1 := HIR2.out.2.2 i il io iq
                        rw [if_pos hlk] at h1
                        exact h1.kept hg3 (by have := HBR1.out i il; simp; omega)
                      have HRG3 := Lib.hid hrg3
                      have HG3 := Lib.hid hg3
                      have HLK := Lib.hid hlk
                      have HS3 := Lib.hid hs3
                      have HIL : Hid (i < l.length ∧ i ∉ out ∧ i ≠ q) := ⟨il, io, iq⟩
                      clear hkey hlk hv hat hrg3 hg3 hs3 hi io iq
                      go_wp2_with (at_delete; refine wpList_set_del rfl (.tmp 72) (.tmp 73) rfl rfl HIX.out rfl (by omega) (by omega) ?_; intro w4 hm4 hg4)
                      have HS4 : Hid (setF ((remOf l i out).filter (· ≠ (q : Int))) = setF (remOf l i (out ++ [q]))) := by
                        show _ = _
                        rw [remOf_snoc l i q out (fun a ha => (HSD.out.idx _ (getD_mem HIL.out.1) a ha).1)]
                      have HIR4 : Hid (InnerR w4 l β w.heap.size l.length out q (fun z => left z && !z.sameKey (ik i))) := innerR_step HIR2.out HG3.out hg4 HIL.out.1 (fun j hj => HBR1.out j hj) (by rw [← HS4.out]; exact hm4)
                      have HRG4 := Lib.hid (HRG3.out.kept hg4 (by have := (HIR2.out.1 i HIL.out.1).1; simp; omega) (by have := HBR1.out i HIL.out.1; simp; omega))
                      have HRO4 := Lib.hid ((HRO2.out.kept HG3.out (own_iter HRO2.out HRG2.out)).kept hg4 (own_map2 HRO2.out HG3.out HRG2.out HIX.out))
                      have HBZ4 := Lib.hid (below_block (below_block HBZ2.out HG3.out hszz (by omega)) hg4 (by rw [HS3.out]; omega) (by have := (HIR2.out.1 i HIL.out.1).1; omega))
                      have HME : Hid (w4.rangeLeft w.heap.size r < wr.rangeLeft w.heap.size r) := by
                        show _ < _
                        rw [HRG4.out.left_eq, HRG2.out.left_eq]; exact hlt3
                      clear hm4 hg4 hlt3
                      go_frame
                      go_roundw
                      case rel => exact ⟨_, _, HRG4.out, HIR4.out, HRO4.out, HBZ4.out⟩
                      case measure => exact HME.out
                · have HRD := Lib.hid (ready_no hrem)
                  have HREM := Lib.hid hrem
                  clear hrem
                  go_wp2_with (first
                    | (at_lookup; refine wpList_out_ok rfl (.tmp 47) (.tmp 48) rfl rfl HO.out rfl (by omega) ?_; rw [if_pos HND.out, decide_eq_true HND.out])
                    | (at_len; (refine wpList_set_len_g ?_ (.tmp 54) rfl rfl HIQ.out ?_); (first | rfl | (simp [Region.wanted, yielded]; done)); intro c2 hc2; have hc2' : ((c2 : Int) == 0) = false := (by have : c2 ≠ 0 := fun e => HREM.out (hc2.1 e); simp; omega); clear hc2))
                  go_round
                  case rel => exact ⟨q + 1, by omega, by go_num, upto_succ HNR.out HRD.out⟩
                  case measure => simp [intOf]; omega
            · have hql : q = l.length := by omega
              subst hql
              have HPN := Lib.hid (pick_eq_none HNR.out)
              have HNE : Hid ((order l).length ≠ l.length) := by
                show _ ≠ _
                rw [HORD.out, topo_stuck HPN.out]
                exact HALL.out
              go_wp2
              go_ret2
              show ArrPost l (.returned (.tuple #[.slice none 0 0, .bool false])) _ ∧ _
              exact ⟨⟨fun h => absurd h HNE.out, fun _ => rfl⟩, HBR.out⟩
end Go.Proofs.Ytelgkangojmhdaa
/- Walks of operation.checkList (without uses) and operation.Order. -/
namespace Go.Proofs.Ytelgkangojmhdaa
open Go.RowKit

theorem ordErr_long {l : List Opn} (h : 16 < l.length) : ordErr l = 5 := by
  have : singErr l = 5 := by unfold singErr; rw [if_pos h]
  unfold ordErr; rw [this]; rfl
theorem ordErr_one {l : List Opn} {k : Nat} (h16 : l.length ≤ 16) (h : errUpto l k = 0) (he : oneErr l k ≠ 0) (hk : k < l.length) : ordErr l = oneErr l k := by
  have : singErr l = oneErr l k := by unfold singErr; rw [if_neg (by omega)]; exact errUpto_stop h he _ hk
  unfold ordErr; rw [this, if_pos he]
theorem singErr_zero {l : List Opn} (h16 : l.length ≤ 16) (h : errUpto l l.length = 0) : singErr l = 0 := by
  unfold singErr; rw [if_neg (by omega)]; exact h
theorem ordErr_cycle {l : List Opn} (h : singErr l = 0) (ho : (order l).length ≠ l.length) : ordErr l = 9 := by
  unfold ordErr; rw [if_neg (by simp [h]), if_pos]
  have := (topo_upto (l := l) l.length [] (Upto.nil l)).le
  unfold order at ho ⊢
  omega
theorem ordErr_ok {l : List Opn} (h : singErr l = 0) (ho : (order l).length = l.length) : ordErr l = 0 := by
  unfold ordErr; rw [if_neg (by simp [h]), if_neg (by omega)]
theorem ordErr_zero {l : List Opn} (h : ordErr l = 0) : singErr l = 0 ∧ (order l).length = l.length := by
  unfold ordErr at h
  by_cases h1 : singErr l ≠ 0
  · rw [if_pos h1] at h; exact absurd h h1
  · rw [if_neg h1] at h
    by_cases h2 : (order l).length < l.length
    · rw [if_pos h2] at h; cases h
    · have := (topo_upto (l := l) l.length [] (Upto.nil l)).le
      unfold order at h2 ⊢
      exact ⟨by simpa using h1, by omega⟩

/-- What Order returns. -/
def OrdPost (l : List Opn) (e : Ending) (w' : World) : Prop :=
  ∃ A n c, e = .returned (.tuple #[.slice A n c, .int .i64 (ordErr l)]) ∧ (ordErr l = 0 → n = (order l).length ∧ IRd w' w'.heap.size A ((order l).map Int.ofNat)) ∧ (ordErr l ≠ 0 → A = none ∧ n = 0 ∧ c = 0)
theorem ordPost_bad {l : List Opn} {w' : World} {x : Int} (h : ordErr l = x) (hx : x ≠ 0) : OrdPost l (.returned (.tuple #[.slice none 0 0, .int .i64 x])) w' := by
  subst h; exact ⟨none, 0, 0, rfl, fun h => absurd h hx, fun _ => ⟨rfl, rfl, rfl⟩⟩

set_option maxRecDepth 100000 in
set_option maxHeartbeats 1000000 in
theorem checkList_any (A : Option Addr) (cap : Nat) (l : List Opn) (w : World) (h : ORd w w.heap.size A l) (hn : l.length ≤ 1000) (hcap : l.length ≤ cap) (hs : OSmall l) :
    Calls Try.prog 31 #[.slice A l.length cap, .int .i64 (-1)] w fun e w' => OrdPost l e w' ∧ Below w.heap.size w w' := by
  have H := Lib.hid h
  have HS := Lib.hid hs
  clear h hs
  by_cases hlong : 16 < l.length
  · have HE := Lib.hid (ordErr_long hlong)
    go_enter Try.func31, Try.ntmps31
    go_wp2
    go_ret2
    exact ⟨ordPost_bad HE.out (by omega), Below.refl _ _⟩
  · go_enter Try.func31, Try.ntmps31
    go_wp2_with fail
    go_loopw [6, 7, 15] (fun _ _ j wr => ∃ k : Nat, k ≤ l.length ∧ j = .int .i64 k ∧ errUpto l k = 0 ∧ Below w.heap.size w wr) (fun _ _ j _ => l.length - (intOf j).toNat)
    case atStart => exact ⟨0, Nat.zero_le _, rfl, rfl, Below.refl _ _⟩
    case round =>
      obtain ⟨k, hk, rfl, hu, hb⟩ := hrel
      have HU := Lib.hid hu
      have HB := Lib.hid hb
      have hsz := hb.size
      have HR := Lib.hid ((H.out.below hb).more hsz)
      clear hu hb
      by_cases hlt : k < l.length
      · go_wp2_with fail
        ((with_reducible refine (checkOne_any A cap l k _ HR.out hlt hn hcap HS.out).mono ?_); rintro e w1 ⟨rfl, hb1⟩)
        have HB1 := Lib.hid (HB.out.trans (hb1.mono hsz))
        clear hb1
        by_cases he : oneErr l k = 0
        · have HG := Lib.hid (errUpto_go HU.out he)
          have HZ := Lib.hid he
          clear he
          rw [HZ.out]
          go_wp2
          go_roundw
          case rel => exact ⟨k + 1, by omega, by go_num, HG.out, HB1.out⟩
          case measure => simp [intOf]; omega
        · have HE := Lib.hid (ordErr_one (by omega) HU.out he hlt)
          have HNE := Lib.hid he
          have hne : (oneErr l k != 0) = true := by simpa using he
          clear he
          go_wp2
          go_ret2
          exact ⟨ordPost_bad HE.out HNE.out, HB1.out⟩
      · have hkl : k = l.length := by omega
        subst hkl
        have HZ := Lib.hid (singErr_zero (by omega) HU.out)
        go_wp2_with fail
        ((with_reducible refine (arrange_any A cap l _ HR.out HS.out (sound_of HZ.out)).mono ?_); rintro e w1 ⟨hp, hb1⟩)
        have HB1 := Lib.hid (HB.out.trans (hb1.mono hsz))
        clear hb1
        by_cases ho : (order l).length = l.length
        · obtain ⟨A1, c1, rfl, hi⟩ := hp.1 ho
          have HI := Lib.hid hi
          have HE := Lib.hid (ordErr_ok HZ.out ho)
          clear hp hi ho
          go_wp2
          go_ret2
          exact ⟨⟨A1, (order l).length, c1, by rw [HE.out]; rfl, fun _ => ⟨rfl, HI.out⟩, fun h => absurd HE.out h⟩, HB1.out⟩
        · obtain rfl := hp.2 ho
          have HE := Lib.hid (ordErr_cycle HZ.out ho)
          clear hp ho
          go_wp2
          go_ret2
          exact ⟨ordPost_bad HE.out (by omega), HB1.out⟩

set_option maxHeartbeats 1000000 in
theorem order_any (A : Option Addr) (cap : Nat) (l : List Opn) (w : World) (h : ORd w w.heap.size A l) (hn : l.length ≤ 1000) (hcap : l.length ≤ cap) (hs : OSmall l) :
    Calls Try.prog 15 #[.slice A l.length cap] w fun e w' => OrdPost l e w' ∧ Below w.heap.size w w' := by
  have H := Lib.hid h
  have HS := Lib.hid hs
  clear h hs
  go_enter Try.func15, Try.ntmps15
  go_wp2_with fail
  ((with_reducible refine (checkList_any A cap l _ H.out hn hcap HS.out).mono ?_); rintro e w1 ⟨⟨A1, n1, c1, rfl, hp1, hp2⟩, hb1⟩)
  have HP1 := Lib.hid hp1
  have HP2 := Lib.hid hp2
  have HB1 := Lib.hid hb1
  clear hp1 hp2 hb1
  go_wp2
  go_ret2
  exact ⟨⟨A1, n1, c1, rfl, HP1.out, HP2.out⟩, HB1.out⟩
end Go.Proofs.Ytelgkangojmhdaa
/- Walks of the reference's single, sorted, sound and Order of operations. -/
namespace Go.Proofs.Ytelgkangojmhdaa
open Go.RowKit

theorem singErr_long {l : List Opn} (h : 16 < l.length) : singErr l = 5 := by unfold singErr; rw [if_pos h]
theorem singErr_one {l : List Opn} {k : Nat} (h16 : l.length ≤ 16) (h : errUpto l k = 0) (he : oneErr l k ≠ 0) (hk : k < l.length) : singErr l = oneErr l k := by
  unfold singErr; rw [if_neg (by omega)]; exact errUpto_stop h he _ hk

set_option maxRecDepth 100000 in
set_option maxHeartbeats 2000000 in
theorem single_any (A : Option Addr) (cap : Nat) (l : List Opn) (w : World) (h : ORd w w.heap.size A l) (hn : l.length ≤ 1000) (hs : OSmall l) :
    Calls Try.prog 95 #[.slice A l.length cap, .int .i64 (-1)] w fun e w' => e = .returned (.int .i64 (singErr l)) ∧ Below w.heap.size w w' := by
  have H := Lib.hid h
  have HS := Lib.hid hs
  clear h hs
  by_cases hlong : 16 < l.length
  · have HE := Lib.hid (singErr_long hlong)
    go_enter Try.func95, Try.ntmps95
    go_wp2
    go_ret
    exact ⟨ret_int HE.out.symm, Below.refl _ _⟩
  · go_enter Try.func95, Try.ntmps95
    go_wp2_with fail
    go_loopw [5, 6, 7] (fun j _ _ wr => ∃ k : Nat, k ≤ l.length ∧ j = .int .i64 k ∧ errUpto l k = 0 ∧ Below w.heap.size w wr) (fun j _ _ _ => l.length - (intOf j).toNat)
    case atStart => exact ⟨0, Nat.zero_le _, rfl, rfl, Below.refl _ _⟩
    case round =>
      obtain ⟨i, hi, rfl, hu0, hb0⟩ := hrel
      have HU0 := Lib.hid hu0
      have HB0 := Lib.hid hb0
      have hsz0 := hb0.size
      clear hu0 hb0
      obtain ⟨wo, rfl⟩ : ∃ wo : World, wo = wr := ⟨_, rfl⟩
      by_cases hlt0 : i < l.length
      · obtain ⟨b, off, o, rfl, hB, hd, hat⟩ := H.out.at_ (Below.refl _ _) hlt0
        obtain ⟨c0', c1', c2', ⟨Aa, ca, c3', a1, a2⟩, ⟨Au, cu, c4', u1, u2⟩⟩ := hat
        have c0 := (HB0.out.cell (p := ⟨b, _, none⟩) hB).trans c0'
        have c1 := (HB0.out.cell (p := ⟨b, _, none⟩) hB).trans c1'
        have c2 := (HB0.out.cell (p := ⟨b, _, none⟩) hB).trans c2'
        have c3 := (HB0.out.cell (p := ⟨b, _, none⟩) hB).trans c3'
        have c4 := (HB0.out.cell (p := ⟨b, _, none⟩) hB).trans c4'
        have hso := HS.out o (List.mem_of_getElem? hd)
        have HD := Lib.hid hd
        have HA := Lib.hid a2
        have hso1 := hso.2.1
        have hso2 := hso.1
        clear c0' c1' c2' c3' c4' hd a2 u1 u2 hso
        go_wp2_with fail
        ((with_reducible refine (refName_any o.name _ (by omega)).mono ?_); rintro e w1 ⟨rfl, rfl⟩)
        cases hnm : nameOk o.name.data.toList with
        | false =>
          have HE1 := oneErr_name HD.out hnm
          have HE := Lib.hid ((singErr_one (by omega) HU0.out (by rw [HE1]; omega) hlt0).trans HE1)
          clear hnm HE1
          go_wp2
          go_ret
          exact ⟨ret_int HE.out.symm, HB0.out.alloc hsz0 _⟩
        | true =>
          have HN := Lib.hid hnm
          clear hnm
          have HZ := Lib.hid (opNew wo o Aa Au ca cu 46)
          go_wp2_with fail
          revert HZ
          generalize wo.alloc (.cells #[.string o.name, .int .i64 o.mach, .int .i64 o.mins, .slice Aa o.after.length ca, .slice Au o.uses.length cu] 46) = w0
          intro HZ
          obtain ⟨z0, z1, z2, z3, z4, hz0, hbw⟩ := HZ.out
          have HBW := Lib.hid (HB0.out.trans (hbw.mono hsz0))
          have HZ0 := Lib.hid z0
          have HZ1 := Lib.hid z1
          have HZ2 := Lib.hid z2
          have HZ3 := Lib.hid z3
          clear hbw z0 z1 z2 z3 z4 HZ c0 c1 c2 c3 c4
          go_loopw [7] (fun j wr => ∃ k : Nat, k ≤ i ∧ j = .int .i64 k ∧ (l.take k).any (sameName o) = false ∧ Below (wo.heap.size + 1) w0 wr) (fun j _ => i - (intOf j).toNat)
          case atStart => exact ⟨0, Nat.zero_le _, rfl, rfl, Below.refl _ _⟩
          case round =>
            obtain ⟨k, hk, rfl, hu, hb⟩ := hrel
            have HU := Lib.hid hu
            have hsz := hb.size
            have hsz' : wo.heap.size < wr.heap.size := by omega
            have hsz1 : wo.heap.size + 1 ≤ wr.heap.size := by omega
            have z0 := (hb.cell (p := ⟨wo.heap.size, 0, none⟩) (by simp)).trans HZ0.out
            have z1 := (hb.cell (p := ⟨wo.heap.size, 1, none⟩) (by simp)).trans HZ1.out
            have z2 := (hb.cell (p := ⟨wo.heap.size, 2, none⟩) (by simp)).trans HZ2.out
            have z3 := (hb.cell (p := ⟨wo.heap.size, 3, none⟩) (by simp)).trans HZ3.out
            have HB := Lib.hid hb
            have HBW2 := Lib.hid (HBW.out.trans (hb.mono (by omega)))
            clear hu hb
            by_cases hlt : k < i
            · obtain ⟨b', off', p, e', hB', hp, hpat⟩ := H.out.at_ HBW2.out (show k < l.length by omega)
              cases e'
              obtain ⟨c0, c1, c2, ⟨Ap, cp, c3, p1, p2⟩, ⟨Aq, cq, c4, q1, q2⟩⟩ := hpat
              have HPD := Lib.hid hp
              clear hp p1 p2 q1 q2 z1 z2 z3 hB' c1 c2 c3 c4
              have hk0 : (0 : Int) ≤ (k : Int) := by omega
              have hk1 : (k : Int) < (l.length : Int) := by omega
              cases hsn : sameName o p with
              | true =>
                have HE1 := oneErr_dup HD.out HN.out (k := k) (by rw [List.getElem?_take, if_pos hlt]; exact HPD.out) hsn
                have HE := Lib.hid ((singErr_one (by omega) HU0.out (by rw [HE1]; omega) hlt0).trans HE1)
                have hsb : (p.name.toList == o.name.toList) = true := by rw [← same_toList]; exact hsn
                clear hsn HE1
                go_wp2
                go_quiet (fail)
                go_wp2
                go_ret
                exact ⟨ret_int HE.out.symm, below_drewN HBW2.out _⟩
              | false =>
                have HE := Lib.hid (any_take_succ HPD.out HU.out hsn)
                have hsb : (p.name.toList == o.name.toList) = false := by rw [← same_toList]; exact hsn
                clear hsn
                go_wp2
                go_quiet (fail)
                go_wp2
                go_roundw
                case rel => exact ⟨k + 1, by omega, by go_num, HE.out, below_drewN HB.out _⟩
                case measure => simp [intOf]; omega
            · have hki : k = i := by omega
              subst hki
              by_cases hr : o.mach < 0 ∨ 8 ≤ o.mach ∨ o.mins < 1 ∨ 10000 < o.mins
              · have HE1 := oneErr_range HD.out HN.out HU.out (rangeBad_num hr)
                have HE := Lib.hid ((singErr_one (by omega) HU0.out (by rw [HE1]; omega) hlt0).trans HE1)
                clear HE1
                go_wp2
                all_goals
                  go_ret
                  exact ⟨ret_int HE.out.symm, HBW2.out⟩
              · have r1 : 0 ≤ o.mach := by omega
                have r2 : o.mach < 8 := by omega
                have r3 : 1 ≤ o.mins := by omega
                have r4 : o.mins ≤ 10000 := by omega
                have HI := Lib.hid ((HA.out.below HBW2.out).more (show w.heap.size ≤ wr.heap.size by omega))
                clear hr
                go_wp2_with fail
                ((with_reducible refine (within_any Aa ca o.after l.length _ HI.out (by omega)).mono ?_); rintro e w2 ⟨rfl, rfl⟩)
                cases hix : idxOk o.after l.length with
                | false =>
                  have HE1 := oneErr_range HD.out HN.out HU.out (rangeBad_idx hix)
                  have HE := Lib.hid ((singErr_one (by omega) HU0.out (by rw [HE1]; omega) hlt0).trans HE1)
                  clear hix HE1
                  go_wp2
                  go_ret
                  exact ⟨ret_int HE.out.symm, HBW2.out⟩
                | true =>
                  have HR := Lib.hid (rangeBad_false r1 r2 r3 r4 hix)
                  clear hix
                  go_wp2_with fail
                  ((with_reducible refine (twice_any Aa ca o.after _ HI.out (by omega) a1).mono ?_); rintro e w2 ⟨rfl, hb2⟩)
                  have HB2 := Lib.hid (HBW2.out.trans (hb2.mono (by omega)))
                  clear hb2
                  cases hdp : dup o.after with
                  | true =>
                    have HE1 := oneErr_twice HD.out HN.out HU.out HR.out hdp
                    have HE := Lib.hid ((singErr_one (by omega) HU0.out (by rw [HE1]; omega) hlt0).trans HE1)
                    clear hdp HE1
                    go_wp2
                    go_ret
                    exact ⟨ret_int HE.out.symm, HB2.out⟩
                  | false =>
                    have HE := Lib.hid (errUpto_go HU0.out (oneErr_ok HD.out HN.out HU.out HR.out hdp))
                    clear hdp
                    go_wp2
                    go_roundw
                    case rel => exact ⟨k + 1, by omega, by go_num, HE.out, HB2.out⟩
                    case measure => simp [intOf]; omega
      · have hil : i = l.length := by omega
        subst hil
        have HE := Lib.hid (singErr_zero (by omega) HU0.out)
        go_wp2
        go_ret
        exact ⟨ret_int HE.out.symm, HB0.out⟩
end Go.Proofs.Ytelgkangojmhdaa
/- Walks of the reference's sorted, sound and Order of operations. -/
namespace Go.Proofs.Ytelgkangojmhdaa
open Go.RowKit

def inOut (out : List Nat) (x : Int) : Bool := out.contains x.toNat
theorem hasB_out {out : List Nat} {x : Int} (h : 0 ≤ x) : hasB (out.map Int.ofNat) x = inOut out x := by
  unfold hasB inOut
  rw [Bool.eq_iff_iff, List.contains_iff_mem, List.contains_iff_mem, List.mem_map]
  constructor
  · rintro ⟨a, ha, rfl⟩; simpa using ha
  · intro ha; exact ⟨_, ha, by simp; omega⟩
theorem hasOut_any (A : Option Addr) (cap : Nat) (out : List Nat) (x : Int) (w : World) (h : IRd w w.heap.size A (out.map Int.ofNat)) (hn : out.length ≤ 1000) (hx : 0 ≤ x) :
    Calls Try.prog 96 #[.slice A out.length cap, .int .i64 x] w fun e w' => e = .returned (.bool (inOut out x)) ∧ w = w' := by
  have := has45_any A cap (out.map Int.ofNat) x w h (by simpa using hn)
  rw [List.length_map, hasB_out hx] at this
  exact this
def readyK (l : List Opn) (out : List Nat) (i k : Nat) : Bool := !inOut out i && (((l.getD i op0).after.take k).all fun a => inOut out a)
theorem readyK_all {l : List Opn} {out : List Nat} {i k : Nat} (h : (l.getD i op0).after.length ≤ k) : readyK l out i k = readyB l out i := by
  unfold readyK readyB inOut; rw [List.take_of_length_le h]; simp
theorem readyK_succ {l : List Opn} {out : List Nat} {i k : Nat} {a : Int} (h : (l.getD i op0).after[k]? = some a) : readyK l out i (k + 1) = (readyK l out i k && inOut out a) := by
  unfold readyK; rw [List.take_add_one, h]; simp [Bool.and_assoc]
theorem order_stuck {l : List Opn} {out : List Nat} {t : Nat} (h : order l = topo l (l.length - t) out) (hp : pick l out = none) : order l = topo l (l.length - (t + 1)) out := by
  rw [h, topo_stuck hp, topo_stuck hp]
theorem order_next {l : List Opn} {out : List Nat} {t i : Nat} (ht : t < l.length) (h : order l = topo l (l.length - t) out) (hp : pick l out = some i) : order l = topo l (l.length - (t + 1)) (out ++ [i]) := by
  rw [h, show l.length - t = (l.length - (t + 1)) + 1 from by omega, topo_step hp]

set_option maxRecDepth 100000 in
set_option maxHeartbeats 2000000 in
theorem sorted_any (A : Option Addr) (cap : Nat) (l : List Opn) (w : World) (h : ORd w w.heap.size A l) (hs : OSmall l) (hsd : Sound l) :
    Calls Try.prog 73 #[.slice A l.length cap] w fun e w' => (∃ A' c, e = .returned (.slice A' (order l).length c) ∧ IRd w' w'.heap.size A' ((order l).map Int.ofNat)) ∧ Below w.heap.size w w' := by
  have H := Lib.hid h
  have HS := Lib.hid hs
  have HSD := Lib.hid hsd
  have hn : l.length ≤ 16 := hsd.len
  clear h hs hsd
  obtain ⟨i0, hi0, hz0, hz1, hz2⟩ := info_parts infoInt
  go_enter Try.func73, Try.ntmps73
  go_wp2_with fail
  go_loopw [3, 4, 5, 6, 9] (fun v _ _ _ j wr => ∃ (t : Nat) (out : List Nat), t ≤ l.length ∧ j = .int .i64 t ∧ Upto l out ∧ order l = topo l (l.length - t) out ∧ wr.ownsRow w.heap.size 3 1 v out.length (natCells out) ∧ Below w.heap.size w wr) (fun _ _ _ _ j _ => l.length - (intOf j).toNat)
  case atStart => exact ⟨0, [], Nat.zero_le _, rfl, Upto.nil l, rfl, ⟨by simp [natCells], .inl ⟨rfl, rfl⟩⟩, Below.refl _ _⟩
  case round =>
    obtain ⟨t, out, ht, rfl, hup, hord, hown, hb⟩ := hrel
    have HUP := Lib.hid hup
    have HORD := Lib.hid hord
    have HOWN := Lib.hid hown
    have HB := Lib.hid hb
    have hol := hup.le
    have hsz := hb.size
    obtain ⟨A9, c9, rfl⟩ := own_any HOWN.out
    have HI := Lib.hid (ird_own HOWN.out)
    clear hup hord hown hb
    obtain ⟨wm, rfl⟩ : ∃ wm : World, wm = wr := ⟨_, rfl⟩
    by_cases hlt : t < l.length
    · go_wp2_with fail
      go_loop [3, 4, 5, 6] (fun v j _ _ => ∃ q : Nat, q ≤ l.length ∧ v = .slice A9 out.length c9 ∧ j = .int .i64 q ∧ (∀ i, i < q → readyB l out i = false)) (fun _ j _ _ => l.length - (intOf j).toNat)
      case atStart => exact ⟨0, Nat.zero_le _, rfl, rfl, fun i hi => absurd hi (by omega)⟩
      case round =>
        obtain ⟨q, hq, rfl, rfl, hnr⟩ := hrel
        have HNR := Lib.hid hnr
        clear hnr
        by_cases hlq : q < l.length
        · obtain ⟨b, off, o, rfl, hB, hd, hat⟩ := H.out.at_ (Below.refl _ _) hlq
          obtain ⟨c0', c1', c2', ⟨Aa, ca, c3', a1, a2⟩, _⟩ := hat
          have c3 := (HB.out.cell (p := ⟨b, _, none⟩) hB).trans c3'
          have HA := Lib.hid a2
          have HGD := Lib.hid (getD_at hd)
          have hso := (HS.out o (List.mem_of_getElem? hd)).2.1
          have HDX := Lib.hid (HSD.out.idx o (List.mem_of_getElem? hd))
          clear c0' c1' c2' c3' a2 hd
          go_wp2_with fail
          ((with_reducible refine (hasOut_any A9 c9 out q _ HI.out (by omega) (by omega)).mono ?_); rintro e w1 ⟨rfl, rfl⟩)
          have HK0 : Hid ((!inOut out q) = readyK l out q 0) := by show _ = _; unfold readyK; simp
          go_wp2_with fail
          rw [HK0.out]
          go_loop [5, 6] (fun v j => ∃ k : Nat, k ≤ o.after.length ∧ j = .int .i64 k ∧ v = .bool (readyK l out q k)) (fun _ j => o.after.length - (intOf j).toNat)
          case atStart => exact ⟨0, Nat.zero_le _, rfl, rfl⟩
          case round =>
            obtain ⟨k, hk, rfl, rfl⟩ := hrel
            by_cases hlk : k < o.after.length
            · obtain ⟨b2, off2, x, rfl, hB2, hdx, cx⟩ := HA.out.at_ HB.out hlk
              obtain ⟨x0, x1⟩ := HDX.out x (List.mem_of_getElem? hdx)
              have HKS := Lib.hid (readyK_succ (l := l) (out := out) (i := q) (k := k) (a := x) (by rw [HGD.out]; exact hdx))
              clear hdx
              cases hrk : readyK l out q k with
              | false =>
                have HKS' : Hid (readyK l out q (k + 1) = false) := by rw [HKS.out, hrk]; rfl
                clear hrk
                go_wp2
                go_round
                case rel => exact ⟨k + 1, by omega, by go_num, by rw [HKS'.out]⟩
                case measure => simp [intOf]; omega
              | true =>
                have HKS' : Hid (readyK l out q (k + 1) = inOut out x) := by rw [HKS.out, hrk]; rfl
                clear hrk
                go_wp2_with fail
                ((with_reducible refine (hasOut_any A9 c9 out x _ HI.out (by omega) x0).mono ?_); rintro e w1 ⟨rfl, rfl⟩)
                go_wp2
                go_round
                case rel => exact ⟨k + 1, by omega, by go_num, by rw [HKS'.out]⟩
                case measure => simp [intOf]; omega
            · have HKA := Lib.hid (readyK_all (l := l) (out := out) (i := q) (k := k) (by rw [HGD.out]; omega))
              rw [HKA.out]
              cases hrd : readyB l out q with
              | false =>
                have HRD := Lib.hid hrd
                clear hrd
                go_wp2
                go_round
                case rel => exact ⟨q + 1, by omega, rfl, by go_num, upto_succ HNR.out HRD.out⟩
                case measure => simp [intOf]; omega
              | true =>
                have HPK := Lib.hid (pick_eq hlq hrd HNR.out)
                clear hrd
                go_wp2_with (at_builtin; refine wpList_append_own _ rfl (.tmp 45) (.tmp 47) 33 rfl w.heap.size 3 i0 _ 1 8 Try.underlying33 hi0 hz0 hz1 hz2 rfl (by decide) _ _ _ rfl (HOWN.out.alloc _) ⟨wm.heap.size, 0, none⟩ 1 1 [.int .i64 (q : Int)] rfl rfl ?m1 ?m2 ?m3 ?m4 ?m5 ?_)
                case m2 => first | rfl | (intro u hu; simp at hu; subst hu; rfl)
                case m3 => unfold maxLen; omega
                case m4 => omega
                case m5 => first | omega | (simp; omega)
                intro v' w' hown' hgrow _
                have HO' : Hid (w'.ownsRow w.heap.size 3 1 v' (out ++ [q]).length (natCells (out ++ [q]))) := by
                  show World.ownsRow _ _ _ _ _ _ _
                  rw [List.length_append]; unfold natCells; rw [List.map_append]; exact hown'
                have HB' : Hid (Below w.heap.size w w') := (HB.out.alloc hsz _).grown hgrow (by simp; omega) (fun g hg => (HOWN.out.lt g hg).1)
                have HUP' := Lib.hid (HUP.out.step HPK.out)
                have HORD' := Lib.hid (order_next hlt HORD.out HPK.out)
                clear hown' hgrow
                go_wp2
                go_roundw
                case rel => exact ⟨t + 1, out ++ [q], by omega, by go_num, HUP'.out, HORD'.out, HO'.out, HB'.out⟩
                case measure => simp [intOf]; omega
        · have hql : q = l.length := by omega
          subst hql
          have HPN := Lib.hid (pick_eq_none HNR.out)
          have HORD' := Lib.hid (order_stuck HORD.out HPN.out)
          go_wp2
          go_roundw
          case rel => exact ⟨t + 1, out, by omega, by go_num, HUP.out, HORD'.out, HOWN.out, HB.out⟩
          case measure => simp [intOf]; omega
    · have htl : t = l.length := by omega
      subst htl
      have e : order l = out := by rw [HORD.out, Nat.sub_self]; rfl
      have HE := Lib.hid e
      clear e
      go_wp2
      go_ret
      rw [HE.out]
      exact ⟨⟨A9, c9, rfl, HI.out⟩, HB.out⟩

set_option maxHeartbeats 1000000 in
theorem sound_any (A : Option Addr) (cap : Nat) (l : List Opn) (w : World) (h : ORd w w.heap.size A l) (hn : l.length ≤ 1000) (hs : OSmall l) :
    Calls Try.prog 72 #[.slice A l.length cap] w fun e w' => e = .returned (.int .i64 (ordErr l)) ∧ Below w.heap.size w w' := by
  have H := Lib.hid h
  have HS := Lib.hid hs
  clear h hs
  go_enter Try.func72, Try.ntmps72
  go_wp2_with fail
  ((with_reducible refine (single_any A cap l _ H.out hn HS.out).mono ?_); rintro e w1 ⟨rfl, hb1⟩)
  have HR1 := Lib.hid ((H.out.below hb1).more hb1.size)
  have HB1 := Lib.hid hb1
  have hs1 := hb1.size
  clear hb1
  by_cases hz : singErr l = 0
  · have HZ := Lib.hid hz
    clear hz
    rw [HZ.out]
    go_wp2_with fail
    ((with_reducible refine (sorted_any A cap l _ HR1.out HS.out (sound_of HZ.out)).mono ?_); rintro e w2 ⟨⟨A2, c2, rfl, _⟩, hb2⟩)
    have HB2 := Lib.hid (HB1.out.trans (hb2.mono hs1))
    clear hb2
    by_cases ho : (order l).length = l.length
    · have HE := Lib.hid (ordErr_ok HZ.out ho)
      have hnl : decide ((order l).length < l.length) = false := by simp; omega
      clear ho
      go_wp2
      go_ret
      exact ⟨ret_int HE.out.symm, HB2.out⟩
    · have HE := Lib.hid (ordErr_cycle HZ.out ho)
      have hle := (topo_upto (l := l) l.length [] (Upto.nil l)).le
      have hlt : (order l).length < l.length := by unfold order at ho ⊢; omega
      have hnl : decide ((order l).length < l.length) = true := by simpa using hlt
      clear ho hle hlt
      go_wp2
      go_ret
      exact ⟨ret_int HE.out.symm, HB2.out⟩
  · have HE := Lib.hid (show ordErr l = singErr l from by unfold ordErr; rw [if_pos hz])
    have hne : (singErr l != 0) = true := by simpa using hz
    clear hz
    go_wp2
    go_ret
    exact ⟨ret_int HE.out.symm, HB1.out⟩

set_option maxHeartbeats 1000000 in
theorem refOrder_any (A : Option Addr) (cap : Nat) (l : List Opn) (w : World) (h : ORd w w.heap.size A l) (hn : l.length ≤ 1000) (hs : OSmall l) :
    Calls Try.prog 56 #[.slice A l.length cap] w fun e w' => OrdPost l e w' ∧ Below w.heap.size w w' := by
  have H := Lib.hid h
  have HS := Lib.hid hs
  clear h hs
  go_enter Try.func56, Try.ntmps56
  go_wp2_with fail
  ((with_reducible refine (sound_any A cap l _ H.out hn HS.out).mono ?_); rintro e w1 ⟨rfl, hb1⟩)
  have HR1 := Lib.hid ((H.out.below hb1).more hb1.size)
  have HB1 := Lib.hid hb1
  have hs1 := hb1.size
  clear hb1
  by_cases hz : ordErr l = 0
  · have HZ := Lib.hid hz
    clear hz
    rw [HZ.out]
    go_wp2_with fail
    ((with_reducible refine (sorted_any A cap l _ HR1.out HS.out (sound_of (ordErr_zero HZ.out).1)).mono ?_); rintro e w2 ⟨⟨A2, c2, rfl, hi⟩, hb2⟩)
    have HB2 := Lib.hid (HB1.out.trans (hb2.mono hs1))
    have HI := Lib.hid hi
    clear hb2 hi
    go_wp2
    go_ret2
    exact ⟨⟨A2, (order l).length, c2, by rw [HZ.out]; rfl, fun _ => ⟨rfl, HI.out⟩, fun h => absurd HZ.out h⟩, HB2.out⟩
  · have HNE := Lib.hid hz
    have hne : (ordErr l != 0) = true := by simpa using hz
    clear hz
    go_wp2
    go_ret2
    exact ⟨ordPost_bad rfl HNE.out, HB1.out⟩
end Go.Proofs.Ytelgkangojmhdaa
/- The bound of a line: plain functions; walks of Few, line.Bound and the reference's begin, bound, Bound. -/
namespace Go.Proofs.Ytelgkangojmhdaa
open Go.RowKit

def shortOp (o : Opn) : Bool := decide (o.name.size ≤ 50 ∧ o.after.length ≤ 20 ∧ o.uses.length ≤ 20)
def few (l : List Opn) (n : Nat) : Bool := decide (l.length ≤ n) && l.all shortOp
theorem few_small {l : List Opn} {n : Nat} (h : few l n = true) : l.length ≤ n ∧ OSmall l := by
  unfold few at h
  rw [Bool.and_eq_true, decide_eq_true_iff, List.all_eq_true] at h
  exact ⟨h.1, fun o ho => by have := h.2 o ho; unfold shortOp at this; simpa using this⟩
theorem few_long {l : List Opn} {n : Nat} (h : n < l.length) : few l n = false := by
  unfold few; rw [decide_eq_false (by omega)]; rfl
theorem few_bad {l : List Opn} {n k : Nat} {o : Opn} (h : l[k]? = some o) (hb : shortOp o = false) : few l n = false := by
  unfold few
  have : l.all shortOp = false := by rw [List.all_eq_false]; exact ⟨o, List.mem_of_getElem? h, by simp [hb]⟩
  rw [this]; simp
theorem all_take_succ {l : List Opn} {k : Nat} {p : Opn} {q : Opn → Bool} (h : l[k]? = some p) (h1 : (l.take k).all q = true) (h2 : q p = true) : (l.take (k + 1)).all q = true := by
  rw [List.take_add_one, h]; simp only [Option.toList, List.all_append, h1, Bool.true_and, List.all_cons, List.all_nil, Bool.and_true]; exact h2
theorem few_ok {l : List Opn} {n : Nat} (h : l.length ≤ n) (h1 : (l.take l.length).all shortOp = true) : few l n = true := by
  rw [List.take_length] at h1; unfold few; rw [h1, decide_eq_true h]; rfl
theorem short_no {o : Opn} (h : 50 < o.name.size ∨ 20 < o.after.length ∨ 20 < o.uses.length) : shortOp o = false := by
  unfold shortOp; rw [decide_eq_false]; omega
theorem short_yes {o : Opn} (h : o.name.size ≤ 50) (h1 : o.after.length ≤ 20) (h2 : o.uses.length ≤ 20) : shortOp o = true := by
  unfold shortOp; rw [decide_eq_true]; exact ⟨h, h1, h2⟩

def sumM (l : List Opn) : Int := (l.map Opn.mins).sum
def halfB (c : Int) (o : Opn) : Bool := decide (c < 2 * o.mins)
def half (l : List Opn) (c : Int) : Nat := (l.filter (halfB c)).length
def overB (c : Int) (o : Opn) : Bool := decide (c < o.mins)
def bndErr (l : List Opn) (c : Int) : Int :=
  if ordErr l ≠ 0 then ordErr l else if c < 1 ∨ 1000000 < c then 3 else if l.any (overB c) = true then 18 else 0
def bndMax (l : List Opn) (c : Int) : Int := max ((sumM l + c - 1) / c) (half l c)
def bndV (l : List Opn) (c : Int) : Int := if bndErr l c ≠ 0 then 0 else bndMax l c

theorem bndErr_ord {l : List Opn} {c : Int} (h : ordErr l ≠ 0) : bndErr l c = ordErr l := by unfold bndErr; rw [if_pos h]
theorem bndErr_range {l : List Opn} {c : Int} (h : ordErr l = 0) (hc : c < 1 ∨ 1000000 < c) : bndErr l c = 3 := by
  unfold bndErr; rw [if_neg (by simp [h]), if_pos hc]
theorem bndErr_over {l : List Opn} {c : Int} {k : Nat} {o : Opn} (h : ordErr l = 0) (h0 : 1 ≤ c) (h1 : c ≤ 1000000) (hk : l[k]? = some o) (ho : c < o.mins) : bndErr l c = 18 := by
  unfold bndErr; rw [if_neg (by simp [h]), if_neg (by omega), if_pos]
  rw [List.any_eq_true]; exact ⟨o, List.mem_of_getElem? hk, by unfold overB; simpa using ho⟩
theorem bndErr_ok {l : List Opn} {c : Int} (h : ordErr l = 0) (h0 : 1 ≤ c) (h1 : c ≤ 1000000) (ho : (l.take l.length).any (overB c) = false) : bndErr l c = 0 := by
  rw [List.take_length] at ho
  unfold bndErr; rw [if_neg (by simp [h]), if_neg (by omega), if_neg (by simp [ho])]
theorem bndErr_zero {l : List Opn} {c : Int} (h : bndErr l c = 0) : ordErr l = 0 ∧ 1 ≤ c ∧ c ≤ 1000000 ∧ ∀ o ∈ l, o.mins ≤ c := by
  unfold bndErr at h
  by_cases h1 : ordErr l ≠ 0
  · rw [if_pos h1] at h; exact absurd h h1
  · rw [if_neg h1] at h
    by_cases h2 : c < 1 ∨ 1000000 < c
    · rw [if_pos h2] at h; cases h
    · rw [if_neg h2] at h
      by_cases h3 : l.any (overB c) = true
      · rw [if_pos h3] at h; cases h
      · refine ⟨by simpa using h1, by omega, by omega, fun o ho => ?_⟩
        have h3' : l.any (overB c) = false := by simpa using h3
        rw [List.any_eq_false] at h3'
        have := h3' o ho
        unfold overB at this; simpa using this
theorem sumM_take {l : List Opn} {k : Nat} {o : Opn} (h : l[k]? = some o) : sumM (l.take (k + 1)) = sumM (l.take k) + o.mins := by
  unfold sumM; rw [List.take_add_one, h]; simp
theorem half_take {l : List Opn} {k : Nat} {o : Opn} (c : Int) (h : l[k]? = some o) : half (l.take (k + 1)) c = half (l.take k) c + (if halfB c o = true then 1 else 0) := by
  unfold half; rw [List.take_add_one, h]; simp only [Option.toList, List.filter_append, List.length_append]
  cases hh : halfB c o <;> simp [hh]
theorem half_le (l : List Opn) (c : Int) : half l c ≤ l.length := by unfold half; exact List.length_filter_le _ _
theorem sumM_bnd {l : List Opn} (h : ∀ o ∈ l, 1 ≤ o.mins ∧ o.mins ≤ 10000) : 0 ≤ sumM l ∧ sumM l ≤ 10000 * l.length := by
  induction l with
  | nil => exact ⟨by decide, by decide⟩
  | cons o l ih =>
    have h1 := h o (by simp)
    have h2 := ih fun x hx => h x (by simp [hx])
    have : sumM (o :: l) = o.mins + sumM l := by unfold sumM; simp
    rw [this, List.length_cons]; omega
theorem sumM_take_bnd {l : List Opn} (h : Sound l) (k : Nat) : 0 ≤ sumM (l.take k) ∧ sumM (l.take k) ≤ 160000 := by
  have := sumM_bnd (l := l.take k) fun o ho => h.mins o (List.mem_of_mem_take ho)
  have hl := h.len
  have : (l.take k).length ≤ 16 := by rw [List.length_take]; omega
  omega
theorem bndV_bad {l : List Opn} {c x : Int} (h : bndErr l c = x) (hx : x ≠ 0) : bndV l c = 0 := by unfold bndV; rw [if_pos (by rw [h]; exact hx)]
theorem bndV_ok {l : List Opn} {c : Int} (h : bndErr l c = 0) : bndV l c = bndMax l c := by unfold bndV; rw [if_neg (by simp [h])]
theorem max_l {q h : Int} {l : List Opn} {c : Int} (e : (sumM l + c - 1) / c = q) (e2 : (half l c : Int) = h) (hq : q < h) : bndMax l c = h := by
  unfold bndMax; rw [e, e2]; omega
theorem max_r {q h : Int} {l : List Opn} {c : Int} (e : (sumM l + c - 1) / c = q) (e2 : (half l c : Int) = h) (hq : h ≤ q) : bndMax l c = q := by
  unfold bndMax; rw [e, e2]; omega
/-- The pair that Bound returns. -/
def BndPost (l : List Opn) (c : Int) (e : Ending) : Prop := e = .returned (.tuple #[.int .i64 (bndV l c), .int .i64 (bndErr l c)])
theorem bndPost_bad {l : List Opn} {c x : Int} (h : bndErr l c = x) (hx : x ≠ 0) : BndPost l c (.returned (.tuple #[.int .i64 0, .int .i64 x])) := by
  unfold BndPost; rw [bndV_bad h hx, h]
theorem bndPost_ok {l : List Opn} {c v : Int} (h : bndErr l c = 0) (hv : bndMax l c = v) : BndPost l c (.returned (.tuple #[.int .i64 v, .int .i64 0])) := by
  unfold BndPost; rw [bndV_ok h, h, hv]


set_option maxRecDepth 100000 in
set_option maxHeartbeats 2000000 in
theorem few_any (A : Option Addr) (cap : Nat) (l : List Opn) (n : Nat) (w : World) (h : ORd w w.heap.size A l) (hn1 : n ≤ 1000) :
    Calls Try.prog 27 #[.slice A l.length cap, .int .i64 n] w fun e w' => e = .returned (.bool (few l n)) ∧ w = w' := by
  have H := Lib.hid h
  clear h
  by_cases hlong : n < l.length
  · have HE := Lib.hid (few_long hlong)
    go_enter Try.func27, Try.ntmps27
    go_wp2
    go_ret
    exact ⟨ret_bool HE.out.symm, rfl⟩
  · go_enter Try.func27, Try.ntmps27
    go_wp2_with fail
    go_loop [5] (fun j => ∃ k : Nat, k ≤ l.length ∧ j = .int .i64 k ∧ (l.take k).all shortOp = true) (fun j => l.length - (intOf j).toNat)
    case atStart => exact ⟨0, Nat.zero_le _, rfl, rfl⟩
    case round =>
      obtain ⟨k, hk, rfl, hu⟩ := hrel
      have HU := Lib.hid hu
      clear hu
      by_cases hlt : k < l.length
      · obtain ⟨b, off, o, rfl, hB, hd, hat⟩ := H.out.at_ (Below.refl _ _) hlt
        obtain ⟨c0, c1, c2, ⟨Aa, ca, c3, a1, a2⟩, ⟨Au, cu, c4, u1, u2⟩⟩ := hat
        have HD := Lib.hid hd
        clear hd a2 u2 c1 c2
        by_cases h1 : 50 < o.name.size
        · have HE := Lib.hid (few_bad (n := n) HD.out (short_no (.inl h1)))
          go_wp2
          go_ret
          exact ⟨ret_bool HE.out.symm, rfl⟩
        · by_cases h2 : 20 < o.after.length
          · have HE := Lib.hid (few_bad (n := n) HD.out (short_no (.inr (.inl h2))))
            go_wp2
            go_ret
            exact ⟨ret_bool HE.out.symm, rfl⟩
          · by_cases h3 : 20 < o.uses.length
            · have HE := Lib.hid (few_bad (n := n) HD.out (short_no (.inr (.inr h3))))
              go_wp2
              go_ret
              exact ⟨ret_bool HE.out.symm, rfl⟩
            · have HY := Lib.hid (all_take_succ HD.out HU.out (short_yes (by omega) (by omega) (by omega)))
              go_wp2
              go_round
              case rel => exact ⟨k + 1, by omega, by go_num, HY.out⟩
              case measure => simp [intOf]; omega
      · have hkl : k = l.length := by omega
        subst hkl
        have HE := Lib.hid (few_ok (n := n) (by omega) HU.out)
        go_wp2
        go_ret
        exact ⟨ret_bool HE.out.symm, rfl⟩

set_option maxRecDepth 100000 in
set_option maxHeartbeats 2000000 in
theorem bound_any (A : Option Addr) (cap : Nat) (l : List Opn) (c : Int) (w : World) (h : ORd w w.heap.size A l) (hn : l.length ≤ 1000) (hcap : l.length ≤ cap) (hs : OSmall l) :
    Calls Try.prog 32 #[.slice A l.length cap, .int .i64 c] w fun e w' => BndPost l c e ∧ Below w.heap.size w w' := by
  have H := Lib.hid h
  have HS := Lib.hid hs
  clear h hs
  go_enter Try.func32, Try.ntmps32
  go_wp2_with fail
  ((with_reducible refine (order_any A cap l _ H.out hn hcap HS.out).mono ?_); rintro e w1 ⟨⟨A1, n1, c1, rfl, hp1, hp2⟩, hb1⟩)
  have HB := Lib.hid hb1
  clear hp1 hp2 hb1
  by_cases hz : ordErr l = 0
  · have HZ := Lib.hid hz
    have HSD := Lib.hid (sound_of (ordErr_zero hz).1)
    have hl16 := (sound_of (ordErr_zero hz).1).len
    clear hz
    rw [HZ.out]
    by_cases hc : c < 1 ∨ 1000000 < c
    · have HE := Lib.hid (bndErr_range HZ.out hc)
      rcases hc with hc | hc <;> (go_wp2; go_ret2; exact ⟨bndPost_bad HE.out (by omega), HB.out⟩)
    · have hc0 : 1 ≤ c := by omega
      have hc1 : c ≤ 1000000 := by omega
      clear hc
      go_wp2_with fail
      go_loopw [8, 9, 11, 28] (fun s g _ j wr => ∃ k : Nat, k ≤ l.length ∧ j = .int .i64 k ∧ s = .int .i64 (sumM (l.take k)) ∧ g = .int .i64 (half (l.take k) c) ∧ (l.take k).any (overB c) = false ∧ Below w.heap.size w wr) (fun _ _ _ j _ => l.length - (intOf j).toNat)
      case atStart => exact ⟨0, Nat.zero_le _, rfl, rfl, rfl, rfl, HB.out⟩
      case round =>
        obtain ⟨k, hk, rfl, rfl, rfl, hu, hb⟩ := hrel
        have HU := Lib.hid hu
        have HB' := Lib.hid hb
        have hsz := hb.size
        clear hu hb
        have hs0 := (sumM_take_bnd HSD.out k).1
        have hs1 := (sumM_take_bnd HSD.out k).2
        have hh1 : half (l.take k) c ≤ 16 := by have := half_le (l.take k) c; rw [List.length_take] at this; omega
        by_cases hlt : k < l.length
        · obtain ⟨b, off, o, rfl, hB, hd, hat⟩ := H.out.at_ HB'.out hlt
          obtain ⟨c0, c1, c2, ⟨Aa, ca, c3, a1, a2⟩, ⟨Au, cu, c4, u1, u2⟩⟩ := hat
          have HD := Lib.hid hd
          have HST := Lib.hid (sumM_take hd)
          have HHT := Lib.hid (half_take c hd)
          have hm0 := (HSD.out.mins o (List.mem_of_getElem? hd)).1
          have hm1 := (HSD.out.mins o (List.mem_of_getElem? hd)).2
          clear hd a2 u2 a1 u1
          by_cases ho : c < o.mins
          · have HE := Lib.hid (bndErr_over HZ.out hc0 hc1 HD.out ho)
            go_wp2
            go_ret2
            exact ⟨bndPost_bad HE.out (by omega), HB'.out.alloc hsz _⟩
          · have HUS := Lib.hid (any_take_succ (q := overB c) HD.out HU.out (by unfold overB; simpa using ho))
            by_cases hh : c < 2 * o.mins
            · have HHE : Hid (half (l.take (k + 1)) c = half (l.take k) c + 1) := by
                show _ = _
                rw [HHT.out, if_pos (by unfold halfB; simpa using hh)]
              go_wp2
              go_roundw
              case rel => exact ⟨k + 1, by omega, by go_num, by rw [HST.out]; try go_num, by rw [HHE.out]; go_num, HUS.out, HB'.out.alloc hsz _⟩
              case measure => simp [intOf]; omega
            · have HHE : Hid (half (l.take (k + 1)) c = half (l.take k) c) := by
                show _ = _
                rw [HHT.out, if_neg (by unfold halfB; simpa using hh)]; rfl
              go_wp2
              go_roundw
              case rel => exact ⟨k + 1, by omega, by go_num, by rw [HST.out]; try go_num, by rw [HHE.out], HUS.out, HB'.out.alloc hsz _⟩
              case measure => simp [intOf]; omega
        · have hkl : k = l.length := by omega
          subst hkl
          have HE := Lib.hid (bndErr_ok HZ.out hc0 hc1 HU.out)
          have hne : c ≠ 0 := by omega
          rw [List.take_length] at hs0 hs1 hh1
          rw [List.take_length]
          go_wp2
          all_goals go_ret2
          · exact ⟨bndPost_ok HE.out (max_l rfl rfl (by assumption)), HB'.out⟩
          · exact ⟨bndPost_ok HE.out (max_r rfl rfl (by assumption)), HB'.out⟩
  · have HE := Lib.hid (bndErr_ord (c := c) hz)
    have HNE := Lib.hid hz
    have hne : (ordErr l != 0) = true := by simpa using hz
    clear hz
    go_wp2
    go_ret2
    exact ⟨bndPost_bad HE.out HNE.out, HB.out⟩

set_option maxRecDepth 100000 in
set_option maxHeartbeats 2000000 in
theorem begin_any (A : Option Addr) (cap : Nat) (l : List Opn) (c : Int) (w : World) (h : ORd w w.heap.size A l) (hn : l.length ≤ 1000) (hs : OSmall l) :
    Calls Try.prog 74 #[.slice A l.length cap, .int .i64 c] w fun e w' => e = .returned (.int .i64 (bndErr l c)) ∧ Below w.heap.size w w' := by
  have H := Lib.hid h
  have HS := Lib.hid hs
  clear h hs
  go_enter Try.func74, Try.ntmps74
  go_wp2_with fail
  ((with_reducible refine (refOrder_any A cap l _ H.out hn HS.out).mono ?_); rintro e w1 ⟨⟨A1, n1, c1, rfl, hp1, hp2⟩, hb1⟩)
  have HB := Lib.hid hb1
  clear hp1 hp2 hb1
  by_cases hz : ordErr l = 0
  · have HZ := Lib.hid hz
    have hl16 := (sound_of (ordErr_zero hz).1).len
    clear hz
    rw [HZ.out]
    by_cases hc : c < 1 ∨ 1000000 < c
    · have HE := Lib.hid (bndErr_range HZ.out hc)
      rcases hc with hc | hc <;> (go_wp2; go_ret; exact ⟨ret_int HE.out.symm, HB.out⟩)
    · have hc0 : 1 ≤ c := by omega
      have hc1 : c ≤ 1000000 := by omega
      clear hc
      go_wp2_with fail
      go_loop [7] (fun j => ∃ k : Nat, k ≤ l.length ∧ j = .int .i64 k ∧ (l.take k).any (overB c) = false) (fun j => l.length - (intOf j).toNat)
      case atStart => exact ⟨0, Nat.zero_le _, rfl, rfl⟩
      case round =>
        obtain ⟨k, hk, rfl, hu⟩ := hrel
        have HU := Lib.hid hu
        clear hu
        by_cases hlt : k < l.length
        · obtain ⟨b, off, o, rfl, hB, hd, hat⟩ := H.out.at_ HB.out hlt
          obtain ⟨c0, c1, c2, ⟨Aa, ca, c3, a1, a2⟩, ⟨Au, cu, c4, u1, u2⟩⟩ := hat
          have HD := Lib.hid hd
          clear hd a2 u2 a1 u1
          by_cases ho : c < o.mins
          · have HE := Lib.hid (bndErr_over HZ.out hc0 hc1 HD.out ho)
            go_wp2
            go_ret
            exact ⟨ret_int HE.out.symm, HB.out⟩
          · have HUS := Lib.hid (any_take_succ (q := overB c) HD.out HU.out (by unfold overB; simpa using ho))
            go_wp2
            go_round
            case rel => exact ⟨k + 1, by omega, by go_num, HUS.out⟩
            case measure => simp [intOf]; omega
        · have hkl : k = l.length := by omega
          subst hkl
          have HE := Lib.hid (bndErr_ok HZ.out hc0 hc1 HU.out)
          go_wp2
          go_ret
          exact ⟨ret_int HE.out.symm, HB.out⟩
  · have HE := Lib.hid (bndErr_ord (c := c) hz)
    have hne : (ordErr l != 0) = true := by simpa using hz
    clear hz
    go_wp2
    go_ret
    exact ⟨ret_int HE.out.symm, HB.out⟩

end Go.Proofs.Ytelgkangojmhdaa
