/- Plain laws of the check of an arrangement. -/
import Derived.Test.YtlbkfphepneflaaBal
namespace Go.Proofs.Ytlbkfphepneflaa

def flatFrom : Nat → List (List Int) → List (Nat × Int)
  | _, [] => []
  | k, q :: r => q.map (Prod.mk k) ++ flatFrom (k + 1) r
/-- The stations and their operations, one after the other. -/
def flat (ss : List (List Int)) : List (Nat × Int) := flatFrom 0 ss
def stp (n : Nat) (s : Int × List Int) (p : Nat × Int) : Int × List Int :=
  if s.1 ≠ 0 then s else if p.2 < 0 ∨ (n : Int) ≤ p.2 then (3, []) else if s.2.getD p.2.toNat 0 ≠ -1 then (7, []) else (0, s.2.set p.2.toNat p.1)
def puts (n : Nat) (L : List (Nat × Int)) : Int × List Int := L.foldl (stp n) (0, noAt n)
def sumS (l : List Opn) (q : List Int) : Int := (q.map fun i => mn l i.toNat).sum
def overS (l : List Opn) (c : Int) (q : List Int) : Bool := decide (c < sumS l q)
def badA (at_ : List Int) (i : Nat) (a : Int) : Bool := decide (at_.getD i 0 < at_.getD a.toNat 0)
def badO (l : List Opn) (at_ : List Int) (i : Nat) : Bool := (af l i).any (badA at_ i)
def chkErr (l : List Opn) (c : Int) (ss : List (List Int)) : Int :=
  if bndErr l c ≠ 0 then bndErr l c
  else if (puts l.length (flat ss)).1 ≠ 0 then (puts l.length (flat ss)).1
  else if hasB (puts l.length (flat ss)).2 (-1) = true then 20
  else if ss.any (overS l c) = true then 18
  else if (List.range l.length).any (badO l (puts l.length (flat ss)).2) = true then 21
  else 0

theorem flatFrom_append (k : Nat) (a b : List (List Int)) : flatFrom k (a ++ b) = flatFrom k a ++ flatFrom (k + a.length) b := by
  induction a generalizing k with
  | nil => rfl
  | cons x a ih => simp only [List.cons_append, flatFrom, ih, List.length_cons, List.append_assoc]; rw [show k + 1 + a.length = k + (a.length + 1) from by omega]
theorem flat_split {ss : List (List Int)} {k : Nat} {q : List Int} (h : ss[k]? = some q) : flat ss = flat (ss.take k) ++ (q.map (Prod.mk k) ++ flatFrom (k + 1) (ss.drop (k + 1))) := by
  have hk := (List.getElem?_eq_some_iff.1 h).1
  have e : ss = ss.take k ++ (q :: ss.drop (k + 1)) := by
    rw [show q = ss[k] from ((List.getElem?_eq_some_iff.1 h).2).symm, ← List.drop_eq_getElem_cons hk, List.take_append_drop]
  conv => lhs; rw [e]
  unfold flat
  rw [flatFrom_append, List.length_take, Nat.min_eq_left (by omega), Nat.zero_add]
  rfl
theorem flat_take {ss : List (List Int)} {k : Nat} {q : List Int} (h : ss[k]? = some q) : flat (ss.take (k + 1)) = flat (ss.take k) ++ q.map (Prod.mk k) := by
  have hk := (List.getElem?_eq_some_iff.1 h).1
  unfold flat
  rw [List.take_add_one, h, flatFrom_append, List.length_take, Nat.min_eq_left (by omega), Nat.zero_add]
  simp [flatFrom]
theorem puts_append (n : Nat) (L M : List (Nat × Int)) : puts n (L ++ M) = M.foldl (stp n) (puts n L) := by unfold puts; rw [List.foldl_append]
theorem stp_stop {n : Nat} {s : Int × List Int} (h : s.1 ≠ 0) (p : Nat × Int) : stp n s p = s := by unfold stp; rw [if_pos h]
theorem fold_stop {n : Nat} (M : List (Nat × Int)) : ∀ {s : Int × List Int}, s.1 ≠ 0 → M.foldl (stp n) s = s := by
  induction M with
  | nil => intro s _; rfl
  | cons p M ih => intro s h; rw [List.foldl_cons, stp_stop h, ih h]
/-- What has been put after k stations and j operations of the next. -/
def pre (ss : List (List Int)) (q : List Int) (k j : Nat) : List (Nat × Int) := flat (ss.take k) ++ (q.take j).map (Prod.mk k)
theorem pre_zero (ss : List (List Int)) (q : List Int) (k : Nat) : pre ss q k 0 = flat (ss.take k) := by unfold pre; simp
theorem pre_all {ss : List (List Int)} {k : Nat} {q : List Int} (h : ss[k]? = some q) : pre ss q k q.length = flat (ss.take (k + 1)) := by unfold pre; rw [List.take_length, flat_take h]
theorem pre_next {q : List Int} {j : Nat} {x : Int} (ss : List (List Int)) (k : Nat) (h : q[j]? = some x) : pre ss q k (j + 1) = pre ss q k j ++ [(k, x)] := by
  unfold pre; rw [take_snoc' h, List.map_append, List.append_assoc]; rfl
theorem puts_next {q : List Int} {j n : Nat} {x : Int} {at_ : List Int} (ss : List (List Int)) (k : Nat) (h : q[j]? = some x) (hp : puts n (pre ss q k j) = (0, at_)) (h0 : 0 ≤ x) (h1 : x < n) (h2 : at_.getD x.toNat 0 = -1) :
    puts n (pre ss q k (j + 1)) = (0, at_.set x.toNat k) := by
  rw [pre_next ss k h, puts_append, hp]
  simp only [List.foldl_cons, List.foldl_nil]
  unfold stp
  rw [if_neg (by simp), if_neg (by simp; omega), if_neg (by simp; exact h2)]
theorem puts_bad {q : List Int} {j n k : Nat} {x : Int} {at_ : List Int} {ss : List (List Int)} (hk : ss[k]? = some q) (h : q[j]? = some x) (hp : puts n (pre ss q k j) = (0, at_)) (h0 : x < 0 ∨ (n : Int) ≤ x) :
    puts n (flat ss) = (3, []) := by
  have e : flat ss = pre ss q k (j + 1) ++ ((q.drop (j + 1)).map (Prod.mk k) ++ flatFrom (k + 1) (ss.drop (k + 1))) := by
    rw [flat_split hk]
    unfold pre
    rw [List.append_assoc, ← List.append_assoc (List.map (Prod.mk k) (List.take (j + 1) q)), ← List.map_append, List.take_append_drop]
  rw [e, puts_append, pre_next ss k h, puts_append, hp]
  have : stp n (0, at_) (k, x) = (3, []) := by unfold stp; rw [if_neg (by simp), if_pos h0]
  simp only [List.foldl_cons, List.foldl_nil, this]
  exact fold_stop _ (by simp)
theorem puts_twice {q : List Int} {j n k : Nat} {x : Int} {at_ : List Int} {ss : List (List Int)} (hk : ss[k]? = some q) (h : q[j]? = some x) (hp : puts n (pre ss q k j) = (0, at_)) (h0 : 0 ≤ x) (h1 : x < n) (h2 : at_.getD x.toNat 0 ≠ -1) :
    puts n (flat ss) = (7, []) := by
  have e : flat ss = pre ss q k (j + 1) ++ ((q.drop (j + 1)).map (Prod.mk k) ++ flatFrom (k + 1) (ss.drop (k + 1))) := by
    rw [flat_split hk]
    unfold pre
    rw [List.append_assoc, ← List.append_assoc (List.map (Prod.mk k) (List.take (j + 1) q)), ← List.map_append, List.take_append_drop]
  rw [e, puts_append, pre_next ss k h, puts_append, hp]
  have : stp n (0, at_) (k, x) = (7, []) := by unfold stp; rw [if_neg (by simp), if_neg (by simp; omega), if_pos h2]
  simp only [List.foldl_cons, List.foldl_nil, this]
  exact fold_stop _ (by simp)
/-- What a list of stations without an error of its own has put. -/
theorem puts_ok {n : Nat} : ∀ (M L : List (Nat × Int)) (at_ : List Int), puts n (L ++ M) = (0, at_) → ∃ at0, puts n L = (0, at0) := by
  intro M
  induction M with
  | nil => intro L at_ h; rw [List.append_nil] at h; exact ⟨at_, h⟩
  | cons p M ih =>
    intro L at_ h
    obtain ⟨at1, h1⟩ := ih (L ++ [p]) at_ (by rw [List.append_assoc]; exact h)
    rw [puts_append] at h1
    simp only [List.foldl_cons, List.foldl_nil] at h1
    by_cases e : (puts n L).1 = 0
    · exact ⟨(puts n L).2, by rw [← e]⟩
    · rw [stp_stop e] at h1; rw [h1] at e; exact absurd rfl e
theorem stp_ok {n : Nat} {a b : List Int} {p : Nat × Int} (h : stp n (0, a) p = (0, b)) : 0 ≤ p.2 ∧ p.2 < n ∧ a.getD p.2.toNat 0 = -1 ∧ b = a.set p.2.toNat p.1 := by
  unfold stp at h
  rw [if_neg (by simp)] at h
  by_cases h1 : p.2 < 0 ∨ (n : Int) ≤ p.2
  · rw [if_pos h1] at h; cases h
  · rw [if_neg h1] at h
    by_cases h2 : a.getD p.2.toNat 0 ≠ -1
    · rw [if_pos h2] at h; cases h
    · rw [if_neg h2] at h
      cases h
      exact ⟨by omega, by omega, by simpa using h2, rfl⟩
theorem snoc_ind {α : Type} {P : List α → Prop} (h0 : P []) (h1 : ∀ L x, P L → P (L ++ [x])) : ∀ L, P L := by
  intro L
  have : ∀ n, ∀ L : List α, L.length = n → P L := by
    intro n
    induction n with
    | zero => intro L h; rw [List.length_eq_zero_iff.1 h]; exact h0
    | succ n ih =>
      intro L h
      have hne : L ≠ [] := by intro e; rw [e] at h; simp at h
      rw [← List.dropLast_concat_getLast hne]
      exact h1 _ _ (ih _ (by rw [List.length_dropLast]; omega))
  exact this _ L rfl
theorem puts_len {n : Nat} : ∀ (L : List (Nat × Int)) (at_ : List Int), puts n L = (0, at_) → at_.length = n ∧ ∀ p ∈ L, 0 ≤ p.2 ∧ p.2 < n := by
  refine snoc_ind ?_ ?_
  · intro at_ h; unfold puts at h; cases h; exact ⟨by unfold noAt; simp, fun _ h => (by cases h)⟩
  · intro L p ih at_ h
    obtain ⟨at0, h0⟩ := puts_ok [p] L at_ h
    rw [puts_append, h0] at h
    obtain ⟨h1, h2, _, rfl⟩ := stp_ok h
    obtain ⟨g1, g2⟩ := ih at0 h0
    refine ⟨by rw [List.length_set]; exact g1, fun x hx => ?_⟩
    rcases List.mem_append.1 hx with hx | hx
    · exact g2 x hx
    · simp at hx; subst hx; exact ⟨h1, h2⟩
theorem mem_flatFrom {ss : List (List Int)} : ∀ {k s : Nat} {x : Int}, (s, x) ∈ flatFrom k ss ↔ ∃ i q, ss[i]? = some q ∧ s = k + i ∧ x ∈ q := by
  induction ss with
  | nil => intro k s x; simp [flatFrom]
  | cons q0 ss ih =>
    intro k s x
    simp only [flatFrom, List.mem_append, List.mem_map, Prod.mk.injEq, ih]
    constructor
    · rintro (⟨a, h1, rfl, rfl⟩ | ⟨i, q, h1, h2, h3⟩)
      · exact ⟨0, q0, rfl, by omega, h1⟩
      · exact ⟨i + 1, q, by simpa using h1, by omega, h3⟩
    · rintro ⟨i, q, h1, h2, h3⟩
      cases i with
      | zero => simp at h1; subst h1; exact .inl ⟨x, h3, by omega, rfl⟩
      | succ i => exact .inr ⟨i, q, by simpa using h1, by omega, h3⟩
theorem mem_flat {ss : List (List Int)} {s : Nat} {x : Int} : (s, x) ∈ flat ss ↔ ∃ q, ss[s]? = some q ∧ x ∈ q := by
  unfold flat
  rw [mem_flatFrom]
  constructor
  · rintro ⟨i, q, h1, h2, h3⟩; rw [Nat.zero_add] at h2; subst h2; exact ⟨q, h1, h3⟩
  · rintro ⟨q, h1, h3⟩; exact ⟨s, q, h1, by omega, h3⟩

section
variable {l : List Opn} {c : Int} {ss : List (List Int)}
theorem chk_bnd (h : bndErr l c ≠ 0) : chkErr l c ss = bndErr l c := by unfold chkErr; rw [if_pos h]
theorem chk_put {x : Int} {y : List Int} (h : bndErr l c = 0) (hp : puts l.length (flat ss) = (x, y)) (hx : x ≠ 0) : chkErr l c ss = x := by
  unfold chkErr; rw [if_neg (by simp [h]), hp, if_pos hx]
theorem chk_gap {y : List Int} (h : bndErr l c = 0) (hp : puts l.length (flat ss) = (0, y)) (hg : hasB y (-1) = true) : chkErr l c ss = 20 := by
  unfold chkErr; rw [if_neg (by simp [h]), hp, if_neg (by simp), if_pos hg]
theorem chk_over {y : List Int} (h : bndErr l c = 0) (hp : puts l.length (flat ss) = (0, y)) (hg : hasB y (-1) = false) (ho : ss.any (overS l c) = true) : chkErr l c ss = 18 := by
  unfold chkErr; rw [if_neg (by simp [h]), hp, if_neg (by simp), if_neg (by simp [hg]), if_pos ho]
theorem chk_order {y : List Int} (h : bndErr l c = 0) (hp : puts l.length (flat ss) = (0, y)) (hg : hasB y (-1) = false) (ho : ss.any (overS l c) = false) (hb : (List.range l.length).any (badO l y) = true) : chkErr l c ss = 21 := by
  unfold chkErr; rw [if_neg (by simp [h]), hp, if_neg (by simp), if_neg (by simp [hg]), if_neg (by simp [ho]), if_pos hb]
theorem chk_ok {y : List Int} (h : bndErr l c = 0) (hp : puts l.length (flat ss) = (0, y)) (hg : hasB y (-1) = false) (ho : ss.any (overS l c) = false) (hb : (List.range l.length).any (badO l y) = false) : chkErr l c ss = 0 := by
  unfold chkErr; rw [if_neg (by simp [h]), hp, if_neg (by simp), if_neg (by simp [hg]), if_neg (by simp [ho]), if_neg (by simp [hb])]
theorem chk_zero (h : chkErr l c ss = 0) : bndErr l c = 0 ∧ ∃ y, puts l.length (flat ss) = (0, y) ∧ hasB y (-1) = false ∧ ss.any (overS l c) = false ∧ (List.range l.length).any (badO l y) = false := by
  unfold chkErr at h
  by_cases h1 : bndErr l c ≠ 0
  · rw [if_pos h1] at h; exact absurd h h1
  · rw [if_neg h1] at h
    by_cases h2 : (puts l.length (flat ss)).1 ≠ 0
    · rw [if_pos h2] at h; exact absurd h h2
    · rw [if_neg h2] at h
      by_cases h3 : hasB (puts l.length (flat ss)).2 (-1) = true
      · rw [if_pos h3] at h; cases h
      · rw [if_neg h3] at h
        by_cases h4 : ss.any (overS l c) = true
        · rw [if_pos h4] at h; cases h
        · rw [if_neg h4] at h
          by_cases h5 : (List.range l.length).any (badO l (puts l.length (flat ss)).2) = true
          · rw [if_pos h5] at h; cases h
          · have e : (puts l.length (flat ss)).1 = 0 := by simpa using h2
            exact ⟨by simpa using h1, (puts l.length (flat ss)).2, by rw [← e], by simpa using h3, by simpa using h4, by simpa using h5⟩
end
theorem any_snoc {α : Type} {q : List α} {k : Nat} {x : α} {p : α → Bool} (h : q[k]? = some x) (h1 : (q.take k).any p = false) (h2 : p x = false) : (q.take (k + 1)).any p = false := by
  rw [List.take_add_one, h]; simp only [Option.toList, List.any_append, h1, Bool.false_or, List.any_cons, List.any_nil, Bool.or_false]; exact h2
theorem any_hit {α : Type} {q : List α} {k : Nat} {x : α} {p : α → Bool} (h : q[k]? = some x) (h2 : p x = true) : q.any p = true := by
  rw [List.any_eq_true]; exact ⟨x, List.mem_of_getElem? h, h2⟩
theorem any_done {α : Type} {q : List α} {p : α → Bool} (h1 : (q.take q.length).any p = false) : q.any p = false := by rwa [List.take_length] at h1
theorem range_any_snoc {p : Nat → Bool} {k : Nat} (h1 : (List.range k).any p = false) (h2 : p k = false) : (List.range (k + 1)).any p = false := by
  rw [List.range_succ, List.any_append, h1]; simp [h2]
theorem range_any_hit {p : Nat → Bool} {k n : Nat} (hk : k < n) (h2 : p k = true) : (List.range n).any p = true := by
  rw [List.any_eq_true]; exact ⟨k, List.mem_range.2 hk, h2⟩
theorem sumS_snoc {l : List Opn} {q : List Int} {j : Nat} {x : Int} (h : q[j]? = some x) : sumS l (q.take (j + 1)) = sumS l (q.take j) + mn l x.toNat := by
  unfold sumS; rw [take_snoc' h]; simp
theorem sumS_bnd {l : List Opn} (hsd : Sound l) {q : List Int} (hq : ∀ x ∈ q, 0 ≤ x ∧ x < l.length) (hl : q.length ≤ 1000) (j : Nat) : 0 ≤ sumS l (q.take j) ∧ sumS l (q.take j) ≤ 10000000 := by
  have key : ∀ p : List Int, (∀ x ∈ p, 0 ≤ x ∧ x < l.length) → 0 ≤ sumS l p ∧ sumS l p ≤ 10000 * p.length := by
    intro p
    induction p with
    | nil => intro _; exact ⟨by simp [sumS], by simp [sumS]⟩
    | cons x p ih =>
      intro h
      have h1 := ih fun y hy => h y (by simp [hy])
      have h2 := h x (by simp)
      have h3 := hsd.mins _ (getD_mem (show x.toNat < l.length by omega))
      have e : sumS l (x :: p) = mn l x.toNat + sumS l p := by unfold sumS; simp
      rw [e, List.length_cons]
      unfold mn
      omega
  have h1 := key (q.take j) fun x hx => hq x (List.mem_of_mem_take hx)
  have h2 : (q.take j).length ≤ 1000 := by rw [List.length_take]; omega
  omega
/-- What the laws' guard gives of stations. -/
def SSmall (ss : List (List Int)) : Prop := ss.length ≤ 1000 ∧ ∀ q ∈ ss, q.length ≤ 1000
end Go.Proofs.Ytlbkfphepneflaa
