/- Plain laws of line balancing: the search over sets finds the least end. No program in sight. -/
import Derived.Test.YtlbkfphepneflaaOpPlain
namespace Go.Proofs.Ytlbkfphepneflaa

def mn (l : List Opn) (i : Nat) : Int := (l.getD i op0).mins
def af (l : List Opn) (i : Nat) : List Int := (l.getD i op0).after

def addSt (f c m s : Int) : Int := if s = -1 then (if (f / c + 1) * c < f + m then f / c + 1 else f / c) else s
def addV (f c m s : Int) : Int := max f (addSt f c m s * c) + m
def addOk (f c m s : Int) : Bool := decide (addV f c m s ≤ (addSt f c m s + 1) * c)

/-- What the bound has checked: the minutes fit, and there is an order. -/
structure LineOk (l : List Opn) (c : Int) : Prop where
  c1 : 1 ≤ c
  m1 : ∀ i, i < l.length → 1 ≤ mn l i ∧ mn l i ≤ c
  idx : ∀ i, i < l.length → ∀ a ∈ af l i, 0 ≤ a ∧ a.toNat < l.length
  pos : ∃ p : Nat → Nat, (∀ i, i < l.length → p i < l.length) ∧ (∀ i j, i < l.length → j < l.length → p i = p j → i = j) ∧ ∀ i, i < l.length → ∀ a ∈ af l i, p a.toNat < p i

/-! ## One operation more -/
theorem addSt_free (f c m : Int) : addSt f c m (-1) = if (f / c + 1) * c < f + m then f / c + 1 else f / c := by unfold addSt; rw [if_pos rfl]
theorem addSt_giv {f c m s : Int} (h : s ≠ -1) : addSt f c m s = s := by unfold addSt; rw [if_neg h]
theorem quo_le {f c : Int} (h : 1 ≤ c) : f / c * c ≤ f ∧ f < f / c * c + c := by
  have h1 := Int.ediv_mul_le f (b := c) (by omega)
  have h2 := Int.lt_ediv_add_one_mul_self f (b := c) (by omega)
  rw [Int.add_mul] at h2
  omega
theorem mul_le {a b c : Int} (h : a ≤ b) (hc : 1 ≤ c) : a * c ≤ b * c := Int.mul_le_mul_of_nonneg_right h (by omega)
theorem lt_of_mul {a b c : Int} (h : a * c < b * c) (hc : 1 ≤ c) : a < b := Int.lt_of_mul_lt_mul_right h (by omega)
theorem succ_mul' (a c : Int) : (a + 1) * c = a * c + c := by rw [Int.add_mul]; omega
/-- Free operations always fit. -/
theorem addFree {f c m : Int} (hc : 1 ≤ c) (hm : m ≤ c) : addOk f c m (-1) = true := by
  unfold addOk addV
  rw [addSt_free]
  have h := quo_le (f := f) hc
  have h1 := succ_mul' (f / c) c
  have h2 := succ_mul' (f / c + 1) c
  split <;> simp only [decide_eq_true_iff] <;> omega
theorem addFree_v {f c m : Int} (hc : 1 ≤ c) : addV f c m (-1) = if f / c * c + c < f + m then f / c * c + c + m else f + m := by
  unfold addV
  rw [addSt_free]
  have h := quo_le (f := f) hc
  have h1 := succ_mul' (f / c) c
  rw [h1]
  split <;> omega
theorem addMono {f g c m s : Int} (hc : 1 ≤ c) (hm : m ≤ c) (h : f ≤ g) (ho : addOk g c m s = true) : addOk f c m s = true ∧ addV f c m s ≤ addV g c m s := by
  by_cases hs : s = -1
  · subst hs
    refine ⟨addFree hc hm, ?_⟩
    rw [addFree_v hc, addFree_v hc]
    have hf := quo_le (f := f) hc
    have hg := quo_le (f := g) hc
    by_cases hq : f / c = g / c
    · rw [hq] at hf ⊢; split <;> split <;> omega
    · have hlt : f / c < g / c := by
        have := Int.ediv_le_ediv (c := c) (by omega) h
        omega
      have := mul_le (c := c) (show f / c + 1 ≤ g / c by omega) hc
      rw [succ_mul'] at this
      split <;> split <;> omega
  · unfold addOk addV at *
    rw [addSt_giv hs] at ho
    rw [addSt_giv hs, addSt_giv hs]
    simp only [decide_eq_true_iff] at *
    omega

/-! ## The search over sets -/
def readyS (l : List Opn) (s i : Nat) : Bool := !s.testBit i && (af l i).all fun a => s.testBit a.toNat
def nxt (s i : Nat) : Nat := s ||| 2 ^ i
def stepI (l : List Opn) (c : Int) (at_ : List Int) (lim : Int) (s : Nat) (e : Int) (i : Nat) (E : List Int) : List Int :=
  if readyS l s i = true ∧ addOk e c (mn l i) (at_.getD i 0) = true ∧ addV e c (mn l i) (at_.getD i 0) ≤ lim ∧ (E.getD (nxt s i) 0 < 0 ∨ addV e c (mn l i) (at_.getD i 0) < E.getD (nxt s i) 0)
  then E.set (nxt s i) (addV e c (mn l i) (at_.getD i 0)) else E
def inn (l : List Opn) (c : Int) (at_ : List Int) (lim : Int) (s : Nat) (E : List Int) : Nat → List Int
  | 0 => E
  | i + 1 => stepI l c at_ lim s (E.getD s 0) i (inn l c at_ lim s E i)
def stepS (l : List Opn) (c : Int) (at_ : List Int) (lim : Int) (s : Nat) (E : List Int) : List Int :=
  if E.getD s 0 < 0 then E else inn l c at_ lim s E l.length
def dp (l : List Opn) (c : Int) (at_ : List Int) (lim : Int) : Nat → List Int
  | 0 => (List.replicate (2 ^ l.length) (-1)).set 0 0
  | s + 1 => stepS l c at_ lim s (dp l c at_ lim s)
def leastE (l : List Opn) (c : Int) (at_ : List Int) (lim : Int) : Int := (dp l c at_ lim (2 ^ l.length)).getD (2 ^ l.length - 1) 0

/-- A way: the operations in the order in which they are done, the last one first; the set and its end. -/
def run (l : List Opn) (c : Int) (at_ : List Int) (lim : Int) : List Nat → Option (Nat × Int)
  | [] => some (0, 0)
  | i :: p => match run l c at_ lim p with
    | none => none
    | some (s, e) => if i < l.length ∧ readyS l s i = true ∧ addOk e c (mn l i) (at_.getD i 0) = true ∧ addV e c (mn l i) (at_.getD i 0) ≤ lim
      then some (nxt s i, addV e c (mn l i) (at_.getD i 0)) else none
theorem run_cons {l : List Opn} {c : Int} {at_ : List Int} {lim : Int} {i : Nat} {p : List Nat} {t : Nat} {v : Int} (h : run l c at_ lim (i :: p) = some (t, v)) :
    ∃ s e, run l c at_ lim p = some (s, e) ∧ i < l.length ∧ readyS l s i = true ∧ addOk e c (mn l i) (at_.getD i 0) = true ∧ v ≤ lim ∧ t = nxt s i ∧ v = addV e c (mn l i) (at_.getD i 0) := by
  unfold run at h
  cases hr : run l c at_ lim p with
  | none => rw [hr] at h; cases h
  | some x =>
    obtain ⟨s, e⟩ := x
    rw [hr] at h
    simp only at h
    split at h
    · rename_i hc
      simp only [Option.some.injEq, Prod.mk.injEq] at h
      obtain ⟨rfl, rfl⟩ := h
      exact ⟨s, e, rfl, hc.1, hc.2.1, hc.2.2.1, hc.2.2.2, rfl, rfl⟩
    · cases h
theorem run_step {l : List Opn} {c : Int} {at_ : List Int} {lim : Int} {i : Nat} {p : List Nat} {s : Nat} {e : Int} (h : run l c at_ lim p = some (s, e)) (h1 : i < l.length) (h2 : readyS l s i = true)
    (h3 : addOk e c (mn l i) (at_.getD i 0) = true) (h4 : addV e c (mn l i) (at_.getD i 0) ≤ lim) : run l c at_ lim (i :: p) = some (nxt s i, addV e c (mn l i) (at_.getD i 0)) := by
  unfold run; rw [h]; simp only; rw [if_pos ⟨h1, h2, h3, h4⟩]

theorem nxt_lt {s i n : Nat} (hs : s < 2 ^ n) (hi : i < n) : nxt s i < 2 ^ n := by
  unfold nxt
  exact Nat.or_lt_two_pow hs (Nat.pow_lt_pow_right (by decide) hi)
theorem nxt_bit (s i j : Nat) : (nxt s i).testBit j = (s.testBit j || decide (i = j)) := by
  unfold nxt; rw [Nat.testBit_or, Nat.testBit_two_pow]
theorem nxt_gt {s i : Nat} (h : s.testBit i = false) : s < nxt s i := by
  have h1 : s ≤ nxt s i := by unfold nxt; exact Nat.left_le_or
  have h2 : s ≠ nxt s i := by
    intro e
    have := nxt_bit s i i
    rw [← e, h] at this; simp at this
  omega

theorem stepI_len (l : List Opn) (c : Int) (at_ : List Int) (lim : Int) (s : Nat) (e : Int) (i : Nat) (E : List Int) : (stepI l c at_ lim s e i E).length = E.length := by
  unfold stepI; split
  · rw [List.length_set]
  · rfl
theorem inn_len (l : List Opn) (c : Int) (at_ : List Int) (lim : Int) (s : Nat) (E : List Int) (k : Nat) : (inn l c at_ lim s E k).length = E.length := by
  induction k with
  | zero => rfl
  | succ k ih => unfold inn; rw [stepI_len, ih]
theorem dp_len (l : List Opn) (c : Int) (at_ : List Int) (lim : Int) (k : Nat) : (dp l c at_ lim k).length = 2 ^ l.length := by
  induction k with
  | zero => unfold dp; rw [List.length_set, List.length_replicate]
  | succ k ih => unfold dp stepS; split
                 · exact ih
                 · rw [inn_len, ih]
theorem getD_set (E : List Int) (i t : Nat) (v : Int) (hi : i < E.length) : (E.set i v).getD t 0 = if t = i then v else E.getD t 0 := by
  rw [List.getD_eq_getElem?_getD, List.getElem?_set, List.getD_eq_getElem?_getD]
  by_cases h : i = t
  · subst h; rw [if_pos rfl, if_pos hi, if_pos rfl]; rfl
  · rw [if_neg h, if_neg (fun e => h e.symm)]

/-- E' is at least as good as E, and the same up to s. -/
def Better (s : Nat) (E E' : List Int) : Prop := (∀ t, t ≤ s → E'.getD t 0 = E.getD t 0) ∧ ∀ t, 0 ≤ E.getD t 0 → 0 ≤ E'.getD t 0 ∧ E'.getD t 0 ≤ E.getD t 0
theorem Better.refl (s : Nat) (E : List Int) : Better s E E := ⟨fun _ _ => rfl, fun _ h => ⟨h, Int.le_refl _⟩⟩
theorem Better.trans {s : Nat} {E F G : List Int} (h : Better s E F) (h' : Better s F G) : Better s E G :=
  ⟨fun t ht => (h'.1 t ht).trans (h.1 t ht), fun t ht => ⟨(h'.2 t (h.2 t ht).1).1, Int.le_trans (h'.2 t (h.2 t ht).1).2 (h.2 t ht).2⟩⟩
/-- Every end in E is that of a way. -/
def Sure (l : List Opn) (c : Int) (at_ : List Int) (lim : Int) (E : List Int) : Prop := ∀ t, t < 2 ^ l.length → 0 ≤ E.getD t 0 → ∃ p, run l c at_ lim p = some (t, E.getD t 0)
/-- The steps from set s to each operation up to k have been taken. -/
def Taken (l : List Opn) (c : Int) (at_ : List Int) (lim : Int) (s : Nat) (E : List Int) (k : Nat) : Prop :=
  0 ≤ E.getD s 0 → ∀ i, i < k → readyS l s i = true → addOk (E.getD s 0) c (mn l i) (at_.getD i 0) = true → addV (E.getD s 0) c (mn l i) (at_.getD i 0) ≤ lim →
    0 ≤ E.getD (nxt s i) 0 ∧ E.getD (nxt s i) 0 ≤ addV (E.getD s 0) c (mn l i) (at_.getD i 0)
theorem Taken.better {l : List Opn} {c : Int} {at_ : List Int} {lim : Int} {s t k : Nat} {E F : List Int} (h : Taken l c at_ lim s E k) (hb : Better t E F) (hs : s ≤ t) : Taken l c at_ lim s F k := by
  unfold Taken
  rw [hb.1 s hs]
  intro h0 i hi h1 h2 h3
  obtain ⟨a, b⟩ := h h0 i hi h1 h2 h3
  exact ⟨(hb.2 _ a).1, Int.le_trans (hb.2 _ a).2 b⟩
theorem addV_nonneg {f c m s : Int} (h : 0 ≤ f) (hm : 1 ≤ m) : 0 ≤ addV f c m s := by unfold addV; omega
theorem ready_bit {l : List Opn} {s i : Nat} (h : readyS l s i = true) : s.testBit i = false := by unfold readyS at h; simp at h; exact h.1

theorem stepI_law {l : List Opn} {c : Int} {at_ : List Int} {lim : Int} (hl : LineOk l c) {s i : Nat} {e : Int} {E : List Int} (hE : E.length = 2 ^ l.length) (hs : s < 2 ^ l.length) (hi : i < l.length)
    (he : E.getD s 0 = e) (h0 : 0 ≤ e) (hS : Sure l c at_ lim E) (hT : Taken l c at_ lim s E i) :
    Better s E (stepI l c at_ lim s e i E) ∧ Sure l c at_ lim (stepI l c at_ lim s e i E) ∧ Taken l c at_ lim s (stepI l c at_ lim s e i E) (i + 1) := by
  have hn := nxt_lt hs hi
  have hm := hl.m1 i hi
  have hv := addV_nonneg (c := c) (s := at_.getD i 0) h0 hm.1
  have hb : Better s E (stepI l c at_ lim s e i E) ∧ Sure l c at_ lim (stepI l c at_ lim s e i E) := by
    unfold stepI
    split
    · rename_i hc
      obtain ⟨h1, h2, h3, h4⟩ := hc
      have hg := nxt_gt (ready_bit h1)
      constructor
      · constructor
        · intro t ht; rw [getD_set _ _ _ _ (by omega), if_neg (by omega)]
        · intro t ht
          rw [getD_set _ _ _ _ (by omega)]
          split
          · rename_i e; subst e; omega
          · exact ⟨ht, Int.le_refl _⟩
      · intro t ht h5
        rw [getD_set _ _ _ _ (by omega)] at h5 ⊢
        split at h5
        · rename_i e'; subst e'
          rw [if_pos rfl]
          obtain ⟨p, hp⟩ := hS s hs (by omega)
          rw [he] at hp
          exact ⟨i :: p, run_step hp hi h1 h2 h3⟩
        · rename_i e'; rw [if_neg e']; exact hS t ht h5
    · exact ⟨Better.refl _ _, hS⟩
  refine ⟨hb.1, hb.2, ?_⟩
  have hT' := hT.better hb.1 (Nat.le_refl s)
  intro hz j hj h1 h2 h3
  by_cases hji : j < i
  · exact hT' hz j hji h1 h2 h3
  · have : j = i := by omega
    subst this
    rw [hb.1.1 s (Nat.le_refl _), he] at h2 h3 ⊢
    unfold stepI
    split
    · rw [getD_set _ _ _ _ (by omega), if_pos rfl]; omega
    · rename_i hc
      have : ¬ (E.getD (nxt s j) 0 < 0 ∨ addV e c (mn l j) (at_.getD j 0) < E.getD (nxt s j) 0) := fun h4 => hc ⟨h1, h2, h3, h4⟩
      omega
theorem inn_law {l : List Opn} {c : Int} {at_ : List Int} {lim : Int} (hl : LineOk l c) {s : Nat} {E : List Int} (hE : E.length = 2 ^ l.length) (hs : s < 2 ^ l.length)
    (h0 : 0 ≤ E.getD s 0) (hS : Sure l c at_ lim E) : ∀ k, k ≤ l.length →
    Better s E (inn l c at_ lim s E k) ∧ Sure l c at_ lim (inn l c at_ lim s E k) ∧ Taken l c at_ lim s (inn l c at_ lim s E k) k := by
  intro k
  induction k with
  | zero => intro _; exact ⟨Better.refl _ _, hS, fun _ i hi => absurd hi (by omega)⟩
  | succ k ih =>
    intro hk
    obtain ⟨h1, h2, h3⟩ := ih (by omega)
    obtain ⟨g1, g2, g3⟩ := stepI_law hl (by rw [inn_len]; exact hE) hs (show k < l.length by omega) (h1.1 s (Nat.le_refl _)) h0 h2 h3
    unfold inn
    exact ⟨h1.trans g1, g2, g3⟩
theorem dp_law {l : List Opn} {c : Int} {at_ : List Int} {lim : Int} (hl : LineOk l c) : ∀ k, k ≤ 2 ^ l.length →
    Sure l c at_ lim (dp l c at_ lim k) ∧ (dp l c at_ lim k).getD 0 0 = 0 ∧ ∀ s, s < k → Taken l c at_ lim s (dp l c at_ lim k) l.length := by
  intro k
  induction k with
  | zero =>
    intro _
    have hp : 0 < 2 ^ l.length := Nat.two_pow_pos _
    have hg : ∀ t, t < 2 ^ l.length → (dp l c at_ lim 0).getD t 0 = if t = 0 then 0 else -1 := by
      intro t ht
      unfold dp
      rw [getD_set _ _ _ _ (by rw [List.length_replicate]; exact hp)]
      split
      · rfl
      · rw [List.getD_eq_getElem?_getD, List.getElem?_replicate, if_pos ht]; rfl
    refine ⟨?_, by rw [hg 0 hp]; rfl, fun s hs => absurd hs (by omega)⟩
    intro t ht h0
    rw [hg t ht] at h0 ⊢
    by_cases e : t = 0
    · subst e; exact ⟨[], rfl⟩
    · rw [if_neg e] at h0; omega
  | succ k ih =>
    intro hk
    obtain ⟨h1, h2, h3⟩ := ih (by omega)
    have hlen := dp_len l c at_ lim k
    unfold dp stepS
    split
    · rename_i hneg
      refine ⟨h1, h2, fun s hs => ?_⟩
      by_cases e : s < k
      · exact h3 s e
      · have : s = k := by omega
        subst this
        intro h0; omega
    · rename_i hneg
      obtain ⟨g1, g2, g3⟩ := inn_law hl hlen (show k < 2 ^ l.length by omega) (by omega) h1 l.length (Nat.le_refl _)
      refine ⟨g2, ?_, fun s hs => ?_⟩
      · rw [g1.1 0 (Nat.zero_le _)]; exact h2
      · by_cases e : s < k
        · exact (h3 s e).better g1 (by omega)
        · have : s = k := by omega
          subst this
          exact g3
theorem run_lt {l : List Opn} {c : Int} {at_ : List Int} {lim : Int} : ∀ {p : List Nat} {t : Nat} {v : Int}, run l c at_ lim p = some (t, v) → t < 2 ^ l.length := by
  intro p
  induction p with
  | nil => intro t v h; simp [run] at h; rw [← h.1]; exact Nat.two_pow_pos _
  | cons i p ih =>
    intro t v h
    obtain ⟨s, e, hr, hi, _, _, _, rfl, _⟩ := run_cons h
    exact nxt_lt (ih hr) hi
/-- No way ends earlier than the search says. -/
theorem dp_least {l : List Opn} {c : Int} {at_ : List Int} {lim : Int} (hl : LineOk l c) : ∀ (p : List Nat) (t : Nat) (v : Int), run l c at_ lim p = some (t, v) →
    0 ≤ (dp l c at_ lim (2 ^ l.length)).getD t 0 ∧ (dp l c at_ lim (2 ^ l.length)).getD t 0 ≤ v := by
  obtain ⟨_, h2, h3⟩ := dp_law (at_ := at_) (lim := lim) hl (2 ^ l.length) (Nat.le_refl _)
  intro p
  induction p with
  | nil => intro t v h; simp [run] at h; rw [← h.1, ← h.2, h2]; omega
  | cons i p ih =>
    intro t v h
    obtain ⟨s, e, hr, hi, h4, h5, h6, rfl, rfl⟩ := run_cons h
    obtain ⟨a, b⟩ := ih s e hr
    have hm := hl.m1 i hi
    obtain ⟨g1, g2⟩ := addMono hl.c1 hm.2 b h5
    obtain ⟨k1, k2⟩ := h3 s (run_lt hr) a i hi h4 g1 (by omega)
    exact ⟨k1, by omega⟩
theorem dp_sure {l : List Opn} {c : Int} {at_ : List Int} {lim : Int} (hl : LineOk l c) : Sure l c at_ lim (dp l c at_ lim (2 ^ l.length)) := (dp_law hl _ (Nat.le_refl _)).1
end Go.Proofs.Ytlbkfphepneflaa
