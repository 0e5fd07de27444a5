/- Several texts as one: LinePlain, Line1, LinePlain2, Row, Least, First, Grp, LinePlain3, Bal, ChkPlain. -/
import Derived.Test.YtelgkangojmhdaaG1
import Derived.Test.YtelgkangojmhdaaG2
import Derived.Laws.MakeOwn
import Derived.RegionTactic
import Derived.Deep.RegionLaw
import Derived.Deep.DeepCutAuto
import Derived.Deep.CutBlock
/- Plain laws of line balancing: the search over sets finds the least end. No program in sight. -/
namespace Go.Proofs.Ytelgkangojmhdaa

def mn (l : List Opn) (i : Nat) : Int := (l.getD i op0).mins
def af (l : List Opn) (i : Nat) : List Int := (l.getD i op0).after

def addSt (f c m s : Int) : Int := if s = -1 then (if (f / c + 1) * c < f + m then f / c + 1 else f / c) else s
def addV (f c m s : Int) : Int := max f (addSt f c m s * c) + m
def addOk (f c m s : Int) : Bool := decide (addV f c m s ≤ (addSt f c m s + 1) * c)

/-- What the bound has checked: the minutes fit, and there is an order. -/
structure LineOk (l : List Opn) (c : Int) : Prop where
  c1 : 1 ≤ c
  m1 : ∀ i, i < l.length → 1 ≤ mn l i ∧ mn l i ≤ c
  idx : ∀ i, i < l.length → ∀ a ∈ af l i, 0 ≤ a ∧ a.toNat < l.length
  pos : ∃ p : Nat → Nat, (∀ i, i < l.length → p i < l.length) ∧ (∀ i j, i < l.length → j < l.length → p i = p j → i = j) ∧ ∀ i, i < l.length → ∀ a ∈ af l i, p a.toNat < p i

/-! ## One operation more -/
theorem addSt_free (f c m : Int) : addSt f c m (-1) = if (f / c + 1) * c < f + m then f / c + 1 else f / c := by unfold addSt; rw [if_pos rfl]
theorem addSt_giv {f c m s : Int} (h : s ≠ -1) : addSt f c m s = s := by unfold addSt; rw [if_neg h]
theorem quo_le {f c : Int} (h : 1 ≤ c) : f / c * c ≤ f ∧ f < f / c * c + c := by
  have h1 := Int.ediv_mul_le f (b := c) (by omega)
  have h2 := Int.lt_ediv_add_one_mul_self f (b := c) (by omega)
  rw [Int.add_mul] at h2
  omega
theorem mul_le {a b c : Int} (h : a ≤ b) (hc : 1 ≤ c) : a * c ≤ b * c := Int.mul_le_mul_of_nonneg_right h (by omega)
theorem lt_of_mul {a b c : Int} (h : a * c < b * c) (hc : 1 ≤ c) : a < b := Int.lt_of_mul_lt_mul_right h (by omega)
theorem succ_mul' (a c : Int) : (a + 1) * c = a * c + c := by rw [Int.add_mul]; omega
/-- Free operations always fit. -/
theorem addFree {f c m : Int} (hc : 1 ≤ c) (hm : m ≤ c) : addOk f c m (-1) = true := by
  unfold addOk addV
  rw [addSt_free]
  have h := quo_le (f := f) hc
  have h1 := succ_mul' (f / c) c
  have h2 := succ_mul' (f / c + 1) c
  split <;> simp only [decide_eq_true_iff] <;> omega
theorem addFree_v {f c m : Int} (hc : 1 ≤ c) : addV f c m (-1) = if f / c * c + c < f + m then f / c * c + c + m else f + m := by
  unfold addV
  rw [addSt_free]
  have h := quo_le (f := f) hc
  have h1 := succ_mul' (f / c) c
  rw [h1]
  split <;> omega
theorem addMono {f g c m s : Int} (hc : 1 ≤ c) (hm : m ≤ c) (h : f ≤ g) (ho : addOk g c m s = true) : addOk f c m s = true ∧ addV f c m s ≤ addV g c m s := by
  by_cases hs : s = -1
  · subst hs
    refine ⟨addFree hc hm, ?_⟩
    rw [addFree_v hc, addFree_v hc]
    have hf := quo_le (f := f) hc
    have hg := quo_le (f := g) hc
    by_cases hq : f / c = g / c
    · rw [hq] at hf ⊢; split <;> split <;> omega
    · have hlt : f / c < g / c := by
        have := Int.ediv_le_ediv (c := c) (by omega) h
        omega
      have := mul_le (c := c) (show f / c + 1 ≤ g / c by omega) hc
      rw [succ_mul'] at this
      split <;> split <;> omega
  · unfold addOk addV at *
    rw [addSt_giv hs] at ho
    rw [addSt_giv hs, addSt_giv hs]
    simp only [decide_eq_true_iff] at *
    omega

/-! ## The search over sets -/
def readyS (l : List Opn) (s i : Nat) : Bool := !s.testBit i && (af l i).all fun a => s.testBit a.toNat
def nxt (s i : Nat) : Nat := s ||| 2 ^ i
def stepI (l : List Opn) (c : Int) (at_ : List Int) (lim : Int) (s : Nat) (e : Int) (i : Nat) (E : List Int) : List Int :=
  if readyS l s i = true ∧ addOk e c (mn l i) (at_.getD i 0) = true ∧ addV e c (mn l i) (at_.getD i 0) ≤ lim ∧ (E.getD (nxt s i) 0 < 0 ∨ addV e c (mn l i) (at_.getD i 0) < E.getD (nxt s i) 0)
  then E.set (nxt s i) (addV e c (mn l i) (at_.getD i 0)) else E
def inn (l : List Opn) (c : Int) (at_ : List Int) (lim : Int) (s : Nat) (E : List Int) : Nat → List Int
  | 0 => E
  | i + 1 => stepI l c at_ lim s (E.getD s 0) i (inn l c at_ lim s E i)
def stepS (l : List Opn) (c : Int) (at_ : List Int) (lim : Int) (s : Nat) (E : List Int) : List Int :=
  if E.getD s 0 < 0 then E else inn l c at_ lim s E l.length
def dp (l : List Opn) (c : Int) (at_ : List Int) (lim : Int) : Nat → List Int
  | 0 => (List.replicate (2 ^ l.length) (-1)).set 0 0
  | s + 1 => stepS l c at_ lim s (dp l c at_ lim s)
def leastE (l : List Opn) (c : Int) (at_ : List Int) (lim : Int) : Int := (dp l c at_ lim (2 ^ l.length)).getD (2 ^ l.length - 1) 0

/-- A way: the operations in the order in which they are done, the last one first; the set and its end. -/
def run (l : List Opn) (c : Int) (at_ : List Int) (lim : Int) : List Nat → Option (Nat × Int)
  | [] => some (0, 0)
  | i :: p => match run l c at_ lim p with
    | none => none
    | some (s, e) => if i < l.length ∧ readyS l s i = true ∧ addOk e c (mn l i) (at_.getD i 0) = true ∧ addV e c (mn l i) (at_.getD i 0) ≤ lim
      then some (nxt s i, addV e c (mn l i) (at_.getD i 0)) else none
theorem run_cons {l : List Opn} {c : Int} {at_ : List Int} {lim : Int} {i : Nat} {p : List Nat} {t : Nat} {v : Int} (h : run l c at_ lim (i :: p) = some (t, v)) :
    ∃ s e, run l c at_ lim p = some (s, e) ∧ i < l.length ∧ readyS l s i = true ∧ addOk e c (mn l i) (at_.getD i 0) = true ∧ v ≤ lim ∧ t = nxt s i ∧ v = addV e c (mn l i) (at_.getD i 0) := by
  unfold run at h
  cases hr : run l c at_ lim p with
  | none => rw [hr] at h; cases h
  | some x =>
    obtain ⟨s, e⟩ := x
    rw [hr] at h
    simp only at h
    split at h
    · rename_i hc
      simp only [Option.some.injEq, Prod.mk.injEq] at h
      obtain ⟨rfl, rfl⟩ := h
      exact ⟨s, e, rfl, hc.1, hc.2.1, hc.2.2.1, hc.2.2.2, rfl, rfl⟩
    · cases h
theorem run_step {l : List Opn} {c : Int} {at_ : List Int} {lim : Int} {i : Nat} {p : List Nat} {s : Nat} {e : Int} (h : run l c at_ lim p = some (s, e)) (h1 : i < l.length) (h2 : readyS l s i = true)
    (h3 : addOk e c (mn l i) (at_.getD i 0) = true) (h4 : addV e c (mn l i) (at_.getD i 0) ≤ lim) : run l c at_ lim (i :: p) = some (nxt s i, addV e c (mn l i) (at_.getD i 0)) := by
  unfold run; rw [h]; simp only; rw [if_pos ⟨h1, h2, h3, h4⟩]

theorem nxt_lt {s i n : Nat} (hs : s < 2 ^ n) (hi : i < n) : nxt s i < 2 ^ n := by
  unfold nxt
  exact Nat.or_lt_two_pow hs (Nat.pow_lt_pow_right (by decide) hi)
theorem nxt_bit (s i j : Nat) : (nxt s i).testBit j = (s.testBit j || decide (i = j)) := by
  unfold nxt; rw [Nat.testBit_or, Nat.testBit_two_pow]
theorem nxt_gt {s i : Nat} (h : s.testBit i = false) : s < nxt s i := by
  have h1 : s ≤ nxt s i := by unfold nxt; exact Nat.left_le_or
  have h2 : s ≠ nxt s i := by
    intro e
    have := nxt_bit s i i
    rw [← e, h] at this; simp at this
  omega

theorem stepI_len (l : List Opn) (c : Int) (at_ : List Int) (lim : Int) (s : Nat) (e : Int) (i : Nat) (E : List Int) : (stepI l c at_ lim s e i E).length = E.length := by
  unfold stepI; split
  · rw [List.length_set]
  · rfl
theorem inn_len (l : List Opn) (c : Int) (at_ : List Int) (lim : Int) (s : Nat) (E : List Int) (k : Nat) : (inn l c at_ lim s E k).length = E.length := by
  induction k with
  | zero => rfl
  | succ k ih => unfold inn; rw [stepI_len, ih]
theorem dp_len (l : List Opn) (c : Int) (at_ : List Int) (lim : Int) (k : Nat) : (dp l c at_ lim k).length = 2 ^ l.length := by
  induction k with
  | zero => unfold dp; rw [List.length_set, List.length_replicate]
  | succ k ih => unfold dp stepS; split
                 · exact ih
                 · rw [inn_len, ih]
theorem getD_set (E : List Int) (i t : Nat) (v : Int) (hi : i < E.length) : (E.set i v).getD t 0 = if t = i then v else E.getD t 0 := by
  rw [List.getD_eq_getElem?_getD, List.getElem?_set, List.getD_eq_getElem?_getD]
  by_cases h : i = t
  · subst h; rw [if_pos rfl, if_pos hi, if_pos rfl]; rfl
  · rw [if_neg h, if_neg (fun e => h e.symm)]

/-- E' is at least as good as E, and the same up to s. -/
def Better (s : Nat) (E E' : List Int) : Prop := (∀ t, t ≤ s → E'.getD t 0 = E.getD t 0) ∧ ∀ t, 0 ≤ E.getD t 0 → 0 ≤ E'.getD t 0 ∧ E'.getD t 0 ≤ E.getD t 0
theorem Better.refl (s : Nat) (E : List Int) : Better s E E := ⟨fun _ _ => rfl, fun _ h => ⟨h, Int.le_refl _⟩⟩
theorem Better.trans {s : Nat} {E F G : List Int} (h : Better s E F) (h' : Better s F G) : Better s E G :=
  ⟨fun t ht => (h'.1 t ht).trans (h.1 t ht), fun t ht => ⟨(h'.2 t (h.2 t ht).1).1, Int.le_trans (h'.2 t (h.2 t ht).1).2 (h.2 t ht).2⟩⟩
/-- Every end in E is that of a way. -/
def Sure (l : List Opn) (c : Int) (at_ : List Int) (lim : Int) (E : List Int) : Prop := ∀ t, t < 2 ^ l.length → 0 ≤ E.getD t 0 → ∃ p, run l c at_ lim p = some (t, E.getD t 0)
/-- The steps from set s to each operation up to k have been taken. -/
def Taken (l : List Opn) (c : Int) (at_ : List Int) (lim : Int) (s : Nat) (E : List Int) (k : Nat) : Prop :=
  0 ≤ E.getD s 0 → ∀ i, i < k → readyS l s i = true → addOk (E.getD s 0) c (mn l i) (at_.getD i 0) = true → addV (E.getD s 0) c (mn l i) (at_.getD i 0) ≤ lim →
    0 ≤ E.getD (nxt s i) 0 ∧ E.getD (nxt s i) 0 ≤ addV (E.getD s 0) c (mn l i) (at_.getD i 0)
theorem Taken.better {l : List Opn} {c : Int} {at_ : List Int} {lim : Int} {s t k : Nat} {E F : List Int} (h : Taken l c at_ lim s E k) (hb : Better t E F) (hs : s ≤ t) : Taken l c at_ lim s F k := by
  unfold Taken
  rw [hb.1 s hs]
  intro h0 i hi h1 h2 h3
  obtain ⟨a, b⟩ := h h0 i hi h1 h2 h3
  exact ⟨(hb.2 _ a).1, Int.le_trans (hb.2 _ a).2 b⟩
theorem addV_nonneg {f c m s : Int} (h : 0 ≤ f) (hm : 1 ≤ m) : 0 ≤ addV f c m s := by unfold addV; omega
theorem ready_bit {l : List Opn} {s i : Nat} (h : readyS l s i = true) : s.testBit i = false := by unfold readyS at h; simp at h; exact h.1

theorem stepI_law {l : List Opn} {c : Int} {at_ : List Int} {lim : Int} (hl : LineOk l c) {s i : Nat} {e : Int} {E : List Int} (hE : E.length = 2 ^ l.length) (hs : s < 2 ^ l.length) (hi : i < l.length)
    (he : E.getD s 0 = e) (h0 : 0 ≤ e) (hS : Sure l c at_ lim E) (hT : Taken l c at_ lim s E i) :
    Better s E (stepI l c at_ lim s e i E) ∧ Sure l c at_ lim (stepI l c at_ lim s e i E) ∧ Taken l c at_ lim s (stepI l c at_ lim s e i E) (i + 1) := by
  have hn := nxt_lt hs hi
  have hm := hl.m1 i hi
  have hv := addV_nonneg (c := c) (s := at_.getD i 0) h0 hm.1
  have hb : Better s E (stepI l c at_ lim s e i E) ∧ Sure l c at_ lim (stepI l c at_ lim s e i E) := by
    unfold stepI
    split
    · rename_i hc
      obtain ⟨h1, h2, h3, h4⟩ := hc
      have hg := nxt_gt (ready_bit h1)
      constructor
      · constructor
        · intro t ht; rw [getD_set _ _ _ _ (by omega), if_neg (by omega)]
        · intro t ht
          rw [getD_set _ _ _ _ (by omega)]
          split
          · rename_i e; subst e; omega
          · exact ⟨ht, Int.le_refl _⟩
      · intro t ht h5
        rw [getD_set _ _ _ _ (by omega)] at h5 ⊢
        split at h5
        · rename_i e'; subst e'
          rw [if_pos rfl]
          obtain ⟨p, hp⟩ := hS s hs (by omega)
          rw [he] at hp
          exact ⟨i :: p, run_step hp hi h1 h2 h3⟩
        · rename_i e'; rw [if_neg e']; exact hS t ht h5
    · exact ⟨Better.refl _ _, hS⟩
  refine ⟨hb.1, hb.2, ?_⟩
  have hT' := hT.better hb.1 (Nat.le_refl s)
  intro hz j hj h1 h2 h3
  by_cases hji : j < i
  · exact hT' hz j hji h1 h2 h3
  · have : j = i := by omega
    subst this
    rw [hb.1.1 s (Nat.le_refl _), he] at h2 h3 ⊢
    unfold stepI
    split
    · rw [getD_set _ _ _ _ (by omega), if_pos rfl]; omega
    · rename_i hc
      have : ¬ (E.getD (nxt s j) 0 < 0 ∨ addV e c (mn l j) (at_.getD j 0) < E.getD (nxt s j) 0) := fun h4 => hc ⟨h1, h2, h3, h4⟩
      omega
theorem inn_law {l : List Opn} {c : Int} {at_ : List Int} {lim : Int} (hl : LineOk l c) {s : Nat} {E : List Int} (hE : E.length = 2 ^ l.length) (hs : s < 2 ^ l.length)
    (h0 : 0 ≤ E.getD s 0) (hS : Sure l c at_ lim E) : ∀ k, k ≤ l.length →
    Better s E (inn l c at_ lim s E k) ∧ Sure l c at_ lim (inn l c at_ lim s E k) ∧ Taken l c at_ lim s (inn l c at_ lim s E k) k := by
  intro k
  induction k with
  | zero => intro _; exact ⟨Better.refl _ _, hS, fun _ i hi => absurd hi (by omega)⟩
  | succ k ih =>
    intro hk
    obtain ⟨h1, h2, h3⟩ := ih (by omega)
    obtain ⟨g1, g2, g3⟩ := stepI_law hl (by rw [inn_len]; exact hE) hs (show k < l.length by omega) (h1.1 s (Nat.le_refl _)) h0 h2 h3
    unfold inn
    exact ⟨h1.trans g1, g2, g3⟩
theorem dp_law {l : List Opn} {c : Int} {at_ : List Int} {lim : Int} (hl : LineOk l c) : ∀ k, k ≤ 2 ^ l.length →
    Sure l c at_ lim (dp l c at_ lim k) ∧ (dp l c at_ lim k).getD 0 0 = 0 ∧ ∀ s, s < k → Taken l c at_ lim s (dp l c at_ lim k) l.length := by
  intro k
  induction k with
  | zero =>
    intro _
    have hp : 0 < 2 ^ l.length := Nat.two_pow_pos _
    have hg : ∀ t, t < 2 ^ l.length → (dp l c at_ lim 0).getD t 0 = if t = 0 then 0 else -1 := by
      intro t ht
      unfold dp
      rw [getD_set _ _ _ _ (by rw [List.length_replicate]; exact hp)]
      split
      · rfl
      · rw [List.getD_eq_getElem?_getD, List.getElem?_replicate, if_pos ht]; rfl
    refine ⟨?_, by rw [hg 0 hp]; rfl, fun s hs => absurd hs (by omega)⟩
    intro t ht h0
    rw [hg t ht] at h0 ⊢
    by_cases e : t = 0
    · subst e; exact ⟨[], rfl⟩
    · rw [if_neg e] at h0; omega
  | succ k ih =>
    intro hk
    obtain ⟨h1, h2, h3⟩ := ih (by omega)
    have hlen := dp_len l c at_ lim k
    unfold dp stepS
    split
    · rename_i hneg
      refine ⟨h1, h2, fun s hs => ?_⟩
      by_cases e : s < k
      · exact h3 s e
      · have : s = k := by omega
        subst this
        intro h0; omega
    · rename_i hneg
      obtain ⟨g1, g2, g3⟩ := inn_law hl hlen (show k < 2 ^ l.length by omega) (by omega) h1 l.length (Nat.le_refl _)
      refine ⟨g2, ?_, fun s hs => ?_⟩
      · rw [g1.1 0 (Nat.zero_le _)]; exact h2
      · by_cases e : s < k
        · exact (h3 s e).better g1 (by omega)
        · have : s = k := by omega
          subst this
          exact g3
theorem run_lt {l : List Opn} {c : Int} {at_ : List Int} {lim : Int} : ∀ {p : List Nat} {t : Nat} {v : Int}, run l c at_ lim p = some (t, v) → t < 2 ^ l.length := by
  intro p
  induction p with
  | nil => intro t v h; simp [run] at h; rw [← h.1]; exact Nat.two_pow_pos _
  | cons i p ih =>
    intro t v h
    obtain ⟨s, e, hr, hi, _, _, _, rfl, _⟩ := run_cons h
    exact nxt_lt (ih hr) hi
/-- No way ends earlier than the search says. -/
theorem dp_least {l : List Opn} {c : Int} {at_ : List Int} {lim : Int} (hl : LineOk l c) : ∀ (p : List Nat) (t : Nat) (v : Int), run l c at_ lim p = some (t, v) →
    0 ≤ (dp l c at_ lim (2 ^ l.length)).getD t 0 ∧ (dp l c at_ lim (2 ^ l.length)).getD t 0 ≤ v := by
  obtain ⟨_, h2, h3⟩ := dp_law (at_ := at_) (lim := lim) hl (2 ^ l.length) (Nat.le_refl _)
  intro p
  induction p with
  | nil => intro t v h; simp [run] at h; rw [← h.1, ← h.2, h2]; omega
  | cons i p ih =>
    intro t v h
    obtain ⟨s, e, hr, hi, h4, h5, h6, rfl, rfl⟩ := run_cons h
    obtain ⟨a, b⟩ := ih s e hr
    have hm := hl.m1 i hi
    obtain ⟨g1, g2⟩ := addMono hl.c1 hm.2 b h5
    obtain ⟨k1, k2⟩ := h3 s (run_lt hr) a i hi h4 g1 (by omega)
    exact ⟨k1, by omega⟩
theorem dp_sure {l : List Opn} {c : Int} {at_ : List Int} {lim : Int} (hl : LineOk l c) : Sure l c at_ lim (dp l c at_ lim (2 ^ l.length)) := (dp_law hl _ (Nat.le_refl _)).1
end Go.Proofs.Ytelgkangojmhdaa
/- line.add: its plain function and its walk; words as sets. -/
namespace Go.Proofs.Ytelgkangojmhdaa
open Go.RowKit

theorem quo_bnd {f c : Int} (h0 : 0 ≤ f) (h1 : f ≤ 1000000000) (h2 : 1 ≤ c) : 0 ≤ f / c ∧ f / c ≤ 1000000000 ∧ 0 ≤ f / c * c ∧ f / c * c ≤ f ∧ (f / c + 1) * c = f / c * c + c ∧ (f / c + 1 + 1) * c = f / c * c + c + c := by
  have q0 : 0 ≤ f / c := Int.ediv_nonneg h0 (by omega)
  have q1 : f / c * c ≤ f := Int.ediv_mul_le f (by omega)
  have q2 : f / c ≤ f := Int.ediv_le_self c h0
  exact ⟨q0, by omega, Int.mul_nonneg q0 (by omega), q1, by rw [Int.add_mul]; omega, by rw [Int.add_mul, Int.add_mul]; omega⟩
theorem mul_bnd {s c : Int} (h0 : 0 ≤ s) (h1 : s ≤ 1000) (h2 : 1 ≤ c) (h3 : c ≤ 1000000) : 0 ≤ s * c ∧ s * c ≤ 1000000000 ∧ (s + 1) * c = s * c + c := by
  refine ⟨Int.mul_nonneg h0 (by omega), ?_, by rw [Int.add_mul]; omega⟩
  have := Int.mul_le_mul h1 h3 (by omega) (by omega)
  omega
theorem addSt_up {f c m : Int} (h : (f / c + 1) * c < f + m) : addSt f c m (-1) = f / c + 1 := by unfold addSt; rw [if_pos rfl, if_pos h]
theorem addSt_in {f c m : Int} (h : ¬ (f / c + 1) * c < f + m) : addSt f c m (-1) = f / c := by unfold addSt; rw [if_pos rfl, if_neg h]
theorem addSt_given {f c m s : Int} (h : s ≠ -1) : addSt f c m s = s := by unfold addSt; rw [if_neg h]
def AddPost (f c m s : Int) (e : Ending) : Prop := e = .returned (.tuple #[.int .i64 (addV f c m s), .bool (addOk f c m s)])
theorem addPost_of {f c m s v : Int} {b : Bool} (h : addV f c m s = v) (hb : addOk f c m s = b) : AddPost f c m s (.returned (.tuple #[.int .i64 v, .bool b])) := by
  subst h; subst hb; rfl

end Go.Proofs.Ytelgkangojmhdaa
/- Plain laws of line balancing: ways and valid arrangements. No program in sight. -/
namespace Go.Proofs.Ytelgkangojmhdaa

/-- The minutes at station k of the operations in a list. -/
def load (l : List Opn) (st : Nat → Int) (k : Int) : List Nat → Int
  | [] => 0
  | i :: p => (if st i = k then mn l i else 0) + load l st k p
structure Valid (l : List Opn) (c K : Int) (st : Nat → Int) : Prop where
  rng : ∀ i, i < l.length → 0 ≤ st i ∧ st i < K
  ord : ∀ i, i < l.length → ∀ a ∈ af l i, st a.toNat ≤ st i
  fit : ∀ k, load l st k (List.range l.length) ≤ c
/-- The arrangement has the stations that are given. -/
def Agrees (l : List Opn) (at_ : List Int) (st : Nat → Int) : Prop := ∀ i, i < l.length → at_.getD i 0 = -1 ∨ st i = at_.getD i 0

theorem load_perm {l : List Opn} {st : Nat → Int} {k : Int} {p q : List Nat} (h : p.Perm q) : load l st k p = load l st k q := by
  induction h with
  | nil => rfl
  | cons x _ ih => unfold load; rw [ih]
  | swap x y p => simp only [load]; omega
  | trans _ _ h1 h2 => rw [h1, h2]
theorem load_append (l : List Opn) (st : Nat → Int) (k : Int) (p q : List Nat) : load l st k (p ++ q) = load l st k p + load l st k q := by
  induction p with
  | nil => simp [load]
  | cons x p ih => simp only [List.cons_append, load, ih]; omega
theorem load_nonneg {l : List Opn} {c : Int} (hl : LineOk l c) (st : Nat → Int) (k : Int) : ∀ p : List Nat, (∀ i ∈ p, i < l.length) → 0 ≤ load l st k p := by
  intro p
  induction p with
  | nil => intro _; simp [load]
  | cons x p ih =>
    intro h
    have := ih fun i hi => h i (by simp [hi])
    have hx := hl.m1 x (h x (by simp))
    unfold load; split <;> omega
theorem load_other {l : List Opn} {st st' : Nat → Int} {k : Int} : ∀ p : List Nat, (∀ i ∈ p, st' i = st i) → load l st' k p = load l st k p := by
  intro p
  induction p with
  | nil => intro _; rfl
  | cons x p ih =>
    intro h
    unfold load
    rw [ih fun i hi => h i (by simp [hi]), h x (by simp)]

/-! ## The set of a way -/
theorem run_set {l : List Opn} {c : Int} {at_ : List Int} {lim : Int} : ∀ {p : List Nat} {t : Nat} {v : Int}, run l c at_ lim p = some (t, v) →
    p.Nodup ∧ (∀ i ∈ p, i < l.length) ∧ ∀ i, t.testBit i = true ↔ i ∈ p := by
  intro p
  induction p with
  | nil => intro t v h; simp [run] at h; rw [← h.1]; exact ⟨List.nodup_nil, fun _ h => (by cases h), fun i => by simp⟩
  | cons x p ih =>
    intro t v h
    obtain ⟨s, e, hr, hi, h4, _, _, rfl, _⟩ := run_cons h
    obtain ⟨a, b, d⟩ := ih hr
    have hx : x ∉ p := fun hm => by have := (d x).2 hm; rw [ready_bit h4] at this; cases this
    refine ⟨List.nodup_cons.2 ⟨hx, a⟩, ?_, ?_⟩
    · intro i hm
      rcases List.mem_cons.1 hm with rfl | hm
      · exact hi
      · exact b i hm
    · intro i
      rw [nxt_bit, Bool.or_eq_true, d i, decide_eq_true_iff, List.mem_cons]
      exact ⟨fun h => h.elim .inr fun e => .inl e.symm, fun h => h.elim (fun e => .inr e.symm) .inl⟩
theorem all_bit (n i : Nat) : (2 ^ n - 1).testBit i = decide (i < n) := Nat.testBit_two_pow_sub_one n i
theorem run_all {l : List Opn} {c : Int} {at_ : List Int} {lim : Int} {p : List Nat} {v : Int} (h : run l c at_ lim p = some (2 ^ l.length - 1, v)) : p.Perm (List.range l.length) := by
  obtain ⟨a, b, d⟩ := run_set h
  rw [List.perm_ext_iff_of_nodup a List.nodup_range]
  intro i
  rw [← d i, all_bit, decide_eq_true_iff, List.mem_range]
theorem ready_of {l : List Opn} {s i : Nat} (h1 : s.testBit i = false) (h2 : ∀ a ∈ af l i, s.testBit a.toNat = true) : readyS l s i = true := by
  unfold readyS; rw [h1, List.all_eq_true.2 h2]; rfl
theorem ready_after {l : List Opn} {s i : Nat} (h : readyS l s i = true) : ∀ a ∈ af l i, s.testBit a.toNat = true := by
  unfold readyS at h; rw [Bool.and_eq_true, List.all_eq_true] at h; exact h.2

/-! ## From a way to an arrangement -/
theorem run_valid {l : List Opn} {c : Int} {at_ : List Int} {lim : Int} (hl : LineOk l c) (hat : ∀ i, i < l.length → at_.getD i 0 = -1 ∨ 0 ≤ at_.getD i 0) : ∀ (p : List Nat) (t : Nat) (e : Int), run l c at_ lim p = some (t, e) →
    0 ≤ e ∧ ∃ st : Nat → Int, (∀ i ∈ p, 0 ≤ st i ∧ st i * c < e ∧ (at_.getD i 0 = -1 ∨ st i = at_.getD i 0) ∧ ∀ a ∈ af l i, st a.toNat ≤ st i) ∧ ∀ k, 0 ≤ k → load l st k p ≤ c ∧ load l st k p ≤ max 0 (e - k * c) := by
  intro p
  induction p with
  | nil =>
    intro t e h
    simp [run] at h
    rw [← h.2]
    exact ⟨Int.le_refl _, fun _ => 0, fun _ h => (by cases h), fun k _ => by have := hl.c1; simp [load]; omega⟩
  | cons x p ih =>
    intro t v h
    obtain ⟨s, e, hr, hi, h4, h5, _, rfl, rfl⟩ := run_cons h
    obtain ⟨h0, st, g1, g2⟩ := ih s e hr
    obtain ⟨na, nb, nd⟩ := run_set hr
    have hm := hl.m1 x hi
    have hc := hl.c1
    have hx : x ∉ p := fun hm => by have := (nd x).2 hm; rw [ready_bit h4] at this; cases this
    -- the station of x
    have hq0 : 0 ≤ addSt e c (mn l x) (at_.getD x 0) ∧ (at_.getD x 0 = -1 ∨ addSt e c (mn l x) (at_.getD x 0) = at_.getD x 0) := by
      rcases hat x hi with e1 | e1
      · refine ⟨?_, .inl e1⟩
        rw [e1, addSt_free]
        have := Int.ediv_nonneg h0 (b := c) (by omega)
        split <;> omega
      · rw [addSt_giv (by omega)]; exact ⟨e1, .inr rfl⟩
    have hok : addV e c (mn l x) (at_.getD x 0) ≤ (addSt e c (mn l x) (at_.getD x 0) + 1) * c := by unfold addOk at h5; simpa using h5
    have hv : addV e c (mn l x) (at_.getD x 0) = max e (addSt e c (mn l x) (at_.getD x 0) * c) + mn l x := rfl
    generalize addSt e c (mn l x) (at_.getD x 0) = q at *
    generalize addV e c (mn l x) (at_.getD x 0) = v at *
    rw [succ_mul'] at hok
    refine ⟨by omega, fun i => if i = x then q else st i, ?_, ?_⟩
    · intro i hi'
      have hst : ∀ j ∈ p, (if j = x then q else st j) = st j := fun j hj => if_neg (show ¬ j = x from fun e => hx (e ▸ hj))
      rcases List.mem_cons.1 hi' with rfl | hi'
      · simp only [if_pos]
        refine ⟨hq0.1, by omega, hq0.2, fun a ha => ?_⟩
        have hap := (nd a.toNat).1 (ready_after h4 a ha)
        rw [hst _ hap]
        have := (g1 _ hap).2.1
        have : st a.toNat * c < (q + 1) * c := by rw [succ_mul']; omega
        have := lt_of_mul this hc
        omega
      · obtain ⟨k1, k2, k3, k4⟩ := g1 i hi'
        simp only [hst i hi']
        refine ⟨k1, by omega, k3, fun a ha => ?_⟩
        by_cases e1 : a.toNat = x
        · -- x in the After of an operation before it: it would be done
          exfalso
          have : ∀ {p : List Nat} {t : Nat} {v : Int}, run l c at_ lim p = some (t, v) → ∀ i ∈ p, ∀ a ∈ af l i, a.toNat ∈ p := by
            intro p
            induction p with
            | nil => intro t v _ i hi; cases hi
            | cons y p ih2 =>
              intro t v h i hi a ha
              obtain ⟨s', e', hr', _, h4', _, _, _, _⟩ := run_cons h
              rcases List.mem_cons.1 hi with rfl | hi
              · exact List.mem_cons_of_mem _ (((run_set hr').2.2 _).1 (ready_after h4' a ha))
              · exact List.mem_cons_of_mem _ (ih2 hr' i hi a ha)
          exact hx (e1 ▸ this hr i hi' a ha)
        · rw [if_neg e1]; exact k4 a ha
    · intro k hk
      obtain ⟨b1, b2⟩ := g2 k hk
      have hlo : load l (fun i => if i = x then q else st i) k p = load l st k p := load_other p fun i hi => if_neg (show ¬ i = x from fun e => hx (e ▸ hi))
      unfold load
      rw [hlo]
      simp only [if_pos]
      by_cases e1 : q = k
      · subst e1; rw [if_pos rfl]; omega
      · rw [if_neg e1]; omega
theorem valid_of_run {l : List Opn} {c K : Int} {at_ : List Int} {lim : Int} (hl : LineOk l c) (hat : ∀ i, i < l.length → at_.getD i 0 = -1 ∨ 0 ≤ at_.getD i 0) {p : List Nat} {e : Int}
    (h : run l c at_ lim p = some (2 ^ l.length - 1, e)) (he : e ≤ K * c) : ∃ st, Valid l c K st ∧ Agrees l at_ st := by
  obtain ⟨h0, st, g1, g2⟩ := run_valid hl hat p _ e h
  have hp := run_all h
  have hm : ∀ i, i < l.length → i ∈ p := fun i hi => hp.mem_iff.2 (List.mem_range.2 hi)
  refine ⟨st, ⟨fun i hi => ?_, fun i hi => (g1 i (hm i hi)).2.2.2, fun k => ?_⟩, fun i hi => (g1 i (hm i hi)).2.2.1⟩
  · obtain ⟨a, b, _, _⟩ := g1 i (hm i hi)
    exact ⟨a, lt_of_mul (show st i * c < K * c by omega) hl.c1⟩
  · rw [← load_perm hp]
    by_cases hk : 0 ≤ k
    · exact (g2 k hk).1
    · have : load l st k p = 0 := by
        have : ∀ q : List Nat, (∀ i ∈ q, 0 ≤ st i) → load l st k q = 0 := by
          intro q
          induction q with
          | nil => intro _; rfl
          | cons x q ih =>
            intro h
            unfold load
            rw [ih fun i hi => h i (by simp [hi]), if_neg (by have := h x (by simp); omega)]; rfl
        exact this p fun i hi => (g1 i hi).1
      rw [this]; have := hl.c1; omega

/-! ## From an arrangement to a way -/
def leq (st : Nat → Int) (pos : Nat → Nat) (i j : Nat) : Bool := decide (st i < st j ∨ (st i = st j ∧ pos i ≤ pos j))
theorem load_reverse (l : List Opn) (st : Nat → Int) (k : Int) (p : List Nat) : load l st k p.reverse = load l st k p := load_perm p.reverse_perm
theorem load_sub {l : List Opn} {c : Int} (hl : LineOk l c) (st : Nat → Int) (k : Int) (u v : List Nat) (hv : ∀ i ∈ v, i < l.length) : load l st k u ≤ load l st k (u ++ v) := by
  rw [load_append]; have := load_nonneg hl st k v hv; omega
theorem run_of_valid {l : List Opn} {c K : Int} {at_ : List Int} {lim : Int} {st : Nat → Int} (hl : LineOk l c) (hK : 0 ≤ K) (hv : Valid l c K st) (ha : Agrees l at_ st) (hlim : K * c ≤ lim) :
    ∃ p e, run l c at_ lim p = some (2 ^ l.length - 1, e) ∧ e ≤ K * c := by
  obtain ⟨pos, p1, p2, p3⟩ := hl.pos
  have hc := hl.c1
  obtain ⟨q, hq⟩ : ∃ q, q = (List.range l.length).mergeSort (leq st pos) := ⟨_, rfl⟩
  have hperm : q.Perm (List.range l.length) := by rw [hq]; exact List.mergeSort_perm _ _
  have hsort : q.Pairwise (fun i j => leq st pos i j = true) := by
    rw [hq]
    refine List.pairwise_mergeSort ?_ ?_ _
    · intro a b d; unfold leq; simp only [decide_eq_true_iff]; omega
    · intro a b; unfold leq; simp only [Bool.or_eq_true, decide_eq_true_iff]; omega
  have hmem : ∀ i, i ∈ q ↔ i < l.length := fun i => by rw [hperm.mem_iff, List.mem_range]
  have hnd : q.Nodup := hperm.nodup_iff.2 List.nodup_range
  have hlen : q.length = l.length := by rw [hperm.length_eq, List.length_range]
  have key : ∀ m, m ≤ l.length → ∃ s e, run l c at_ lim (q.take m).reverse = some (s, e) ∧ ∀ k, 0 ≤ k → (∀ j ∈ q.take m, st j ≤ k) → e ≤ k * c + load l st k (q.take m) := by
    intro m
    induction m with
    | zero => intro _; exact ⟨0, 0, rfl, fun k hk _ => by simp only [List.take_zero, load]; have := Int.mul_nonneg hk (show 0 ≤ c by omega); omega⟩
    | succ m ih =>
      intro hm
      obtain ⟨s, e, hr, hb⟩ := ih (by omega)
      have hml : m < q.length := by omega
      have hget : q[m]? = some q[m] := List.getElem?_eq_getElem hml
      have htake : q.take (m + 1) = q.take m ++ [q[m]] := by rw [List.take_add_one, hget]; rfl
      have hsplit : q = q.take m ++ (q[m] :: q.drop (m + 1)) := by rw [← List.drop_eq_getElem_cons hml, List.take_append_drop]
      generalize q[m] = x at *
      generalize q.take m = u at *
      generalize q.drop (m + 1) = r at *
      have hxl : x < l.length := (hmem x).1 (by rw [hsplit]; simp)
      rw [hsplit, List.pairwise_append] at hsort
      rw [hsplit, List.nodup_append] at hnd
      obtain ⟨_, hs2, hs3⟩ := hsort
      rw [List.pairwise_cons] at hs2
      obtain ⟨_, bs, ds⟩ := run_set hr
      have hule : ∀ j ∈ u, st j ≤ st x := by
        intro j hj
        have := hs3 j hj x (by simp)
        unfold leq at this; simp only [decide_eq_true_iff] at this; omega
      have hxu : x ∉ u := fun h => hnd.2.2 x h x (by simp) rfl
      have hbit : s.testBit x = false := by
        cases hh : s.testBit x with
        | false => rfl
        | true => exact absurd (List.mem_reverse.1 ((ds x).1 hh)) hxu
      have haft : ∀ a ∈ af l x, s.testBit a.toNat = true := by
        intro a ha'
        have hal := (hl.idx x hxl a ha').2
        have h1 := hv.ord x hxl a ha'
        have h2 := p3 x hxl a ha'
        rw [ds, List.mem_reverse]
        have hin : a.toNat ∈ u ++ x :: r := by rw [← hsplit]; exact (hmem _).2 hal
        rcases List.mem_append.1 hin with h | h
        · exact h
        · exfalso
          rcases List.mem_cons.1 h with h | h
          · rw [h] at h2; omega
          · have := hs2.1 _ h
            unfold leq at this; simp only [decide_eq_true_iff] at this; omega
      have hready := ready_of hbit haft
      have hst := hv.rng x hxl
      have hmx := hl.m1 x hxl
      have hT := hb (st x) hst.1 hule
      have hul : ∀ i ∈ u, i < l.length := fun i hi => (hmem i).1 (by rw [hsplit]; simp [hi])
      have hrl : ∀ i ∈ r, i < l.length := fun i hi => (hmem i).1 (by rw [hsplit]; simp [hi])
      have hl0 := load_nonneg hl st (st x) u hul
      have hload : load l st (st x) u + mn l x ≤ c := by
        have h1 := hv.fit (st x)
        rw [← load_perm hperm, hsplit] at h1
        have h2 : load l st (st x) (u ++ x :: r) = load l st (st x) u + (mn l x + load l st (st x) r) := by
          rw [load_append]; simp [load]
        have h3 := load_nonneg hl st (st x) r hrl
        omega
      have hadd : addOk e c (mn l x) (at_.getD x 0) = true ∧ addV e c (mn l x) (at_.getD x 0) ≤ st x * c + load l st (st x) u + mn l x := by
        rcases ha x hxl with h1 | h1
        · rw [h1]
          have h2 := addMono hc hmx.2 hT (addFree hc hmx.2)
          refine ⟨h2.1, Int.le_trans h2.2 ?_⟩
          rw [addFree_v hc]
          have hd : (st x * c + load l st (st x) u) / c = st x := by
            rw [Int.add_comm, Int.add_mul_ediv_right _ _ (by omega), Int.ediv_eq_zero_of_lt hl0 (by omega)]; omega
          rw [hd]
          split <;> omega
        · rw [← h1]
          unfold addOk addV
          rw [addSt_giv (by omega), succ_mul']
          simp only [decide_eq_true_iff]
          omega
      have hvK : addV e c (mn l x) (at_.getD x 0) ≤ K * c := by
        have := mul_le (c := c) (show st x + 1 ≤ K by omega) hc
        rw [succ_mul'] at this; omega
      refine ⟨_, _, by rw [htake, List.reverse_append]; exact run_step hr hxl hready hadd.1 (by omega), ?_⟩
      intro k hk hall
      rw [htake] at hall ⊢
      rw [load_append]
      simp only [load]
      have hxk := hall x (by simp)
      by_cases e1 : st x = k
      · subst e1; rw [if_pos rfl]; omega
      · rw [if_neg e1]
        have := mul_le (c := c) (show st x + 1 ≤ k by omega) hc
        rw [succ_mul'] at this
        have := load_nonneg hl st k u hul
        omega
  obtain ⟨s, e, hr, hb⟩ := key l.length (Nat.le_refl _)
  have htk : q.take l.length = q := by rw [← hlen, List.take_length]
  rw [htk] at hr hb
  obtain ⟨na, nb, nd⟩ := run_set hr
  have hs : s = 2 ^ l.length - 1 := by
    apply Nat.eq_of_testBit_eq
    intro i
    rw [all_bit, Bool.eq_iff_iff, nd i, List.mem_reverse, hmem, decide_eq_true_iff]
  subst hs
  refine ⟨_, _, hr, ?_⟩
  by_cases h0 : K = 0
  · -- no station: no operation
    have hz : l.length = 0 := by
      by_cases h : l.length = 0
      · exact h
      · have := hv.rng 0 (by omega); omega
    have hqn : q = [] := List.length_eq_zero_iff.1 (by omega)
    rw [hqn] at hb
    have := hb 0 (Int.le_refl _) (fun _ h => (by cases h))
    simp only [load] at this
    rw [h0]; omega
  · have := hb (K - 1) (by omega) (fun j hj => by have := hv.rng j ((hmem j).1 hj); omega)
    have hf := hv.fit (K - 1)
    rw [← load_perm hperm] at hf
    have h2 := succ_mul' (K - 1) c
    rw [show K - 1 + 1 = K by omega] at h2
    omega
end Go.Proofs.Ytelgkangojmhdaa
/- Rows of ints that a call makes and writes; words as sets of bits. -/
namespace Go.Proofs.Ytelgkangojmhdaa
open Go.RowKit

/-! ## Words as sets -/
theorem ofInt64 (a : Nat) (h : a < 2 ^ 64) : (BitVec.ofInt 64 (a : Int)).toNat = a := by
  rw [BitVec.toNat_ofInt]; simp; omega
theorem wrapI (n : Int) (h0 : -9223372036854775808 ≤ n) (h1 : n < 9223372036854775808) : IntKind.i64.wrap n = n := by
  simp [IntKind.wrap, IntKind.bits, IntKind.signed]
  split <;> omega
theorem i64_or (a b : Nat) (ha : a < 2 ^ 62) (hb : b < 2 ^ 62) : bits .or .i64 (a : Int) (b : Int) = ((a ||| b : Nat) : Int) := by
  show IntKind.i64.wrap ((BitVec.ofInt 64 (a : Int) ||| BitVec.ofInt 64 (b : Int)).toNat : Int) = _
  rw [BitVec.toNat_or, ofInt64 a (by omega), ofInt64 b (by omega)]
  have := Nat.or_lt_two_pow ha hb
  exact wrapI _ (by omega) (by omega)
theorem i64_and1 (a : Nat) (ha : a < 2 ^ 62) : bits .and .i64 (a : Int) 1 = ((a % 2 : Nat) : Int) := by
  show IntKind.i64.wrap ((BitVec.ofInt 64 (a : Int) &&& BitVec.ofInt 64 1).toNat : Int) = _
  have h1 : (BitVec.ofInt 64 1).toNat = 1 := by decide
  rw [BitVec.toNat_and, ofInt64 a (by omega), h1, Nat.and_one_is_mod]
  exact wrapI _ (by omega) (by omega)
theorem i64_andNot0 (a b : Nat) (ha : a < 2 ^ 62) (hb : b < 2 ^ 62) : bits .andNot .i64 (a : Int) (b : Int) = 0 ↔ ∀ i, a.testBit i = true → b.testBit i = true := by
  have e : bits .andNot .i64 (a : Int) (b : Int) = IntKind.i64.wrap ((BitVec.ofInt 64 (a : Int) &&& ~~~BitVec.ofInt 64 (b : Int)).toNat : Int) := rfl
  rw [e]
  have hx : (BitVec.ofInt 64 (a : Int) &&& ~~~BitVec.ofInt 64 (b : Int)).toNat = a &&& (2 ^ 64 - 1 - b) := by
    rw [BitVec.toNat_and, BitVec.toNat_not, ofInt64 a (by omega), ofInt64 b (by omega)]
  have hle : a &&& (2 ^ 64 - 1 - b) ≤ a := Nat.and_le_left
  rw [hx, wrapI _ (by omega) (by omega)]
  have hb' : ∀ i, (2 ^ 64 - 1 - b).testBit i = (decide (i < 64) && !b.testBit i) := by
    intro i
    have := Nat.testBit_two_pow_sub_succ (x := b) (n := 64) (by omega) i
    rw [show 2 ^ 64 - (b + 1) = 2 ^ 64 - 1 - b from by omega] at this
    exact this
  have hlt : ∀ i, a.testBit i = true → i < 64 := by
    intro i hi
    by_cases h : i < 64
    · exact h
    · have : a.testBit i = false := Nat.testBit_lt_two_pow (Nat.lt_of_lt_of_le (show a < 2 ^ 62 from ha) (Nat.pow_le_pow_right (by omega) (by omega)))
      rw [this] at hi; cases hi
  constructor
  · intro h i hi
    have h0 : a &&& (2 ^ 64 - 1 - b) = 0 := by omega
    have h1 : (a &&& (2 ^ 64 - 1 - b)).testBit i = false := by rw [h0]; simp
    rw [Nat.testBit_and, hb' i, hi, decide_eq_true (hlt i hi)] at h1
    simpa using h1
  · intro h
    have h0 : a &&& (2 ^ 64 - 1 - b) = 0 := by
      apply Nat.eq_of_testBit_eq
      intro i
      rw [Nat.testBit_and, hb' i]
      cases hi : a.testBit i with
      | false => simp
      | true => rw [h i hi]; simp
    omega
/-- The set of the operations that come before. -/
def orB : List Int → Nat
  | [] => 0
  | a :: q => orB q ||| 2 ^ a.toNat
theorem orB_snoc (q : List Int) (a : Int) : orB (q ++ [a]) = orB q ||| 2 ^ a.toNat := by
  induction q with
  | nil => simp [orB]
  | cons x q ih => simp only [List.cons_append, orB, ih]; rw [Nat.or_assoc, Nat.or_comm (2 ^ a.toNat), ← Nat.or_assoc]
theorem orB_bit (q : List Int) (i : Nat) : (orB q).testBit i = true ↔ ∃ a ∈ q, a.toNat = i := by
  induction q with
  | nil => simp [orB]
  | cons x q ih =>
    simp only [orB, Nat.testBit_or, Bool.or_eq_true, ih, Nat.testBit_two_pow, decide_eq_true_iff, List.mem_cons]
    constructor
    · rintro (⟨a, h1, h2⟩ | h)
      · exact ⟨a, .inr h1, h2⟩
      · exact ⟨x, .inl rfl, h⟩
    · rintro ⟨a, rfl | h1, h2⟩
      · exact .inr h2
      · exact .inl ⟨a, h1, h2⟩
theorem orB_lt {q : List Int} {n : Nat} (h : ∀ a ∈ q, a.toNat < n) : orB q < 2 ^ n := by
  induction q with
  | nil => exact Nat.two_pow_pos _
  | cons x q ih =>
    unfold orB
    exact Nat.or_lt_two_pow (ih fun a ha => h a (by simp [ha])) (Nat.pow_lt_pow_right (by decide) (h x (by simp)))
theorem pow16 {n : Nat} (h : n ≤ 16) : 2 ^ n ≤ 65536 := Nat.pow_le_pow_right (n := 2) (by decide) h

/-! ## Rows -/
def intCells (xs : List Int) : Array Value := (xs.map (Value.int .i64)).toArray
/-- Block b is just the ints xs. -/
def Row (w : World) (b : Nat) (xs : List Int) : Prop := w.heap[b]? = some (.cells (intCells xs) 3 (0, 0))
section
variable {w w' : World} {b : Nat} {xs : List Int}
theorem Row.lt (h : Row w b xs) : b < w.heap.size := by
  unfold Row at h
  by_cases hb : b < w.heap.size
  · exact hb
  · rw [Array.getElem?_eq_none (by omega)] at h; cases h
theorem intCells_at (xs : List Int) (i : Nat) : (intCells xs)[i]? = xs[i]?.map (Value.int .i64) := by
  unfold intCells; simp
theorem Row.cell (h : Row w b xs) {i : Nat} {x : Int} (hx : xs[i]? = some x) : w.cell? ⟨b, i, none⟩ = some (.int .i64 x) := by
  unfold Row at h
  have e : w.cell? ⟨b, i, none⟩ = (intCells xs)[i]? := by simp [World.cell?, h]
  rw [e, intCells_at, hx]; rfl
theorem Row.free (h : Row w b xs) (i : Nat) : w.frozen? ⟨b, i, none⟩ = false := by
  unfold Row at h; simp [World.frozen?, h]
theorem Row.new (w : World) (xs : List Int) : Row (w.alloc (.cells (intCells xs) 3)) w.heap.size xs := by
  unfold Row
  show (w.heap.push _)[w.heap.size]? = _
  simp
theorem Row.alloc (h : Row w b xs) (o : Obj) : Row (w.alloc o) b xs := (Below.heap_alloc w o b h.lt).trans h
theorem Row.drewN (h : Row w b xs) (n : Nat) : Row (w.drewN n) b xs := h
theorem Row.put (h : Row w b xs) (i : Nat) (x : Int) : Row (w.setCell ⟨b, i, none⟩ (.int .i64 x)) b (xs.set i x) := by
  unfold Row at h ⊢
  have : (intCells xs).setIfInBounds i (.int .i64 x) = intCells (xs.set i x) := by
    unfold intCells
    simp [List.map_set]
  simp [World.setCell, Array.getElem?_modify, h, ← this]
theorem Row.far (h : Row w b xs) {p : Addr} (hp : b ≠ p.block) (u : Value) : Row (w.setCell p u) b xs := (Below.heap_setCell w p u b hp).trans h
theorem Row.below {B : Nat} (h : Row w b xs) (hb : Below B w w') (hB : b < B) : Row w' b xs := (hb.block b hB).trans h
theorem Row.ird {B : Nat} (h : Row w b xs) (hB : b < B) : IRd w B (some ⟨b, 0, none⟩) xs := by
  intro _
  exact ⟨b, 0, rfl, hB, fun i x hx => by rw [Nat.zero_add]; exact h.cell hx⟩
end
theorem madeInts (n : Nat) : madeCells (Value.cells (.int .i64 0)) n = intCells (List.replicate n 0) := by
  have : Value.cells (.int .i64 0) = #[.int .i64 0] := rfl
  rw [this]
  unfold madeCells intCells
  apply Array.ext
  · simp
  · intro i h1 h2
    simp [Nat.mod_one]
theorem mkInts (n : Nat) (h : n ≤ 1000000) (w : World) :
    (Instr.makeSlice 33 (.int .i64 (n : Int)) (.int .i64 (n : Int))).run Try.prog w = .ok (.slice (some ⟨w.heap.size, 0, none⟩) n n) (w.alloc (.cells (intCells (List.replicate n 0)) 3)) := by
  obtain ⟨i0, hi0, hz0, hz1, hz2⟩ := info_parts infoInt
  have := run_make (P := Try.prog) w 33 3 i0 _ Try.underlying33 hi0 hz0 .i64 .i64 (n : Int) (n : Int) (by omega) (by omega) (by rw [hz2]; omega) (by omega)
  rw [this, hz1, Int.toNat_natCast, Nat.mul_one, madeInts]
end Go.Proofs.Ytelgkangojmhdaa
/- line.least: the walk. It returns what the plain search over sets finds. -/
namespace Go.Proofs.Ytelgkangojmhdaa
open Go.RowKit

def leastV (l : List Opn) (c : Int) (at_ : List Int) (lim : Int) : Int := if leastE l c at_ lim < 0 then 0 else leastE l c at_ lim
def leastB (l : List Opn) (c : Int) (at_ : List Int) (lim : Int) : Bool := decide (0 ≤ leastE l c at_ lim)
def LeastPost (l : List Opn) (c : Int) (at_ : List Int) (lim : Int) (e : Ending) : Prop := e = .returned (.tuple #[.int .i64 (leastV l c at_ lim), .bool (leastB l c at_ lim)])
theorem leastPost_no {l : List Opn} {c : Int} {at_ : List Int} {lim : Int} (h : leastE l c at_ lim < 0) : LeastPost l c at_ lim (.returned (.tuple #[.int .i64 0, .bool false])) := by
  unfold LeastPost leastV leastB; rw [if_pos h, decide_eq_false (by omega)]
theorem leastPost_yes {l : List Opn} {c : Int} {at_ : List Int} {lim x : Int} (h : 0 ≤ leastE l c at_ lim) (hx : leastE l c at_ lim = x) : LeastPost l c at_ lim (.returned (.tuple #[.int .i64 x, .bool true])) := by
  subst hx; unfold LeastPost leastV leastB; rw [if_neg (by omega), decide_eq_true h]
theorem wrapR {n : Int} (h0 : -9223372036854775808 ≤ n) (h1 : n < 9223372036854775808) : RowKit.wrap64 n = n := by unfold RowKit.wrap64; omega
theorem shl_at {i : Nat} (h : i ≤ 16) : RowKit.wrap64 (2 ^ i) = ((2 ^ i : Nat) : Int) := by
  have h1 := pow16 h
  have h2 : ((2 : Int) ^ i) = ((2 ^ i : Nat) : Int) := by simp
  have h3 : (0 : Int) ≤ ((2 ^ i : Nat) : Int) := Int.natCast_nonneg _
  have h4 := Int.ofNat_le.2 h1
  rw [h2]; exact wrapR (by omega) (by omega)

/-! ## What the search needs to know of its numbers -/
def Bd (lim : Int) (E : List Int) : Prop := ∀ x ∈ E, -1 ≤ x ∧ x ≤ lim
theorem getD_some {E : List Int} {t : Nat} (h : t < E.length) : E[t]? = some (E.getD t 0) := by
  rw [List.getD_eq_getElem?_getD, List.getElem?_eq_getElem h]; rfl
theorem Bd.at_ {lim : Int} {E : List Int} (h : Bd lim E) {t : Nat} (ht : t < E.length) : -1 ≤ E.getD t 0 ∧ E.getD t 0 ≤ lim := h _ (List.mem_of_getElem? (getD_some ht))
theorem Bd.set {lim : Int} {E : List Int} (h : Bd lim E) {x : Int} (h0 : -1 ≤ x) (h1 : x ≤ lim) (t : Nat) : Bd lim (E.set t x) := by
  intro y hy
  rcases List.mem_or_eq_of_mem_set hy with hy | rfl
  · exact h y hy
  · exact ⟨h0, h1⟩
theorem stepI_bd {l : List Opn} {c : Int} {at_ : List Int} {lim : Int} {s i : Nat} {e : Int} {E : List Int} (h : Bd lim E) (h0 : 0 ≤ e) (hm : 1 ≤ mn l i) : Bd lim (stepI l c at_ lim s e i E) := by
  unfold stepI
  split
  · rename_i hc; exact h.set (by have := addV_nonneg (c := c) (s := at_.getD i 0) h0 hm; omega) hc.2.2.1 _
  · exact h
theorem inn_bd {l : List Opn} {c : Int} {at_ : List Int} {lim : Int} {s : Nat} {E : List Int} (hsd : Sound l) (h : Bd lim E) (h0 : 0 ≤ E.getD s 0) : ∀ k, k ≤ l.length → Bd lim (inn l c at_ lim s E k) := by
  intro k
  induction k with
  | zero => intro _; exact h
  | succ k ih =>
    intro hk
    unfold inn
    exact stepI_bd (ih (by omega)) h0 (hsd.mins _ (getD_mem (show k < l.length by omega))).1
theorem dp_bd {l : List Opn} {c : Int} {at_ : List Int} {lim : Int} (hsd : Sound l) (hl : 0 ≤ lim) : ∀ k, Bd lim (dp l c at_ lim k) := by
  intro k
  induction k with
  | zero =>
    unfold dp
    refine Bd.set ?_ (by omega) (by omega) _
    intro x hx
    have := (List.mem_replicate.1 hx).2
    omega
  | succ k ih =>
    unfold dp stepS
    split
    · exact ih
    · exact inn_bd hsd ih (by omega) _ (Nat.le_refl _)
theorem dp_skip {l : List Opn} {c : Int} {at_ : List Int} {lim : Int} {s : Nat} (h : (dp l c at_ lim s).getD s 0 < 0) : dp l c at_ lim (s + 1) = dp l c at_ lim s := by
  conv => lhs; unfold dp stepS
  rw [if_pos h]
theorem dp_take {l : List Opn} {c : Int} {at_ : List Int} {lim : Int} {s : Nat} (h : 0 ≤ (dp l c at_ lim s).getD s 0) : dp l c at_ lim (s + 1) = inn l c at_ lim s (dp l c at_ lim s) l.length := by
  conv => lhs; unfold dp stepS
  rw [if_neg (by omega)]
theorem inn_skip {l : List Opn} {c : Int} {at_ : List Int} {lim : Int} {s i : Nat} {E : List Int}
    (h : readyS l s i = false ∨ addOk (E.getD s 0) c (mn l i) (at_.getD i 0) = false ∨ lim < addV (E.getD s 0) c (mn l i) (at_.getD i 0) ∨ (0 ≤ (inn l c at_ lim s E i).getD (nxt s i) 0 ∧ (inn l c at_ lim s E i).getD (nxt s i) 0 ≤ addV (E.getD s 0) c (mn l i) (at_.getD i 0))) :
    inn l c at_ lim s E (i + 1) = inn l c at_ lim s E i := by
  conv => lhs; unfold inn stepI
  rw [if_neg]
  rintro ⟨h1, h2, h3, h4⟩
  rcases h with h | h | h | h
  · rw [h1] at h; cases h
  · rw [h2] at h; cases h
  · omega
  · omega
theorem inn_take {l : List Opn} {c : Int} {at_ : List Int} {lim : Int} {s i : Nat} {E : List Int}
    (h1 : readyS l s i = true) (h2 : addOk (E.getD s 0) c (mn l i) (at_.getD i 0) = true) (h3 : addV (E.getD s 0) c (mn l i) (at_.getD i 0) ≤ lim)
    (h4 : (inn l c at_ lim s E i).getD (nxt s i) 0 < 0 ∨ addV (E.getD s 0) c (mn l i) (at_.getD i 0) < (inn l c at_ lim s E i).getD (nxt s i) 0) :
    inn l c at_ lim s E (i + 1) = (inn l c at_ lim s E i).set (nxt s i) (addV (E.getD s 0) c (mn l i) (at_.getD i 0)) := by
  conv => lhs; unfold inn stepI
  rw [if_pos ⟨h1, h2, h3, h4⟩]
theorem bit_test {s i : Nat} (hs : s < 65536) : (bits .and .i64 ((s : Int) / 2 ^ i) 1 != 0) = s.testBit i := by
  have h1 : ((s : Int) / 2 ^ i) = ((s / 2 ^ i : Nat) : Int) := by simp
  have h2 : s / 2 ^ i ≤ s := Nat.div_le_self _ _
  rw [h1, i64_and1 _ (by omega), Nat.testBit_eq_decide_div_mod_eq]
  rw [Bool.eq_iff_iff]
  simp
  omega
theorem bef_test {l : List Opn} (hsd : Sound l) {s i : Nat} (hi : i < l.length) (hs : s < 65536) : (bits .andNot .i64 ((orB (af l i) : Nat) : Int) (s : Int) != 0) = !((af l i).all fun a => s.testBit a.toNat) := by
  have hlt : orB (af l i) < 2 ^ l.length := orB_lt fun a ha => by have := hsd.idx _ (getD_mem hi) a ha; omega
  have h16 := pow16 hsd.len
  have key := i64_andNot0 (orB (af l i)) s (by omega) (by omega)
  rw [Bool.eq_iff_iff, bne_iff_ne, Bool.not_eq_true', ne_eq, key, ← Bool.not_eq_true, List.all_eq_true]
  constructor
  · intro h h'
    apply h
    intro j hj
    obtain ⟨a, ha, rfl⟩ := (orB_bit _ _).1 hj
    exact h' a ha
  · intro h h'
    apply h
    intro a ha
    exact h' _ ((orB_bit _ _).2 ⟨a, ha, rfl⟩)
theorem ready_no1 {l : List Opn} {s i : Nat} (h : s.testBit i = true) : readyS l s i = false := by unfold readyS; rw [h]; rfl
theorem ready_no2 {l : List Opn} {s i : Nat} (h : ((af l i).all fun a => s.testBit a.toNat) = false) : readyS l s i = false := by unfold readyS; rw [h]; simp
theorem ready_yes1 {l : List Opn} {s i : Nat} (h1 : s.testBit i = false) (h : ((af l i).all fun a => s.testBit a.toNat) = true) : readyS l s i = true := by unfold readyS; rw [h, h1]; rfl
theorem nxt_or {s i : Nat} (hs : s < 65536) (hi : i ≤ 16) : bits .or .i64 (s : Int) ((2 ^ i : Nat) : Int) = ((nxt s i : Nat) : Int) := by
  have := pow16 hi
  exact i64_or _ _ (by omega) (by omega)
theorem mn_at {l : List Opn} {i : Nat} {o : Opn} (h : l[i]? = some o) : mn l i = o.mins := by unfold mn; rw [getD_at h]
theorem af_at {l : List Opn} {i : Nat} {o : Opn} (h : l[i]? = some o) : af l i = o.after := by unfold af; rw [getD_at h]
theorem take_snoc' {q : List Int} {k : Nat} {x : Int} (h : q[k]? = some x) : q.take (k + 1) = q.take k ++ [x] := by rw [List.take_add_one, h]; rfl
def fillM (k n : Nat) : List Int := List.replicate k (-1) ++ List.replicate (n - k) 0
theorem fillM_zero (n : Nat) : fillM 0 n = List.replicate n 0 := by unfold fillM; simp
theorem fillM_next {k n : Nat} (h : k < n) : (fillM k n).set k (-1) = fillM (k + 1) n := by
  unfold fillM
  rw [List.set_append_right _ _ (by simp)]
  simp only [List.length_replicate, Nat.sub_self]
  rw [show n - k = (n - (k + 1)) + 1 from by omega, List.replicate_succ, List.set_cons_zero, List.replicate_succ', List.append_assoc]
  rfl
theorem fillM_hi {k n : Nat} (h : k < n) : (fillM k n)[k]? = some 0 := by
  unfold fillM
  rw [List.getElem?_append_right (by simp), List.getElem?_replicate, if_pos (by simp; omega)]
theorem fillM_lo {n : Nat} (h : 1 ≤ n) : (fillM n n)[0]? = some (-1) := by
  unfold fillM
  rw [List.getElem?_append_left (by simp; omega), List.getElem?_replicate, if_pos (by omega)]
theorem fillM_all (n : Nat) : (fillM n n).set 0 0 = (List.replicate n (-1)).set 0 0 := by unfold fillM; simp
/-- The sets of the operations before, of the first k operations. -/
def befs (l : List Opn) (k : Nat) : List Int := (List.range l.length).map fun i => if i < k then ((orB (af l i) : Nat) : Int) else 0
theorem befs_len (l : List Opn) (k : Nat) : (befs l k).length = l.length := by unfold befs; simp
theorem befs_at (l : List Opn) (k i : Nat) (h : i < l.length) : (befs l k)[i]? = some (if i < k then ((orB (af l i) : Nat) : Int) else 0) := by
  unfold befs; rw [List.getElem?_map, List.getElem?_range h]; rfl
theorem befs_zero (l : List Opn) : befs l 0 = List.replicate l.length 0 := by
  apply List.ext_getElem?
  intro i
  by_cases h : i < l.length
  · rw [befs_at l 0 i h, List.getElem?_replicate, if_pos h, if_neg (by omega)]
  · rw [List.getElem?_eq_none (by rw [befs_len]; omega), List.getElem?_eq_none (by simp; omega)]
theorem befs_start (l : List Opn) (k : Nat) : (befs l k).set k ((orB [] : Nat) : Int) = befs l k := by
  apply List.ext_getElem?
  intro i
  rw [List.getElem?_set]
  by_cases h : k = i
  · subst h
    rw [if_pos rfl]
    split
    · rename_i hk; rw [befs_len] at hk; rw [befs_at l k k hk, if_neg (by omega)]; rfl
    · rename_i hk; rw [List.getElem?_eq_none (by omega)]
  · rw [if_neg h]
theorem befs_next (l : List Opn) (k : Nat) : (befs l k).set k ((orB (af l k) : Nat) : Int) = befs l (k + 1) := by
  apply List.ext_getElem?
  intro i
  rw [List.getElem?_set]
  by_cases h : i < l.length
  · by_cases e : k = i
    · subst e; rw [if_pos rfl, if_pos (by rw [befs_len]; exact h), befs_at l _ k h, if_pos (by omega)]
    · rw [if_neg e, befs_at l _ i h, befs_at l _ i h]
      by_cases hi : i < k
      · rw [if_pos hi, if_pos (by omega)]
      · rw [if_neg hi, if_neg (by omega)]
  · have h1 : (befs l k)[i]? = none := List.getElem?_eq_none (by rw [befs_len]; omega)
    have h2 : (befs l (k + 1))[i]? = none := List.getElem?_eq_none (by rw [befs_len]; omega)
    rw [h1, h2]
    split
    · rw [if_neg (by rw [befs_len]; omega)]
    · rfl









end Go.Proofs.Ytelgkangojmhdaa
/- line.first: the walk. -/
namespace Go.Proofs.Ytelgkangojmhdaa
open Go.RowKit

/-- Only block b and new blocks may differ. -/
structure But (b : Nat) (w w' : World) : Prop where
  os : w'.os = w.os
  tape : w'.tape = w.tape
  output : w'.output = w.output
  size : w.heap.size ≤ w'.heap.size
  block : ∀ k, k < w.heap.size → k ≠ b → w'.heap[k]? = w.heap[k]?
theorem But.refl (b : Nat) (w : World) : But b w w := ⟨rfl, rfl, rfl, Nat.le_refl _, fun _ _ _ => rfl⟩
theorem But.put {b i : Nat} {w w' : World} (h : But b w w') (u : Value) : But b w (w'.setCell ⟨b, i, none⟩ u) :=
  ⟨h.os, h.tape, h.output, by have := h.size; simp [World.setCell]; exact this, fun k h1 h2 => (Below.heap_setCell w' _ u k h2).trans (h.block k h1 h2)⟩
theorem But.then_ {b : Nat} {w w1 w2 : World} (h : But b w w1) (hb : Below w1.heap.size w1 w2) : But b w w2 :=
  ⟨hb.os.trans h.os, hb.tape.trans h.tape, hb.output.trans h.output, Nat.le_trans h.size hb.size, fun k h1 h2 => (hb.block k (Nat.lt_of_lt_of_le h1 h.size)).trans (h.block k h1 h2)⟩
theorem But.below {b B : Nat} {w w' : World} (h : But b w w') (hB : B ≤ b) (hw : B ≤ w.heap.size) : Below B w w' :=
  ⟨h.os, h.tape, h.output, h.size, fun k hk => h.block k (by omega) (by omega)⟩
theorem But.whole {b : Nat} {w w' : World} {xs : List Int} (h : But b w w') (h1 : Row w b xs) (h2 : Row w' b xs) : Below w.heap.size w w' :=
  ⟨h.os, h.tape, h.output, h.size, fun k hk => by
    by_cases e : k = b
    · subst e; exact Eq.trans h2 (Eq.symm h1)
    · exact h.block k hk e⟩

/-- The least number below m that passes, else m. -/
def findN (p : Nat → Bool) (m : Nat) : Nat := ((List.range m).find? p).getD m
theorem findN_hit {p : Nat → Bool} {m k : Nat} (hk : k < m) (h : p k = true) (hb : ∀ j, j < k → p j = false) : findN p m = k := by
  unfold findN
  have : (List.range m).find? p = some k := by
    rw [List.find?_eq_some_iff_getElem]
    exact ⟨h, k, by simpa using hk, by simp, fun j hj => by simpa using hb j hj⟩
  rw [this]; rfl
theorem findN_miss {p : Nat → Bool} {m : Nat} (hb : ∀ j, j < m → p j = false) : findN p m = m := by
  unfold findN
  have : (List.range m).find? p = none := by
    rw [List.find?_eq_none]
    intro x hx
    simpa using hb x (by simpa using hx)
  rw [this]; rfl
theorem findN_le (p : Nat → Bool) (m : Nat) : findN p m ≤ m := by
  unfold findN
  cases h : (List.range m).find? p with
  | none => simp
  | some k => have := List.mem_of_find?_eq_some h; simp at this; simp; omega
/-- The least station of operation i. -/
def firstK (l : List Opn) (c : Int) (at_ : List Int) (i : Nat) (K : Nat) : Nat := findN (fun k => leastB l c (at_.set i k) (K * c)) (K - 1)

theorem at_set_bnd {at_ : List Int} (ha : ∀ x ∈ at_, -1 ≤ x ∧ x ≤ 1000) {i : Nat} {v : Int} (h0 : -1 ≤ v) (h1 : v ≤ 1000) : ∀ x ∈ at_.set i v, -1 ≤ x ∧ x ≤ 1000 := by
  intro x hx
  rcases List.mem_or_eq_of_mem_set hx with hx | rfl
  · exact ha x hx
  · exact ⟨h0, h1⟩

theorem set_self {q : List Int} {i : Nat} {x : Int} (h : q[i]? = some x) : q.set i x = q := by
  apply List.ext_getElem?
  intro j
  rw [List.getElem?_set]
  split
  · rename_i e; subst e; rw [h, if_pos (List.getElem?_eq_some_iff.1 h).1]
  · rfl

end Go.Proofs.Ytelgkangojmhdaa
/- Slices of slices of ints: one that came in or goes from call to call, and one that a call makes and fills by append. -/
namespace Go.Proofs.Ytelgkangojmhdaa
open Go.RowKit

/-- The slice at A reads as the lists ll; all of it lies below block B. -/
def SRd (w : World) (B : Nat) (A : Option Addr) (ll : List (List Int)) : Prop :=
  ll ≠ [] → ∃ b off, A = some ⟨b, off, none⟩ ∧ b < B ∧ ∀ i q, ll[i]? = some q → ∃ A' c', w.cell? ⟨b, off + i, none⟩ = some (.slice A' q.length c') ∧ q.length ≤ c' ∧ IRd w B A' q
theorem SRd.below {w w' : World} {B : Nat} {A : Option Addr} {ll : List (List Int)} (h : SRd w B A ll) (hb : Below B w w') : SRd w' B A ll := by
  intro hl
  obtain ⟨b, off, e, hB, hc⟩ := h hl
  refine ⟨b, off, e, hB, fun i q hq => ?_⟩
  obtain ⟨A', c', h1, h2, h3⟩ := hc i q hq
  exact ⟨A', c', (hb.cell (p := ⟨b, _, none⟩) hB).trans h1, h2, h3.below hb⟩
theorem SRd.more {w : World} {B B' : Nat} {A : Option Addr} {ll : List (List Int)} (h : SRd w B A ll) (hB : B ≤ B') : SRd w B' A ll := by
  intro hl
  obtain ⟨b, off, e, hb, hc⟩ := h hl
  refine ⟨b, off, e, by omega, fun i q hq => ?_⟩
  obtain ⟨A', c', h1, h2, h3⟩ := hc i q hq
  exact ⟨A', c', h1, h2, h3.more hB⟩
theorem SRd.at_ {w w' : World} {B : Nat} {A : Option Addr} {ll : List (List Int)} (h : SRd w B A ll) (hb : Below B w w') {k : Nat} (hk : k < ll.length) :
    ∃ b off q A' c', A = some ⟨b, off, none⟩ ∧ b < B ∧ ll[k]? = some q ∧ w'.cell? ⟨b, off + k, none⟩ = some (.slice A' q.length c') ∧ q.length ≤ c' ∧ IRd w' B A' q := by
  obtain ⟨b, off, e, hB, hc⟩ := (h.below hb) (by intro e; subst e; simp at hk)
  have hd : ll[k]? = some ll[k] := List.getElem?_eq_getElem hk
  obtain ⟨A', c', h1, h2, h3⟩ := hc k _ hd
  exact ⟨b, off, ll[k], A', c', e, hB, hd, h1, h2, h3⟩

def cellsL (q : List Int) : List Value := q.map (Value.int .i64)
/-- Block bs is K slices; slice s owns a row that holds f s; the rows lie from block base on, apart. -/
def Grps (w : World) (base bs K : Nat) (f : Nat → List Int) : Prop :=
  ∃ vs : List Value, vs.length = K ∧ w.heap[bs]? = some (.cells vs.toArray 33 (0, 0)) ∧
    (∀ (s : Nat) (v : Value), vs[s]? = some v → w.ownsRow base 3 1 v (f s).length (cellsL (f s))) ∧
    ∀ (s t : Nat) (v u : Value), s ≠ t → vs[s]? = some v → vs[t]? = some u → v.ownBlock = none ∨ v.ownBlock ≠ u.ownBlock
theorem grownBy_drew {w w' : World} {row : Option Nat} (h : w.grownBy w' row) : w.grownBy w'.drew row := ⟨h.os, h.tape, h.output, h.size, h.block⟩
theorem Grps.lt {w : World} {base bs K : Nat} {f : Nat → List Int} (h : Grps w base bs K f) : bs < w.heap.size := by
  obtain ⟨vs, _, h2, _⟩ := h
  by_cases hb : bs < w.heap.size
  · exact hb
  · rw [Array.getElem?_eq_none (by omega)] at h2; cases h2
/-- Slice s, as it is read and written. -/
theorem Grps.at_ {w : World} {base bs K : Nat} {f : Nat → List Int} (h : Grps w base bs K f) {s : Nat} (hs : s < K) :
    ∃ v, w.cell? ⟨bs, s, none⟩ = some v ∧ w.frozen? ⟨bs, s, none⟩ = false ∧ w.ownsRow base 3 1 v (f s).length (cellsL (f s)) := by
  obtain ⟨vs, h1, h2, h3, _⟩ := h
  have hv : vs[s]? = some vs[s] := List.getElem?_eq_getElem (by omega)
  refine ⟨vs[s], ?_, by simp [World.frozen?, h2], h3 s _ hv⟩
  have : w.cell? ⟨bs, s, none⟩ = vs.toArray[s]? := by simp [World.cell?, h2]
  rw [this]; simp
theorem Grps.kept {w w' : World} {base bs K : Nat} {f : Nat → List Int} {row : Option Nat} (h : Grps w base bs K f) (_hbs : bs < base) (hg : w.grownBy w' row) (hr : ∀ k, row = some k → k < base ∧ k ≠ bs) : Grps w' base bs K f := by
  have hlt := h.lt
  obtain ⟨vs, h1, h2, h3, h4⟩ := h
  refine ⟨vs, h1, (hg.block bs hlt (fun e => (hr bs e.symm).2 rfl)).trans h2, fun s v hv => (h3 s v hv).kept hg ?_, h4⟩
  by_cases e : v.ownBlock = none
  · exact .inl e
  · refine .inr fun e' => ?_
    obtain ⟨k, hk⟩ : ∃ k, v.ownBlock = some k := by
      cases ho : v.ownBlock with
      | none => exact absurd ho e
      | some k => exact ⟨k, rfl⟩
    have := (h3 s v hv).lt k hk
    have := hr k (e'.symm.trans hk)
    omega
theorem Grps.below {w w' : World} {base bs K : Nat} {f : Nat → List Int} (h : Grps w base bs K f) (hbs : bs < base) (hb : Below w.heap.size w w') : Grps w' base bs K f :=
  h.kept (row := none) hbs ⟨hb.os, hb.tape, hb.output, hb.size, fun k hk _ => hb.block k hk⟩ (fun k hk => by cases hk)
theorem Grps.put {w : World} {base bs K b i : Nat} {f : Nat → List Int} (h : Grps w base bs K f) (hbs : bs < base) (hb : b < base) (hne : b ≠ bs) (u : Value) : Grps (w.setCell ⟨b, i, none⟩ u) base bs K f :=
  h.kept (row := some b) hbs ⟨rfl, rfl, rfl, by simp [World.setCell], fun k _ hk => Below.heap_setCell w _ u k (fun e => hk (by rw [e]))⟩ (fun k hk => by cases hk; exact ⟨hb, hne⟩)
/-- One number more in slice s. -/
theorem Grps.step {w w0 w1 : World} {base bs K s H g cap : Nat} {f : Nat → List Int} {x : Int} {v : Value} (h : Grps w base bs K f) (hbs : bs < base) (hs : s < K) (hv : w.cell? ⟨bs, s, none⟩ = some v)
    (hg0 : w.grownBy w0 none) (hH : w0.heap.size = H) (hg : w0.grownBy w1 v.ownBlock) (hown : w1.ownsRow base 3 1 (.slice (some ⟨g, 0, none⟩) ((f s).length + 1) cap) ((f s).length + 1) (cellsL (f s) ++ [.int .i64 x]))
    (hat : v.ownBlock = some g ∨ g = H) :
    Grps (w1.setCell ⟨bs, s, none⟩ (.slice (some ⟨g, 0, none⟩) ((f s).length + 1) cap)) base bs K (fun t => if t = s then f s ++ [x] else f t) := by
  have hlt := h.lt
  obtain ⟨vs, h1, h2, h3, h4⟩ := h
  have hvs : vs[s]? = some v := by
    have : w.cell? ⟨bs, s, none⟩ = vs.toArray[s]? := by simp [World.cell?, h2]
    rw [this] at hv; simpa using hv
  have hvb : ∀ k, v.ownBlock = some k → base ≤ k ∧ k < w.heap.size := (h3 s v hvs).lt
  have h2' : w1.heap[bs]? = some (.cells vs.toArray 33 (0, 0)) := by
    refine ((hg.block bs (Nat.lt_of_lt_of_le hlt hg0.size) fun e => ?_).trans (hg0.block bs hlt (by simp))).trans h2
    have := (hvb bs e.symm).1
    omega
  refine ⟨vs.set s (.slice (some ⟨g, 0, none⟩) ((f s).length + 1) cap), by rw [List.length_set]; exact h1, ?_, ?_, ?_⟩
  · have : vs.toArray.setIfInBounds s (.slice (some ⟨g, 0, none⟩) ((f s).length + 1) cap) = (vs.set s (.slice (some ⟨g, 0, none⟩) ((f s).length + 1) cap)).toArray := by simp
    simp [World.setCell, Array.getElem?_modify, h2']
  · intro t u hu
    rw [List.getElem?_set] at hu
    by_cases e : s = t
    · subst e
      rw [if_pos rfl, if_pos (by omega)] at hu
      cases hu
      simp only [if_pos]
      have := ownsRow_setCell_below (a := ⟨bs, s, none⟩) hown (by simpa using hbs) (.slice (some ⟨g, 0, none⟩) ((f s).length + 1) cap)
      rw [List.length_append]
      unfold cellsL at this ⊢
      rw [List.map_append]
      exact this
    · rw [if_neg e] at hu
      simp only [if_neg (fun e' : t = s => e e'.symm)]
      refine ownsRow_setCell_below (((h3 t u hu).kept hg0 ?_).kept hg ?_) (by simpa using hbs) _
      · exact own_none u
      · exact h4 t s u v (fun e' => e e'.symm) hu hvs
  · intro a b p q hne hp hq
    rw [List.getElem?_set] at hp hq
    by_cases ea : s = a
    · subst ea
      rw [if_pos rfl, if_pos (by omega)] at hp
      cases hp
      rw [if_neg hne] at hq
      refine .inr fun e' => ?_
      have e'' : some g = q.ownBlock := e'
      rcases hat with ha | ha
      · rcases h4 s b v q hne hvs hq with h5 | h5
        · rw [ha] at h5; cases h5
        · exact h5 (ha.trans e'')
      · have := (h3 b q hq).lt g e''.symm
        have := hg0.size
        omega
    · rw [if_neg ea] at hp
      by_cases eb : s = b
      · subst eb
        rw [if_pos rfl, if_pos (by omega)] at hq
        cases hq
        by_cases e0 : p.ownBlock = none
        · exact .inl e0
        refine .inr fun e' => ?_
        have e'' : p.ownBlock = some g := e'
        rcases hat with ha | ha
        · rcases h4 a s p v hne hp hvs with h5 | h5
          · exact e0 h5
          · exact h5 (e''.trans ha.symm)
        · have := (h3 a p hp).lt g e''
          have := hg0.size
          omega
      · rw [if_neg eb] at hq
        exact h4 a b p q hne hp hq
/-- What has been filled, read. -/
theorem Grps.srd {w : World} {base bs K : Nat} {f : Nat → List Int} (h : Grps w base bs K f) : SRd w w.heap.size (some ⟨bs, 0, none⟩) ((List.range K).map f) := by
  intro _
  refine ⟨bs, 0, rfl, h.lt, fun i q hq => ?_⟩
  have hi : i < K := by
    have := (List.getElem?_eq_some_iff.1 hq).1
    simpa using this
  rw [List.getElem?_map, List.getElem?_range hi] at hq
  cases hq
  obtain ⟨v, hv, _, hown⟩ := h.at_ hi
  obtain ⟨A', c', rfl⟩ := own_any hown
  refine ⟨A', c', by rw [Nat.zero_add]; exact hv, ?_, ?_⟩
  · rcases hown.2 with ⟨_, h0⟩ | ⟨g, cap, cur, e, _, _, hle, _⟩
    · omega
    · cases e; exact hle
  · intro hl
    obtain ⟨g, cap, e, _, hlt⟩ := hown.form (by rcases Nat.eq_zero_or_pos (f i).length with h0 | h0; exact absurd (List.eq_nil_of_length_eq_zero h0) hl; exact h0)
    have hA : A' = some ⟨g, 0, none⟩ := by injection e
    subst hA
    refine ⟨g, 0, rfl, hlt, fun j y hy => ?_⟩
    have := hown.cells (g := g) rfl j (.int .i64 y) (by unfold cellsL; rw [List.getElem?_map, hy]; rfl)
    rw [add_plain] at this
    exact this
theorem infoInts : (Try.prog.info? 33).map (fun i => (i.zero, i.size, i.bytes)) = some (some (.slice none 0 0), 1, 24) := by kernel_rfl
def nilCells (n : Nat) : Array Value := (List.replicate n (Value.slice none 0 0)).toArray
theorem madeNils (n : Nat) : madeCells (Value.cells (.slice none 0 0)) n = nilCells n := by
  have : Value.cells (.slice none 0 0) = #[.slice none 0 0] := rfl
  rw [this]
  unfold madeCells nilCells
  apply Array.ext
  · simp
  · intro i h1 h2
    simp [Nat.mod_one]
theorem mkRows (n : Nat) (h : n ≤ 1000000) (w : World) :
    (Instr.makeSlice 23 (.int .i64 (n : Int)) (.int .i64 (n : Int))).run Try.prog w = .ok (.slice (some ⟨w.heap.size, 0, none⟩) n n) (w.alloc (.cells (nilCells n) 33)) := by
  obtain ⟨i0, hi0, hz0, hz1, hz2⟩ := info_parts infoInts
  have := run_make (P := Try.prog) w 23 33 i0 _ Try.underlying23 hi0 hz0 .i64 .i64 (n : Int) (n : Int) (by omega) (by omega) (by rw [hz2]; omega) (by omega)
  rw [this, hz1, Int.toNat_natCast, Nat.mul_one, madeNils]
theorem Grps.new (w : World) (n : Nat) : Grps (w.alloc (.cells (nilCells n) 33)) (w.heap.size + 1) w.heap.size n (fun _ => []) := by
  refine ⟨List.replicate n (.slice none 0 0), by simp, ?_, ?_, ?_⟩
  · show (w.heap.push _)[w.heap.size]? = _
    simp [nilCells]
  · intro s v hv
    rw [List.getElem?_replicate] at hv
    split at hv
    · cases hv; exact World.ownsRow_nil _ _ _ _
    · cases hv
  · intro s t v u _ hv _
    rw [List.getElem?_replicate] at hv
    split at hv
    · cases hv; exact .inl rfl
    · cases hv
end Go.Proofs.Ytelgkangojmhdaa
/- Plain laws of line balancing: the number of stations is the least, the arrangement the first of all. -/
namespace Go.Proofs.Ytelgkangojmhdaa

theorem order_mem {l : List Opn} (h : (order l).length = l.length) {i : Nat} (hi : i < l.length) : i ∈ order l := by
  have hu := topo_upto (l := l) l.length [] (Upto.nil l)
  have := Upto.all (out := order l) hu h
  rw [List.filter_eq_nil_iff] at this
  have := this i (List.mem_range.2 hi)
  simpa using this
theorem lineOk_of {l : List Opn} {c : Int} (h : bndErr l c = 0) : LineOk l c := by
  obtain ⟨h1, h2, h3, h4⟩ := bndErr_zero h
  obtain ⟨h5, h6⟩ := ordErr_zero h1
  have hsd := sound_of h5
  have hu : Upto l (order l) := topo_upto (l := l) l.length [] (Upto.nil l)
  refine ⟨h2, fun i hi => ⟨(hsd.mins _ (getD_mem hi)).1, h4 _ (getD_mem hi)⟩, fun i hi a ha => ?_, fun i => (order l).idxOf i, fun i hi => ?_, fun i j hi hj he => ?_, fun i hi a ha => ?_⟩
  · have := hsd.idx _ (getD_mem hi) a ha; omega
  · rw [← h6]; exact List.idxOf_lt_length_of_mem (order_mem h6 hi)
  · have hi' := order_mem h6 hi
    have hj' := order_mem h6 hj
    have e1 : (order l)[(order l).idxOf i]? = some i := by rw [List.getElem?_eq_getElem (List.idxOf_lt_length_of_mem hi'), List.getElem_idxOf]
    have e2 : (order l)[(order l).idxOf j]? = some j := by rw [List.getElem?_eq_getElem (List.idxOf_lt_length_of_mem hj'), List.getElem_idxOf]
    have he' : (order l).idxOf i = (order l).idxOf j := he
    rw [he', e2] at e1
    injection e1 with e1
    exact e1.symm
  · have hi' := order_mem h6 hi
    have hlt := List.idxOf_lt_length_of_mem hi'
    have e1 : (order l)[(order l).idxOf i]? = some i := by rw [List.getElem?_eq_getElem hlt, List.getElem_idxOf]
    have := hu.2.2 _ _ e1 a ha
    have h7 := List.idxOf_lt_length_of_mem this
    have h8 : (order l).idxOf a.toNat = ((order l).take ((order l).idxOf i)).idxOf a.toNat := by
      conv => lhs; rw [← List.take_append_drop ((order l).idxOf i) (order l)]
      rw [List.idxOf_append, if_pos this]
    show (order l).idxOf a.toNat < (order l).idxOf i
    rw [h8]
    rw [List.length_take] at h7
    omega

theorem run_lim {l : List Opn} {c : Int} {at_ : List Int} {lim : Int} (h0 : 0 ≤ lim) : ∀ {p : List Nat} {t : Nat} {v : Int}, run l c at_ lim p = some (t, v) → v ≤ lim := by
  intro p t v h
  cases p with
  | nil => simp [run] at h; omega
  | cons x p => obtain ⟨s, e, _, _, _, _, h7, _, _⟩ := run_cons h; exact h7
def AtOk (l : List Opn) (at_ : List Int) : Prop := ∀ i, i < l.length → at_.getD i 0 = -1 ∨ 0 ≤ at_.getD i 0
theorem least_of_valid {l : List Opn} {c K lim : Int} {at_ : List Int} {st : Nat → Int} (hl : LineOk l c) (hK : 0 ≤ K) (hv : Valid l c K st) (ha : Agrees l at_ st) (hlim : K * c ≤ lim) :
    0 ≤ leastE l c at_ lim ∧ leastE l c at_ lim ≤ K * c := by
  obtain ⟨p, e, hr, he⟩ := run_of_valid hl hK hv ha hlim
  have := dp_least hl p _ _ hr
  unfold leastE
  omega
theorem valid_of_least {l : List Opn} {c K lim : Int} {at_ : List Int} (hl : LineOk l c) (ha : AtOk l at_) (h : 0 ≤ leastE l c at_ lim) (hK : leastE l c at_ lim ≤ K * c) :
    ∃ st, Valid l c K st ∧ Agrees l at_ st := by
  obtain ⟨p, hp⟩ := dp_sure (at_ := at_) (lim := lim) hl (2 ^ l.length - 1) (by have := Nat.two_pow_pos l.length; omega) h
  exact valid_of_run hl ha hp hK
theorem leastE_lim {l : List Opn} {c lim : Int} {at_ : List Int} (hl : LineOk l c) (h0 : 0 ≤ lim) (h : 0 ≤ leastE l c at_ lim) : leastE l c at_ lim ≤ lim := by
  obtain ⟨p, hp⟩ := dp_sure (at_ := at_) (lim := lim) hl (2 ^ l.length - 1) (by have := Nat.two_pow_pos l.length; omega) h
  exact run_lim h0 hp
theorem leastB_iff {l : List Opn} {c K : Int} {at_ : List Int} (hl : LineOk l c) (ha : AtOk l at_) (hK : 0 ≤ K) : leastB l c at_ (K * c) = true ↔ ∃ st, Valid l c K st ∧ Agrees l at_ st := by
  unfold leastB
  rw [decide_eq_true_iff]
  constructor
  · intro h
    exact valid_of_least hl ha h (leastE_lim hl (Int.mul_nonneg hK (by have := hl.c1; omega)) h)
  · rintro ⟨st, hv, hag⟩
    exact (least_of_valid hl hK hv hag (Int.le_refl _)).1

def noAt (n : Nat) : List Int := List.replicate n (-1)
theorem noAt_at {n i : Nat} (h : i < n) : (noAt n).getD i 0 = -1 := by
  unfold noAt; rw [List.getD_eq_getElem?_getD, List.getElem?_replicate, if_pos h]; rfl
theorem noAt_ok (l : List Opn) : AtOk l (noAt l.length) := fun _ hi => .inl (noAt_at hi)
theorem noAt_agrees (l : List Opn) (st : Nat → Int) : Agrees l (noAt l.length) st := fun _ hi => .inl (noAt_at hi)
def endE (l : List Opn) (c : Int) : Int := leastV l c (noAt l.length) (l.length * c)
def nSt (l : List Opn) (c : Int) : Nat := ((endE l c + c - 1) / c).toNat

/-- Each operation at a station of its own. -/
theorem valid_pos {l : List Opn} {c : Int} (hl : LineOk l c) : ∃ st, Valid l c l.length st := by
  obtain ⟨pos, p1, p2, p3⟩ := hl.pos
  refine ⟨fun i => (pos i : Int), ⟨fun i hi => ⟨by omega, by have := p1 i hi; omega⟩, fun i hi a ha => by have := p3 i hi a ha; omega, fun k => ?_⟩⟩
  have key : ∀ p : List Nat, p.Nodup → (∀ i ∈ p, i < l.length) → load l (fun i => (pos i : Int)) k p ≤ c ∧ ((∀ i ∈ p, (pos i : Int) ≠ k) → load l (fun i => (pos i : Int)) k p = 0) := by
    intro p
    induction p with
    | nil => intro _ _; have := hl.c1; exact ⟨by simp only [load]; omega, fun _ => rfl⟩
    | cons x p ih =>
      intro hn hi
      rw [List.nodup_cons] at hn
      obtain ⟨g1, g2⟩ := ih hn.2 fun i hi' => hi i (by simp [hi'])
      have hx := hl.m1 x (hi x (by simp))
      simp only [load]
      by_cases e : (pos x : Int) = k
      · rw [if_pos e]
        have : load l (fun i => (pos i : Int)) k p = 0 := g2 fun i hi' e' => hn.1 (by
          have := p2 i x (hi i (by simp [hi'])) (hi x (by simp)) (by omega)
          rw [← this]; exact hi')
        exact ⟨by omega, fun h => absurd e (h x (by simp))⟩
      · rw [if_neg e]
        exact ⟨by omega, fun h => by rw [g2 fun i hi' => h i (by simp [hi'])]; rfl⟩
  exact (key _ List.nodup_range (fun i hi => List.mem_range.1 hi)).1
theorem end_bnd {l : List Opn} {c : Int} (hl : LineOk l c) : leastE l c (noAt l.length) (l.length * c) = endE l c ∧ 0 ≤ endE l c ∧ endE l c ≤ l.length * c := by
  obtain ⟨st, hv⟩ := valid_pos hl
  obtain ⟨h1, h2⟩ := least_of_valid hl (by omega) hv (noAt_agrees l st) (Int.le_refl _)
  have : endE l c = leastE l c (noAt l.length) (l.length * c) := by unfold endE leastV; rw [if_neg (by omega)]
  exact ⟨this.symm, by omega, by omega⟩
theorem ceil_iff {e c K : Int} (hc : 1 ≤ c) : (e + c - 1) / c ≤ K ↔ e ≤ K * c := by
  have h1 := quo_le (f := e + c - 1) hc
  constructor
  · intro h
    have := mul_le h hc
    omega
  · intro h
    by_cases h2 : (e + c - 1) / c ≤ K
    · exact h2
    · exfalso
      have := mul_le (show K + 1 ≤ (e + c - 1) / c by omega) hc
      rw [succ_mul'] at this
      omega
theorem nSt_cast {l : List Opn} {c : Int} (hl : LineOk l c) : ((nSt l c : Nat) : Int) = (endE l c + c - 1) / c := by
  have := (end_bnd hl).2.1
  have := Int.ediv_nonneg (show 0 ≤ endE l c + c - 1 by have := hl.c1; omega) (b := c) (by have := hl.c1; omega)
  unfold nSt; omega
theorem nSt_le {l : List Opn} {c : Int} (hl : LineOk l c) : nSt l c ≤ l.length := by
  have h := (ceil_iff (K := l.length) hl.c1).2 (end_bnd hl).2.2
  rw [← nSt_cast hl] at h
  omega
theorem nSt_valid {l : List Opn} {c : Int} (hl : LineOk l c) : ∃ st, Valid l c (nSt l c) st := by
  obtain ⟨h1, h2, h3⟩ := end_bnd hl
  have := (ceil_iff (e := endE l c) (K := nSt l c) hl.c1).1 (by rw [nSt_cast hl]; exact Int.le_refl _)
  obtain ⟨st, hv, _⟩ := valid_of_least (K := nSt l c) hl (noAt_ok l) (by rw [h1]; exact h2) (by rw [h1]; exact this)
  exact ⟨st, hv⟩
theorem nSt_least {l : List Opn} {c K : Int} {st : Nat → Int} (hl : LineOk l c) (hK : 0 ≤ K) (hv : Valid l c K st) : ((nSt l c : Nat) : Int) ≤ K := by
  by_cases h : K ≤ l.length
  · obtain ⟨h1, h2, h3⟩ := end_bnd hl
    have := (least_of_valid hl hK hv (noAt_agrees l st) (mul_le (c := c) h hl.c1)).2
    rw [h1] at this
    rw [nSt_cast hl]
    exact (ceil_iff hl.c1).2 this
  · have := nSt_le hl; omega
theorem nSt_pos {l : List Opn} {c : Int} (hl : LineOk l c) (h : 0 < l.length) : 1 ≤ nSt l c := by
  obtain ⟨st, hv⟩ := nSt_valid hl
  have := hv.rng 0 h
  omega

/-! ## The arrangement -/
theorem findN_min {p : Nat → Bool} {m j : Nat} (h : j < findN p m) : p j = false := by
  unfold findN at h
  cases hf : (List.range m).find? p with
  | none =>
    rw [hf] at h
    rw [List.find?_eq_none] at hf
    have := hf j (by simpa using h)
    simpa using this
  | some k =>
    rw [hf] at h
    rw [List.find?_eq_some_iff_getElem] at hf
    obtain ⟨_, q, hq, e, hb⟩ := hf
    simp at h e
    subst e
    have := hb j h
    simpa using this
theorem findN_ok {p : Nat → Bool} {m : Nat} (h : findN p m < m) : p (findN p m) = true := by
  unfold findN at h ⊢
  cases hf : (List.range m).find? p with
  | none => rw [hf] at h; simp at h
  | some k => exact List.find?_some hf
def balAt (l : List Opn) (c : Int) : Nat → List Int
  | 0 => noAt l.length
  | k + 1 => (balAt l c k).set k (firstK l c (balAt l c k) k (nSt l c))
theorem balAt_len (l : List Opn) (c : Int) (k : Nat) : (balAt l c k).length = l.length := by
  induction k with
  | zero => unfold balAt noAt; simp
  | succ k ih => unfold balAt; rw [List.length_set]; exact ih
theorem balAt_free {l : List Opn} {c : Int} {k i : Nat} (hk : k ≤ i) (hi : i < l.length) : (balAt l c k).getD i 0 = -1 := by
  induction k with
  | zero => exact noAt_at hi
  | succ k ih => unfold balAt; rw [getD_set _ _ _ _ (by rw [balAt_len]; omega), if_neg (by omega)]; exact ih (by omega)
theorem balAt_keep {l : List Opn} {c : Int} {k i : Nat} (hi : i < k) (_hk : k ≤ l.length) : ∀ m, k ≤ m → m ≤ l.length → (balAt l c m).getD i 0 = (balAt l c k).getD i 0 := by
  intro m
  induction m with
  | zero => intro h _; omega
  | succ m ih =>
    intro h hm
    by_cases e : k = m + 1
    · rw [e]
    · conv => lhs; unfold balAt
      rw [getD_set _ _ _ _ (by rw [balAt_len]; omega), if_neg (by omega)]
      exact ih (by omega) (by omega)
theorem balAt_step {l : List Opn} {c : Int} {k : Nat} (hk : k < l.length) : (balAt l c (k + 1)).getD k 0 = firstK l c (balAt l c k) k (nSt l c) := by
  conv => lhs; unfold balAt
  rw [getD_set _ _ _ _ (by rw [balAt_len]; omega), if_pos rfl]
/-- The arrangement that Balance finds. -/
def balA (l : List Opn) (c : Int) (i : Nat) : Int := (balAt l c l.length).getD i 0
theorem balAt_val {l : List Opn} {c : Int} {k i : Nat} (hi : i < k) (hk : k ≤ l.length) : (balAt l c k).getD i 0 = balA l c i := (balAt_keep hi hk l.length hk (Nat.le_refl _)).symm

/-- The arrangement has the stations of f up to k. -/
theorem agrees_iff {l : List Opn} {c : Int} {k : Nat} (hk : k ≤ l.length) (h0 : ∀ i, i < k → 0 ≤ balA l c i) (st : Nat → Int) : Agrees l (balAt l c k) st ↔ ∀ i, i < k → st i = balA l c i := by
  unfold Agrees
  constructor
  · intro h i hi
    have := h i (by omega)
    rw [balAt_val hi hk] at this
    rcases this with h1 | h1
    · have := h0 i hi; omega
    · exact h1
  · intro h i hi
    by_cases hik : i < k
    · rw [balAt_val hik hk]; exact .inr (h i hik)
    · exact .inl (balAt_free (by omega) hi)
theorem bal_inv {l : List Opn} {c : Int} (hl : LineOk l c) : ∀ k, k ≤ l.length →
    (∀ i, i < k → 0 ≤ balA l c i ∧ balA l c i < nSt l c) ∧ (∃ st, Valid l c (nSt l c) st ∧ ∀ i, i < k → st i = balA l c i) ∧
    ∀ i, i < k → ∀ st, Valid l c (nSt l c) st → (∀ j, j < i → st j = balA l c j) → balA l c i ≤ st i := by
  intro k
  induction k with
  | zero =>
    intro _
    obtain ⟨st, hv⟩ := nSt_valid hl
    exact ⟨fun i hi => absurd hi (by omega), ⟨st, hv, fun i hi => absurd hi (by omega)⟩, fun i hi => absurd hi (by omega)⟩
  | succ k ih =>
    intro hk
    obtain ⟨h1, ⟨st0, hv0, ha0⟩, h3⟩ := ih (by omega)
    have hK1 := nSt_pos hl (show 0 < l.length by omega)
    have hx : balA l c k = firstK l c (balAt l c k) k (nSt l c) := by rw [← balAt_val (k := k + 1) (by omega) hk, balAt_step (by omega)]
    have hle : firstK l c (balAt l c k) k (nSt l c) ≤ nSt l c - 1 := findN_le _ _
    -- what the test at a station says
    have hag : ∀ (s : Nat) (st : Nat → Int), Agrees l ((balAt l c k).set k (s : Int)) st ↔ (∀ i, i < k → st i = balA l c i) ∧ st k = s := by
      intro s st
      have h4 : ∀ i, ((balAt l c k).set k (s : Int)).getD i 0 = if i = k then (s : Int) else (balAt l c k).getD i 0 := fun i => getD_set _ _ _ _ (by rw [balAt_len]; omega)
      rw [← agrees_iff (by omega) (fun i hi => (h1 i hi).1) st]
      unfold Agrees
      constructor
      · intro h
        refine ⟨fun i hi => ?_, ?_⟩
        · by_cases e : i = k
          · subst e; exact .inl (balAt_free (Nat.le_refl _) hi)
          · have := h i hi; rw [h4, if_neg e] at this; exact this
        · have := h k (by omega)
          rw [h4, if_pos rfl] at this
          rcases this with h5 | h5 <;> omega
      · rintro ⟨h5, h6⟩ i hi
        rw [h4]
        by_cases e : i = k
        · subst e; rw [if_pos rfl]; exact .inr h6
        · rw [if_neg e]; exact h5 i hi
    have hatok : ∀ s : Nat, AtOk l ((balAt l c k).set k (s : Int)) := by
      intro s i hi
      rw [getD_set _ _ _ _ (by rw [balAt_len]; omega)]
      by_cases e : i = k
      · rw [if_pos e]; exact .inr (by omega)
      · rw [if_neg e]
        by_cases hik : i < k
        · rw [balAt_val hik (by omega)]; exact .inr (h1 i hik).1
        · exact .inl (balAt_free (by omega) hi)
    have htest : ∀ s : Nat, leastB l c ((balAt l c k).set k (s : Int)) ((nSt l c : Nat) * c) = true ↔ ∃ st, Valid l c (nSt l c) st ∧ (∀ i, i < k → st i = balA l c i) ∧ st k = s := by
      intro s
      rw [leastB_iff hl (hatok s) (by omega)]
      constructor
      · rintro ⟨st, hv, ha⟩; exact ⟨st, hv, (hag s st).1 ha⟩
      · rintro ⟨st, hv, ha⟩; exact ⟨st, hv, (hag s st).2 ha⟩
    have hmin : ∀ st, Valid l c (nSt l c) st → (∀ j, j < k → st j = balA l c j) → balA l c k ≤ st k := by
      intro st hv ha
      have hr := hv.rng k (by omega)
      by_cases h4 : balA l c k ≤ st k
      · exact h4
      · exfalso
        have h5 := findN_min (p := fun s => leastB l c ((balAt l c k).set k (s : Int)) ((nSt l c : Nat) * c)) (m := nSt l c - 1) (j := (st k).toNat) (by
          have : (firstK l c (balAt l c k) k (nSt l c) : Int) = balA l c k := hx.symm
          unfold firstK at this
          omega)
        have h6 := (htest (st k).toNat).2 ⟨st, hv, ha, by omega⟩
        rw [h6] at h5; cases h5
    have hex : ∃ st, Valid l c (nSt l c) st ∧ (∀ i, i < k → st i = balA l c i) ∧ st k = balA l c k := by
      by_cases hlt : firstK l c (balAt l c k) k (nSt l c) < nSt l c - 1
      · have := findN_ok (p := fun s => leastB l c ((balAt l c k).set k (s : Int)) ((nSt l c : Nat) * c)) (m := nSt l c - 1) hlt
        obtain ⟨st, hv, ha, he⟩ := (htest _).1 this
        exact ⟨st, hv, ha, by rw [he, hx]; rfl⟩
      · have h5 := hmin st0 hv0 ha0
        have hr := hv0.rng k (by omega)
        exact ⟨st0, hv0, ha0, by omega⟩
    refine ⟨fun i hi => ?_, ?_, fun i hi => ?_⟩
    · by_cases e : i = k
      · subst e; rw [hx]; omega
      · exact h1 i (by omega)
    · obtain ⟨st, hv, ha, he⟩ := hex
      refine ⟨st, hv, fun i hi => ?_⟩
      by_cases e : i = k
      · subst e; exact he
      · exact ha i (by omega)
    · by_cases e : i = k
      · subst e; exact hmin
      · exact h3 i (by omega)
theorem load_ext {l : List Opn} {st st' : Nat → Int} {k : Int} (h : ∀ i, i < l.length → st' i = st i) : load l st' k (List.range l.length) = load l st k (List.range l.length) :=
  load_other _ fun i hi => h i (List.mem_range.1 hi)
theorem Valid.ext {l : List Opn} {c K : Int} {st st' : Nat → Int} (h : Valid l c K st) (hl : LineOk l c) (he : ∀ i, i < l.length → st' i = st i) : Valid l c K st' :=
  ⟨fun i hi => by rw [he i hi]; exact h.rng i hi, fun i hi a ha => by rw [he i hi, he _ (hl.idx i hi a ha).2]; exact h.ord i hi a ha, fun k => by rw [load_ext he]; exact h.fit k⟩
theorem bal_valid {l : List Opn} {c : Int} (hl : LineOk l c) : Valid l c (nSt l c) (balA l c) := by
  obtain ⟨_, ⟨st, hv, ha⟩, _⟩ := bal_inv hl l.length (Nat.le_refl _)
  exact hv.ext hl fun i hi => (ha i hi).symm
theorem bal_first {l : List Opn} {c : Int} (hl : LineOk l c) {st : Nat → Int} (hv : Valid l c (nSt l c) st) {i : Nat} (hi : i < l.length) (h : ∀ j, j < i → st j = balA l c j) : balA l c i ≤ st i :=
  (bal_inv hl l.length (Nat.le_refl _)).2.2 i hi st hv h
theorem bal_rng {l : List Opn} {c : Int} (hl : LineOk l c) {i : Nat} (hi : i < l.length) : 0 ≤ balA l c i ∧ balA l c i < nSt l c := (bal_valid hl).rng i hi
end Go.Proofs.Ytelgkangojmhdaa
/- line.Balance: the walk. -/
namespace Go.Proofs.Ytelgkangojmhdaa
open Go.RowKit

/-- The operations below k at station s. -/
def grp (at_ : List Int) (k s : Nat) : List Int := ((List.range k).filter fun i => decide (at_.getD i 0 = (s : Int))).map Int.ofNat
theorem grp_set {at_ : List Int} {k x : Nat} (hk : k < at_.length) (s : Nat) : grp (at_.set k (x : Int)) (k + 1) s = if s = x then grp at_ k x ++ [(k : Int)] else grp at_ k s := by
  unfold grp
  rw [List.range_succ, List.filter_append, List.map_append]
  have h1 : ((List.range k).filter fun i => decide ((at_.set k (x : Int)).getD i 0 = (s : Int))) = (List.range k).filter fun i => decide (at_.getD i 0 = (s : Int)) := by
    apply List.filter_congr
    intro i hi
    rw [getD_set _ _ _ _ hk, if_neg (by have := List.mem_range.1 hi; omega)]
  rw [h1]
  have h2 : ((at_.set k (x : Int)).getD k 0) = x := by rw [getD_set _ _ _ _ hk, if_pos rfl]
  by_cases e : s = x
  · subst e
    rw [if_pos rfl, List.filter_cons_of_pos (by rw [h2]; simp)]
    rfl
  · rw [if_neg e, List.filter_cons_of_neg (by rw [h2]; simp; omega)]
    simp
theorem grp_len (at_ : List Int) (k s : Nat) : (grp at_ k s).length ≤ k := by
  unfold grp; rw [List.length_map]; have := List.length_filter_le (fun i => decide (at_.getD i 0 = (s : Int))) (List.range k); simpa using this
def balSt (l : List Opn) (c : Int) : List (List Int) := (List.range (nSt l c)).map (grp (balAt l c l.length) l.length)
def BalPost (l : List Opn) (c : Int) (e : Ending) (w' : World) : Prop :=
  ∃ A n cap, e = .returned (.tuple #[.slice A n cap, .int .i64 (bndErr l c)]) ∧ (bndErr l c ≠ 0 → A = none ∧ n = 0 ∧ cap = 0) ∧ (bndErr l c = 0 → n = nSt l c ∧ n ≤ cap ∧ SRd w' w'.heap.size A (balSt l c))
theorem balPost_bad {l : List Opn} {c x : Int} {w' : World} (h : bndErr l c = x) (hx : x ≠ 0) : BalPost l c (.returned (.tuple #[.slice none 0 0, .int .i64 x])) w' := by
  subst h; exact ⟨none, 0, 0, rfl, fun _ => ⟨rfl, rfl, rfl⟩, fun h => absurd h hx⟩
theorem balPost_ok {l : List Opn} {c : Int} {w' : World} {A : Option Addr} {n cap : Nat} (h : bndErr l c = 0) (hn : n = nSt l c) (hc : n ≤ cap) (hr : SRd w' w'.heap.size A (balSt l c)) : BalPost l c (.returned (.tuple #[.slice A n cap, .int .i64 0])) w' :=
  ⟨A, n, cap, by rw [h], fun h' => absurd h h', fun _ => ⟨hn, hc, hr⟩⟩
theorem noAt_fill {k n : Nat} (h : k < n) : (List.replicate k (-1) ++ List.replicate (n - k) (0 : Int)).set k (-1) = List.replicate (k + 1) (-1) ++ List.replicate (n - (k + 1)) 0 := fillM_next h
theorem balAt_bnd {l : List Opn} {c : Int} (hl : LineOk l c) (hn : l.length ≤ 16) {k : Nat} (hk : k ≤ l.length) : ∀ x ∈ balAt l c k, -1 ≤ x ∧ x ≤ 1000 := by
  intro x hx
  obtain ⟨i, hi, rfl⟩ := List.getElem_of_mem hx
  rw [balAt_len] at hi
  have e : (balAt l c k)[i] = (balAt l c k).getD i 0 := by rw [List.getD_eq_getElem?_getD, List.getElem?_eq_getElem]; rfl
  rw [e]
  by_cases h : i < k
  · rw [balAt_val h hk]
    have := bal_rng hl hi
    have := nSt_le hl
    omega
  · rw [balAt_free (by omega) hi]; omega

theorem Grps.cong {w : World} {base bs K : Nat} {f g : Nat → List Int} (h : Grps w base bs K f) (e : ∀ s, f s = g s) : Grps w base bs K g := by
  have : f = g := funext e
  rw [← this]; exact h
theorem Row.drew {w : World} {b : Nat} {xs : List Int} (h : Row w b xs) : Row w.drew b xs := h
theorem Row.grown {w w' : World} {b : Nat} {xs : List Int} {row : Option Nat} (h : Row w b xs) (hg : w.grownBy w' row) (hne : some b ≠ row) : Row w' b xs := (hg.block b h.lt hne).trans h

end Go.Proofs.Ytelgkangojmhdaa
/- Plain laws of the check of an arrangement. -/
namespace Go.Proofs.Ytelgkangojmhdaa

def flatFrom : Nat → List (List Int) → List (Nat × Int)
  | _, [] => []
  | k, q :: r => q.map (Prod.mk k) ++ flatFrom (k + 1) r
/-- The stations and their operations, one after the other. -/
def flat (ss : List (List Int)) : List (Nat × Int) := flatFrom 0 ss
def stp (n : Nat) (s : Int × List Int) (p : Nat × Int) : Int × List Int :=
  if s.1 ≠ 0 then s else if p.2 < 0 ∨ (n : Int) ≤ p.2 then (3, []) else if s.2.getD p.2.toNat 0 ≠ -1 then (7, []) else (0, s.2.set p.2.toNat p.1)
def puts (n : Nat) (L : List (Nat × Int)) : Int × List Int := L.foldl (stp n) (0, noAt n)
def sumS (l : List Opn) (q : List Int) : Int := (q.map fun i => mn l i.toNat).sum
def overS (l : List Opn) (c : Int) (q : List Int) : Bool := decide (c < sumS l q)
def badA (at_ : List Int) (i : Nat) (a : Int) : Bool := decide (at_.getD i 0 < at_.getD a.toNat 0)
def badO (l : List Opn) (at_ : List Int) (i : Nat) : Bool := (af l i).any (badA at_ i)
def chkErr (l : List Opn) (c : Int) (ss : List (List Int)) : Int :=
  if bndErr l c ≠ 0 then bndErr l c
  else if (puts l.length (flat ss)).1 ≠ 0 then (puts l.length (flat ss)).1
  else if hasB (puts l.length (flat ss)).2 (-1) = true then 20
  else if ss.any (overS l c) = true then 18
  else if (List.range l.length).any (badO l (puts l.length (flat ss)).2) = true then 21
  else 0

theorem flatFrom_append (k : Nat) (a b : List (List Int)) : flatFrom k (a ++ b) = flatFrom k a ++ flatFrom (k + a.length) b := by
  induction a generalizing k with
  | nil => rfl
  | cons x a ih => simp only [List.cons_append, flatFrom, ih, List.length_cons, List.append_assoc]; rw [show k + 1 + a.length = k + (a.length + 1) from by omega]
theorem flat_split {ss : List (List Int)} {k : Nat} {q : List Int} (h : ss[k]? = some q) : flat ss = flat (ss.take k) ++ (q.map (Prod.mk k) ++ flatFrom (k + 1) (ss.drop (k + 1))) := by
  have hk := (List.getElem?_eq_some_iff.1 h).1
  have e : ss = ss.take k ++ (q :: ss.drop (k + 1)) := by
    rw [show q = ss[k] from ((List.getElem?_eq_some_iff.1 h).2).symm, ← List.drop_eq_getElem_cons hk, List.take_append_drop]
  conv => lhs; rw [e]
  unfold flat
  rw [flatFrom_append, List.length_take, Nat.min_eq_left (by omega), Nat.zero_add]
  rfl
theorem flat_take {ss : List (List Int)} {k : Nat} {q : List Int} (h : ss[k]? = some q) : flat (ss.take (k + 1)) = flat (ss.take k) ++ q.map (Prod.mk k) := by
  have hk := (List.getElem?_eq_some_iff.1 h).1
  unfold flat
  rw [List.take_add_one, h, flatFrom_append, List.length_take, Nat.min_eq_left (by omega), Nat.zero_add]
  simp [flatFrom]
theorem puts_append (n : Nat) (L M : List (Nat × Int)) : puts n (L ++ M) = M.foldl (stp n) (puts n L) := by unfold puts; rw [List.foldl_append]
theorem stp_stop {n : Nat} {s : Int × List Int} (h : s.1 ≠ 0) (p : Nat × Int) : stp n s p = s := by unfold stp; rw [if_pos h]
theorem fold_stop {n : Nat} (M : List (Nat × Int)) : ∀ {s : Int × List Int}, s.1 ≠ 0 → M.foldl (stp n) s = s := by
  induction M with
  | nil => intro s _; rfl
  | cons p M ih => intro s h; rw [List.foldl_cons, stp_stop h, ih h]
/-- What has been put after k stations and j operations of the next. -/
def pre (ss : List (List Int)) (q : List Int) (k j : Nat) : List (Nat × Int) := flat (ss.take k) ++ (q.take j).map (Prod.mk k)
theorem pre_zero (ss : List (List Int)) (q : List Int) (k : Nat) : pre ss q k 0 = flat (ss.take k) := by unfold pre; simp
theorem pre_all {ss : List (List Int)} {k : Nat} {q : List Int} (h : ss[k]? = some q) : pre ss q k q.length = flat (ss.take (k + 1)) := by unfold pre; rw [List.take_length, flat_take h]
theorem pre_next {q : List Int} {j : Nat} {x : Int} (ss : List (List Int)) (k : Nat) (h : q[j]? = some x) : pre ss q k (j + 1) = pre ss q k j ++ [(k, x)] := by
  unfold pre; rw [take_snoc' h, List.map_append, List.append_assoc]; rfl
theorem puts_next {q : List Int} {j n : Nat} {x : Int} {at_ : List Int} (ss : List (List Int)) (k : Nat) (h : q[j]? = some x) (hp : puts n (pre ss q k j) = (0, at_)) (h0 : 0 ≤ x) (h1 : x < n) (h2 : at_.getD x.toNat 0 = -1) :
    puts n (pre ss q k (j + 1)) = (0, at_.set x.toNat k) := by
  rw [pre_next ss k h, puts_append, hp]
  simp only [List.foldl_cons, List.foldl_nil]
  unfold stp
  rw [if_neg (by simp), if_neg (by simp; omega), if_neg (by simp; exact h2)]
theorem puts_bad {q : List Int} {j n k : Nat} {x : Int} {at_ : List Int} {ss : List (List Int)} (hk : ss[k]? = some q) (h : q[j]? = some x) (hp : puts n (pre ss q k j) = (0, at_)) (h0 : x < 0 ∨ (n : Int) ≤ x) :
    puts n (flat ss) = (3, []) := by
  have e : flat ss = pre ss q k (j + 1) ++ ((q.drop (j + 1)).map (Prod.mk k) ++ flatFrom (k + 1) (ss.drop (k + 1))) := by
    rw [flat_split hk]
    unfold pre
    rw [List.append_assoc, ← List.append_assoc (List.map (Prod.mk k) (List.take (j + 1) q)), ← List.map_append, List.take_append_drop]
  rw [e, puts_append, pre_next ss k h, puts_append, hp]
  have : stp n (0, at_) (k, x) = (3, []) := by unfold stp; rw [if_neg (by simp), if_pos h0]
  simp only [List.foldl_cons, List.foldl_nil, this]
  exact fold_stop _ (by simp)
theorem puts_twice {q : List Int} {j n k : Nat} {x : Int} {at_ : List Int} {ss : List (List Int)} (hk : ss[k]? = some q) (h : q[j]? = some x) (hp : puts n (pre ss q k j) = (0, at_)) (h0 : 0 ≤ x) (h1 : x < n) (h2 : at_.getD x.toNat 0 ≠ -1) :
    puts n (flat ss) = (7, []) := by
  have e : flat ss = pre ss q k (j + 1) ++ ((q.drop (j + 1)).map (Prod.mk k) ++ flatFrom (k + 1) (ss.drop (k + 1))) := by
    rw [flat_split hk]
    unfold pre
    rw [List.append_assoc, ← List.append_assoc (List.map (Prod.mk k) (List.take (j + 1) q)), ← List.map_append, List.take_append_drop]
  rw [e, puts_append, pre_next ss k h, puts_append, hp]
  have : stp n (0, at_) (k, x) = (7, []) := by unfold stp; rw [if_neg (by simp), if_neg (by simp; omega), if_pos h2]
  simp only [List.foldl_cons, List.foldl_nil, this]
  exact fold_stop _ (by simp)
/-- What a list of stations without an error of its own has put. -/
theorem puts_ok {n : Nat} : ∀ (M L : List (Nat × Int)) (at_ : List Int), puts n (L ++ M) = (0, at_) → ∃ at0, puts n L = (0, at0) := by
  intro M
  induction M with
  | nil => intro L at_ h; rw [List.append_nil] at h; exact ⟨at_, h⟩
  | cons p M ih =>
    intro L at_ h
    obtain ⟨at1, h1⟩ := ih (L ++ [p]) at_ (by rw [List.append_assoc]; exact h)
    rw [puts_append] at h1
    simp only [List.foldl_cons, List.foldl_nil] at h1
    by_cases e : (puts n L).1 = 0
    · exact ⟨(puts n L).2, by rw [← e]⟩
    · rw [stp_stop e] at h1; rw [h1] at e; exact absurd rfl e
theorem stp_ok {n : Nat} {a b : List Int} {p : Nat × Int} (h : stp n (0, a) p = (0, b)) : 0 ≤ p.2 ∧ p.2 < n ∧ a.getD p.2.toNat 0 = -1 ∧ b = a.set p.2.toNat p.1 := by
  unfold stp at h
  rw [if_neg (by simp)] at h
  by_cases h1 : p.2 < 0 ∨ (n : Int) ≤ p.2
  · rw [if_pos h1] at h; cases h
  · rw [if_neg h1] at h
    by_cases h2 : a.getD p.2.toNat 0 ≠ -1
    · rw [if_pos h2] at h; cases h
    · rw [if_neg h2] at h
      cases h
      exact ⟨by omega, by omega, by simpa using h2, rfl⟩
theorem snoc_ind {α : Type} {P : List α → Prop} (h0 : P []) (h1 : ∀ L x, P L → P (L ++ [x])) : ∀ L, P L := by
  intro L
  have : ∀ n, ∀ L : List α, L.length = n → P L := by
    intro n
    induction n with
    | zero => intro L h; rw [List.length_eq_zero_iff.1 h]; exact h0
    | succ n ih =>
      intro L h
      have hne : L ≠ [] := by intro e; rw [e] at h; simp at h
      rw [← List.dropLast_concat_getLast hne]
      exact h1 _ _ (ih _ (by rw [List.length_dropLast]; omega))
  exact this _ L rfl
theorem puts_len {n : Nat} : ∀ (L : List (Nat × Int)) (at_ : List Int), puts n L = (0, at_) → at_.length = n ∧ ∀ p ∈ L, 0 ≤ p.2 ∧ p.2 < n := by
  refine snoc_ind ?_ ?_
  · intro at_ h; unfold puts at h; cases h; exact ⟨by unfold noAt; simp, fun _ h => (by cases h)⟩
  · intro L p ih at_ h
    obtain ⟨at0, h0⟩ := puts_ok [p] L at_ h
    rw [puts_append, h0] at h
    obtain ⟨h1, h2, _, rfl⟩ := stp_ok h
    obtain ⟨g1, g2⟩ := ih at0 h0
    refine ⟨by rw [List.length_set]; exact g1, fun x hx => ?_⟩
    rcases List.mem_append.1 hx with hx | hx
    · exact g2 x hx
    · simp at hx; subst hx; exact ⟨h1, h2⟩
theorem mem_flatFrom {ss : List (List Int)} : ∀ {k s : Nat} {x : Int}, (s, x) ∈ flatFrom k ss ↔ ∃ i q, ss[i]? = some q ∧ s = k + i ∧ x ∈ q := by
  induction ss with
  | nil => intro k s x; simp [flatFrom]
  | cons q0 ss ih =>
    intro k s x
    simp only [flatFrom, List.mem_append, List.mem_map, Prod.mk.injEq, ih]
    constructor
    · rintro (⟨a, h1, rfl, rfl⟩ | ⟨i, q, h1, h2, h3⟩)
      · exact ⟨0, q0, rfl, by omega, h1⟩
      · exact ⟨i + 1, q, by simpa using h1, by omega, h3⟩
    · rintro ⟨i, q, h1, h2, h3⟩
      cases i with
      | zero => simp at h1; subst h1; exact .inl ⟨x, h3, by omega, rfl⟩
      | succ i => exact .inr ⟨i, q, by simpa using h1, by omega, h3⟩
theorem mem_flat {ss : List (List Int)} {s : Nat} {x : Int} : (s, x) ∈ flat ss ↔ ∃ q, ss[s]? = some q ∧ x ∈ q := by
  unfold flat
  rw [mem_flatFrom]
  constructor
  · rintro ⟨i, q, h1, h2, h3⟩; rw [Nat.zero_add] at h2; subst h2; exact ⟨q, h1, h3⟩
  · rintro ⟨q, h1, h3⟩; exact ⟨s, q, h1, by omega, h3⟩

section
variable {l : List Opn} {c : Int} {ss : List (List Int)}
theorem chk_bnd (h : bndErr l c ≠ 0) : chkErr l c ss = bndErr l c := by unfold chkErr; rw [if_pos h]
theorem chk_put {x : Int} {y : List Int} (h : bndErr l c = 0) (hp : puts l.length (flat ss) = (x, y)) (hx : x ≠ 0) : chkErr l c ss = x := by
  unfold chkErr; rw [if_neg (by simp [h]), hp, if_pos hx]
theorem chk_gap {y : List Int} (h : bndErr l c = 0) (hp : puts l.length (flat ss) = (0, y)) (hg : hasB y (-1) = true) : chkErr l c ss = 20 := by
  unfold chkErr; rw [if_neg (by simp [h]), hp, if_neg (by simp), if_pos hg]
theorem chk_over {y : List Int} (h : bndErr l c = 0) (hp : puts l.length (flat ss) = (0, y)) (hg : hasB y (-1) = false) (ho : ss.any (overS l c) = true) : chkErr l c ss = 18 := by
  unfold chkErr; rw [if_neg (by simp [h]), hp, if_neg (by simp), if_neg (by simp [hg]), if_pos ho]
theorem chk_order {y : List Int} (h : bndErr l c = 0) (hp : puts l.length (flat ss) = (0, y)) (hg : hasB y (-1) = false) (ho : ss.any (overS l c) = false) (hb : (List.range l.length).any (badO l y) = true) : chkErr l c ss = 21 := by
  unfold chkErr; rw [if_neg (by simp [h]), hp, if_neg (by simp), if_neg (by simp [hg]), if_neg (by simp [ho]), if_pos hb]
theorem chk_ok {y : List Int} (h : bndErr l c = 0) (hp : puts l.length (flat ss) = (0, y)) (hg : hasB y (-1) = false) (ho : ss.any (overS l c) = false) (hb : (List.range l.length).any (badO l y) = false) : chkErr l c ss = 0 := by
  unfold chkErr; rw [if_neg (by simp [h]), hp, if_neg (by simp), if_neg (by simp [hg]), if_neg (by simp [ho]), if_neg (by simp [hb])]
theorem chk_zero (h : chkErr l c ss = 0) : bndErr l c = 0 ∧ ∃ y, puts l.length (flat ss) = (0, y) ∧ hasB y (-1) = false ∧ ss.any (overS l c) = false ∧ (List.range l.length).any (badO l y) = false := by
  unfold chkErr at h
  by_cases h1 : bndErr l c ≠ 0
  · rw [if_pos h1] at h; exact absurd h h1
  · rw [if_neg h1] at h
    by_cases h2 : (puts l.length (flat ss)).1 ≠ 0
    · rw [if_pos h2] at h; exact absurd h h2
    · rw [if_neg h2] at h
      by_cases h3 : hasB (puts l.length (flat ss)).2 (-1) = true
      · rw [if_pos h3] at h; cases h
      · rw [if_neg h3] at h
        by_cases h4 : ss.any (overS l c) = true
        · rw [if_pos h4] at h; cases h
        · rw [if_neg h4] at h
          by_cases h5 : (List.range l.length).any (badO l (puts l.length (flat ss)).2) = true
          · rw [if_pos h5] at h; cases h
          · have e : (puts l.length (flat ss)).1 = 0 := by simpa using h2
            exact ⟨by simpa using h1, (puts l.length (flat ss)).2, by rw [← e], by simpa using h3, by simpa using h4, by simpa using h5⟩
end
theorem any_snoc {α : Type} {q : List α} {k : Nat} {x : α} {p : α → Bool} (h : q[k]? = some x) (h1 : (q.take k).any p = false) (h2 : p x = false) : (q.take (k + 1)).any p = false := by
  rw [List.take_add_one, h]; simp only [Option.toList, List.any_append, h1, Bool.false_or, List.any_cons, List.any_nil, Bool.or_false]; exact h2
theorem any_hit {α : Type} {q : List α} {k : Nat} {x : α} {p : α → Bool} (h : q[k]? = some x) (h2 : p x = true) : q.any p = true := by
  rw [List.any_eq_true]; exact ⟨x, List.mem_of_getElem? h, h2⟩
theorem any_done {α : Type} {q : List α} {p : α → Bool} (h1 : (q.take q.length).any p = false) : q.any p = false := by rwa [List.take_length] at h1
theorem range_any_snoc {p : Nat → Bool} {k : Nat} (h1 : (List.range k).any p = false) (h2 : p k = false) : (List.range (k + 1)).any p = false := by
  rw [List.range_succ, List.any_append, h1]; simp [h2]
theorem range_any_hit {p : Nat → Bool} {k n : Nat} (hk : k < n) (h2 : p k = true) : (List.range n).any p = true := by
  rw [List.any_eq_true]; exact ⟨k, List.mem_range.2 hk, h2⟩
theorem sumS_snoc {l : List Opn} {q : List Int} {j : Nat} {x : Int} (h : q[j]? = some x) : sumS l (q.take (j + 1)) = sumS l (q.take j) + mn l x.toNat := by
  unfold sumS; rw [take_snoc' h]; simp
theorem sumS_bnd {l : List Opn} (hsd : Sound l) {q : List Int} (hq : ∀ x ∈ q, 0 ≤ x ∧ x < l.length) (hl : q.length ≤ 1000) (j : Nat) : 0 ≤ sumS l (q.take j) ∧ sumS l (q.take j) ≤ 10000000 := by
  have key : ∀ p : List Int, (∀ x ∈ p, 0 ≤ x ∧ x < l.length) → 0 ≤ sumS l p ∧ sumS l p ≤ 10000 * p.length := by
    intro p
    induction p with
    | nil => intro _; exact ⟨by simp [sumS], by simp [sumS]⟩
    | cons x p ih =>
      intro h
      have h1 := ih fun y hy => h y (by simp [hy])
      have h2 := h x (by simp)
      have h3 := hsd.mins _ (getD_mem (show x.toNat < l.length by omega))
      have e : sumS l (x :: p) = mn l x.toNat + sumS l p := by unfold sumS; simp
      rw [e, List.length_cons]
      unfold mn
      omega
  have h1 := key (q.take j) fun x hx => hq x (List.mem_of_mem_take hx)
  have h2 : (q.take j).length ≤ 1000 := by rw [List.length_take]; omega
  omega
/-- What the laws' guard gives of stations. -/
def SSmall (ss : List (List Int)) : Prop := ss.length ≤ 1000 ∧ ∀ q ∈ ss, q.length ≤ 1000
end Go.Proofs.Ytelgkangojmhdaa
