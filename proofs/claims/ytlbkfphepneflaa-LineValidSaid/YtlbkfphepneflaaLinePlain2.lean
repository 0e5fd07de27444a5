/- Plain laws of line balancing: ways and valid arrangements. No program in sight. -/
import Derived.Test.YtlbkfphepneflaaLinePlain
namespace Go.Proofs.Ytlbkfphepneflaa

/-- The minutes at station k of the operations in a list. -/
def load (l : List Opn) (st : Nat → Int) (k : Int) : List Nat → Int
  | [] => 0
  | i :: p => (if st i = k then mn l i else 0) + load l st k p
structure Valid (l : List Opn) (c K : Int) (st : Nat → Int) : Prop where
  rng : ∀ i, i < l.length → 0 ≤ st i ∧ st i < K
  ord : ∀ i, i < l.length → ∀ a ∈ af l i, st a.toNat ≤ st i
  fit : ∀ k, load l st k (List.range l.length) ≤ c
/-- The arrangement has the stations that are given. -/
def Agrees (l : List Opn) (at_ : List Int) (st : Nat → Int) : Prop := ∀ i, i < l.length → at_.getD i 0 = -1 ∨ st i = at_.getD i 0

theorem load_perm {l : List Opn} {st : Nat → Int} {k : Int} {p q : List Nat} (h : p.Perm q) : load l st k p = load l st k q := by
  induction h with
  | nil => rfl
  | cons x _ ih => unfold load; rw [ih]
  | swap x y p => simp only [load]; omega
  | trans _ _ h1 h2 => rw [h1, h2]
theorem load_append (l : List Opn) (st : Nat → Int) (k : Int) (p q : List Nat) : load l st k (p ++ q) = load l st k p + load l st k q := by
  induction p with
  | nil => simp [load]
  | cons x p ih => simp only [List.cons_append, load, ih]; omega
theorem load_nonneg {l : List Opn} {c : Int} (hl : LineOk l c) (st : Nat → Int) (k : Int) : ∀ p : List Nat, (∀ i ∈ p, i < l.length) → 0 ≤ load l st k p := by
  intro p
  induction p with
  | nil => intro _; simp [load]
  | cons x p ih =>
    intro h
    have := ih fun i hi => h i (by simp [hi])
    have hx := hl.m1 x (h x (by simp))
    unfold load; split <;> omega
theorem load_other {l : List Opn} {st st' : Nat → Int} {k : Int} : ∀ p : List Nat, (∀ i ∈ p, st' i = st i) → load l st' k p = load l st k p := by
  intro p
  induction p with
  | nil => intro _; rfl
  | cons x p ih =>
    intro h
    unfold load
    rw [ih fun i hi => h i (by simp [hi]), h x (by simp)]

/-! ## The set of a way -/
theorem run_set {l : List Opn} {c : Int} {at_ : List Int} {lim : Int} : ∀ {p : List Nat} {t : Nat} {v : Int}, run l c at_ lim p = some (t, v) →
    p.Nodup ∧ (∀ i ∈ p, i < l.length) ∧ ∀ i, t.testBit i = true ↔ i ∈ p := by
  intro p
  induction p with
  | nil => intro t v h; simp [run] at h; rw [← h.1]; exact ⟨List.nodup_nil, fun _ h => (by cases h), fun i => by simp⟩
  | cons x p ih =>
    intro t v h
    obtain ⟨s, e, hr, hi, h4, _, _, rfl, _⟩ := run_cons h
    obtain ⟨a, b, d⟩ := ih hr
    have hx : x ∉ p := fun hm => by have := (d x).2 hm; rw [ready_bit h4] at this; cases this
    refine ⟨List.nodup_cons.2 ⟨hx, a⟩, ?_, ?_⟩
    · intro i hm
      rcases List.mem_cons.1 hm with rfl | hm
      · exact hi
      · exact b i hm
    · intro i
      rw [nxt_bit, Bool.or_eq_true, d i, decide_eq_true_iff, List.mem_cons]
      exact ⟨fun h => h.elim .inr fun e => .inl e.symm, fun h => h.elim (fun e => .inr e.symm) .inl⟩
theorem all_bit (n i : Nat) : (2 ^ n - 1).testBit i = decide (i < n) := Nat.testBit_two_pow_sub_one n i
theorem run_all {l : List Opn} {c : Int} {at_ : List Int} {lim : Int} {p : List Nat} {v : Int} (h : run l c at_ lim p = some (2 ^ l.length - 1, v)) : p.Perm (List.range l.length) := by
  obtain ⟨a, b, d⟩ := run_set h
  rw [List.perm_ext_iff_of_nodup a List.nodup_range]
  intro i
  rw [← d i, all_bit, decide_eq_true_iff, List.mem_range]
theorem ready_of {l : List Opn} {s i : Nat} (h1 : s.testBit i = false) (h2 : ∀ a ∈ af l i, s.testBit a.toNat = true) : readyS l s i = true := by
  unfold readyS; rw [h1, List.all_eq_true.2 h2]; rfl
theorem ready_after {l : List Opn} {s i : Nat} (h : readyS l s i = true) : ∀ a ∈ af l i, s.testBit a.toNat = true := by
  unfold readyS at h; rw [Bool.and_eq_true, List.all_eq_true] at h; exact h.2

/-! ## From a way to an arrangement -/
theorem run_valid {l : List Opn} {c : Int} {at_ : List Int} {lim : Int} (hl : LineOk l c) (hat : ∀ i, i < l.length → at_.getD i 0 = -1 ∨ 0 ≤ at_.getD i 0) : ∀ (p : List Nat) (t : Nat) (e : Int), run l c at_ lim p = some (t, e) →
    0 ≤ e ∧ ∃ st : Nat → Int, (∀ i ∈ p, 0 ≤ st i ∧ st i * c < e ∧ (at_.getD i 0 = -1 ∨ st i = at_.getD i 0) ∧ ∀ a ∈ af l i, st a.toNat ≤ st i) ∧ ∀ k, 0 ≤ k → load l st k p ≤ c ∧ load l st k p ≤ max 0 (e - k * c) := by
  intro p
  induction p with
  | nil =>
    intro t e h
    simp [run] at h
    rw [← h.2]
    exact ⟨Int.le_refl _, fun _ => 0, fun _ h => (by cases h), fun k _ => by have := hl.c1; simp [load]; omega⟩
  | cons x p ih =>
    intro t v h
    obtain ⟨s, e, hr, hi, h4, h5, _, rfl, rfl⟩ := run_cons h
    obtain ⟨h0, st, g1, g2⟩ := ih s e hr
    obtain ⟨na, nb, nd⟩ := run_set hr
    have hm := hl.m1 x hi
    have hc := hl.c1
    have hx : x ∉ p := fun hm => by have := (nd x).2 hm; rw [ready_bit h4] at this; cases this
    -- the station of x
    have hq0 : 0 ≤ addSt e c (mn l x) (at_.getD x 0) ∧ (at_.getD x 0 = -1 ∨ addSt e c (mn l x) (at_.getD x 0) = at_.getD x 0) := by
      rcases hat x hi with e1 | e1
      · refine ⟨?_, .inl e1⟩
        rw [e1, addSt_free]
        have := Int.ediv_nonneg h0 (b := c) (by omega)
        split <;> omega
      · rw [addSt_giv (by omega)]; exact ⟨e1, .inr rfl⟩
    have hok : addV e c (mn l x) (at_.getD x 0) ≤ (addSt e c (mn l x) (at_.getD x 0) + 1) * c := by unfold addOk at h5; simpa using h5
    have hv : addV e c (mn l x) (at_.getD x 0) = max e (addSt e c (mn l x) (at_.getD x 0) * c) + mn l x := rfl
    generalize addSt e c (mn l x) (at_.getD x 0) = q at *
    generalize addV e c (mn l x) (at_.getD x 0) = v at *
    rw [succ_mul'] at hok
    refine ⟨by omega, fun i => if i = x then q else st i, ?_, ?_⟩
    · intro i hi'
      have hst : ∀ j ∈ p, (if j = x then q else st j) = st j := fun j hj => if_neg (show ¬ j = x from fun e => hx (e ▸ hj))
      rcases List.mem_cons.1 hi' with rfl | hi'
      · simp only [if_pos]
        refine ⟨hq0.1, by omega, hq0.2, fun a ha => ?_⟩
        have hap := (nd a.toNat).1 (ready_after h4 a ha)
        rw [hst _ hap]
        have := (g1 _ hap).2.1
        have : st a.toNat * c < (q + 1) * c := by rw [succ_mul']; omega
        have := lt_of_mul this hc
        omega
      · obtain ⟨k1, k2, k3, k4⟩ := g1 i hi'
        simp only [hst i hi']
        refine ⟨k1, by omega, k3, fun a ha => ?_⟩
        by_cases e1 : a.toNat = x
        · -- x in the After of an operation before it: it would be done
          exfalso
          have : ∀ {p : List Nat} {t : Nat} {v : Int}, run l c at_ lim p = some (t, v) → ∀ i ∈ p, ∀ a ∈ af l i, a.toNat ∈ p := by
            intro p
            induction p with
            | nil => intro t v _ i hi; cases hi
            | cons y p ih2 =>
              intro t v h i hi a ha
              obtain ⟨s', e', hr', _, h4', _, _, _, _⟩ := run_cons h
              rcases List.mem_cons.1 hi with rfl | hi
              · exact List.mem_cons_of_mem _ (((run_set hr').2.2 _).1 (ready_after h4' a ha))
              · exact List.mem_cons_of_mem _ (ih2 hr' i hi a ha)
          exact hx (e1 ▸ this hr i hi' a ha)
        · rw [if_neg e1]; exact k4 a ha
    · intro k hk
      obtain ⟨b1, b2⟩ := g2 k hk
      have hlo : load l (fun i => if i = x then q else st i) k p = load l st k p := load_other p fun i hi => if_neg (show ¬ i = x from fun e => hx (e ▸ hi))
      unfold load
      rw [hlo]
      simp only [if_pos]
      by_cases e1 : q = k
      · subst e1; rw [if_pos rfl]; omega
      · rw [if_neg e1]; omega
theorem valid_of_run {l : List Opn} {c K : Int} {at_ : List Int} {lim : Int} (hl : LineOk l c) (hat : ∀ i, i < l.length → at_.getD i 0 = -1 ∨ 0 ≤ at_.getD i 0) {p : List Nat} {e : Int}
    (h : run l c at_ lim p = some (2 ^ l.length - 1, e)) (he : e ≤ K * c) : ∃ st, Valid l c K st ∧ Agrees l at_ st := by
  obtain ⟨h0, st, g1, g2⟩ := run_valid hl hat p _ e h
  have hp := run_all h
  have hm : ∀ i, i < l.length → i ∈ p := fun i hi => hp.mem_iff.2 (List.mem_range.2 hi)
  refine ⟨st, ⟨fun i hi => ?_, fun i hi => (g1 i (hm i hi)).2.2.2, fun k => ?_⟩, fun i hi => (g1 i (hm i hi)).2.2.1⟩
  · obtain ⟨a, b, _, _⟩ := g1 i (hm i hi)
    exact ⟨a, lt_of_mul (show st i * c < K * c by omega) hl.c1⟩
  · rw [← load_perm hp]
    by_cases hk : 0 ≤ k
    · exact (g2 k hk).1
    · have : load l st k p = 0 := by
        have : ∀ q : List Nat, (∀ i ∈ q, 0 ≤ st i) → load l st k q = 0 := by
          intro q
          induction q with
          | nil => intro _; rfl
          | cons x q ih =>
            intro h
            unfold load
            rw [ih fun i hi => h i (by simp [hi]), if_neg (by have := h x (by simp); omega)]; rfl
        exact this p fun i hi => (g1 i hi).1
      rw [this]; have := hl.c1; omega

/-! ## From an arrangement to a way -/
def leq (st : Nat → Int) (pos : Nat → Nat) (i j : Nat) : Bool := decide (st i < st j ∨ (st i = st j ∧ pos i ≤ pos j))
theorem load_reverse (l : List Opn) (st : Nat → Int) (k : Int) (p : List Nat) : load l st k p.reverse = load l st k p := load_perm p.reverse_perm
theorem load_sub {l : List Opn} {c : Int} (hl : LineOk l c) (st : Nat → Int) (k : Int) (u v : List Nat) (hv : ∀ i ∈ v, i < l.length) : load l st k u ≤ load l st k (u ++ v) := by
  rw [load_append]; have := load_nonneg hl st k v hv; omega
theorem run_of_valid {l : List Opn} {c K : Int} {at_ : List Int} {lim : Int} {st : Nat → Int} (hl : LineOk l c) (hK : 0 ≤ K) (hv : Valid l c K st) (ha : Agrees l at_ st) (hlim : K * c ≤ lim) :
    ∃ p e, run l c at_ lim p = some (2 ^ l.length - 1, e) ∧ e ≤ K * c := by
  obtain ⟨pos, p1, p2, p3⟩ := hl.pos
  have hc := hl.c1
  obtain ⟨q, hq⟩ : ∃ q, q = (List.range l.length).mergeSort (leq st pos) := ⟨_, rfl⟩
  have hperm : q.Perm (List.range l.length) := by rw [hq]; exact List.mergeSort_perm _ _
  have hsort : q.Pairwise (fun i j => leq st pos i j = true) := by
    rw [hq]
    refine List.pairwise_mergeSort ?_ ?_ _
    · intro a b d; unfold leq; simp only [decide_eq_true_iff]; omega
    · intro a b; unfold leq; simp only [Bool.or_eq_true, decide_eq_true_iff]; omega
  have hmem : ∀ i, i ∈ q ↔ i < l.length := fun i => by rw [hperm.mem_iff, List.mem_range]
  have hnd : q.Nodup := hperm.nodup_iff.2 List.nodup_range
  have hlen : q.length = l.length := by rw [hperm.length_eq, List.length_range]
  have key : ∀ m, m ≤ l.length → ∃ s e, run l c at_ lim (q.take m).reverse = some (s, e) ∧ ∀ k, 0 ≤ k → (∀ j ∈ q.take m, st j ≤ k) → e ≤ k * c + load l st k (q.take m) := by
    intro m
    induction m with
    | zero => intro _; exact ⟨0, 0, rfl, fun k hk _ => by simp only [List.take_zero, load]; have := Int.mul_nonneg hk (show 0 ≤ c by omega); omega⟩
    | succ m ih =>
      intro hm
      obtain ⟨s, e, hr, hb⟩ := ih (by omega)
      have hml : m < q.length := by omega
      have hget : q[m]? = some q[m] := List.getElem?_eq_getElem hml
      have htake : q.take (m + 1) = q.take m ++ [q[m]] := by rw [List.take_add_one, hget]; rfl
      have hsplit : q = q.take m ++ (q[m] :: q.drop (m + 1)) := by rw [← List.drop_eq_getElem_cons hml, List.take_append_drop]
      generalize q[m] = x at *
      generalize q.take m = u at *
      generalize q.drop (m + 1) = r at *
      have hxl : x < l.length := (hmem x).1 (by rw [hsplit]; simp)
      rw [hsplit, List.pairwise_append] at hsort
      rw [hsplit, List.nodup_append] at hnd
      obtain ⟨_, hs2, hs3⟩ := hsort
      rw [List.pairwise_cons] at hs2
      obtain ⟨_, bs, ds⟩ := run_set hr
      have hule : ∀ j ∈ u, st j ≤ st x := by
        intro j hj
        have := hs3 j hj x (by simp)
        unfold leq at this; simp only [decide_eq_true_iff] at this; omega
      have hxu : x ∉ u := fun h => hnd.2.2 x h x (by simp) rfl
      have hbit : s.testBit x = false := by
        cases hh : s.testBit x with
        | false => rfl
        | true => exact absurd (List.mem_reverse.1 ((ds x).1 hh)) hxu
      have haft : ∀ a ∈ af l x, s.testBit a.toNat = true := by
        intro a ha'
        have hal := (hl.idx x hxl a ha').2
        have h1 := hv.ord x hxl a ha'
        have h2 := p3 x hxl a ha'
        rw [ds, List.mem_reverse]
        have hin : a.toNat ∈ u ++ x :: r := by rw [← hsplit]; exact (hmem _).2 hal
        rcases List.mem_append.1 hin with h | h
        · exact h
        · exfalso
          rcases List.mem_cons.1 h with h | h
          · rw [h] at h2; omega
          · have := hs2.1 _ h
            unfold leq at this; simp only [decide_eq_true_iff] at this; omega
      have hready := ready_of hbit haft
      have hst := hv.rng x hxl
      have hmx := hl.m1 x hxl
      have hT := hb (st x) hst.1 hule
      have hul : ∀ i ∈ u, i < l.length := fun i hi => (hmem i).1 (by rw [hsplit]; simp [hi])
      have hrl : ∀ i ∈ r, i < l.length := fun i hi => (hmem i).1 (by rw [hsplit]; simp [hi])
      have hl0 := load_nonneg hl st (st x) u hul
      have hload : load l st (st x) u + mn l x ≤ c := by
        have h1 := hv.fit (st x)
        rw [← load_perm hperm, hsplit] at h1
        have h2 : load l st (st x) (u ++ x :: r) = load l st (st x) u + (mn l x + load l st (st x) r) := by
          rw [load_append]; simp [load]
        have h3 := load_nonneg hl st (st x) r hrl
        omega
      have hadd : addOk e c (mn l x) (at_.getD x 0) = true ∧ addV e c (mn l x) (at_.getD x 0) ≤ st x * c + load l st (st x) u + mn l x := by
        rcases ha x hxl with h1 | h1
        · rw [h1]
          have h2 := addMono hc hmx.2 hT (addFree hc hmx.2)
          refine ⟨h2.1, Int.le_trans h2.2 ?_⟩
          rw [addFree_v hc]
          have hd : (st x * c + load l st (st x) u) / c = st x := by
            rw [Int.add_comm, Int.add_mul_ediv_right _ _ (by omega), Int.ediv_eq_zero_of_lt hl0 (by omega)]; omega
          rw [hd]
          split <;> omega
        · rw [← h1]
          unfold addOk addV
          rw [addSt_giv (by omega), succ_mul']
          simp only [decide_eq_true_iff]
          omega
      have hvK : addV e c (mn l x) (at_.getD x 0) ≤ K * c := by
        have := mul_le (c := c) (show st x + 1 ≤ K by omega) hc
        rw [succ_mul'] at this; omega
      refine ⟨_, _, by rw [htake, List.reverse_append]; exact run_step hr hxl hready hadd.1 (by omega), ?_⟩
      intro k hk hall
      rw [htake] at hall ⊢
      rw [load_append]
      simp only [load]
      have hxk := hall x (by simp)
      by_cases e1 : st x = k
      · subst e1; rw [if_pos rfl]; omega
      · rw [if_neg e1]
        have := mul_le (c := c) (show st x + 1 ≤ k by omega) hc
        rw [succ_mul'] at this
        have := load_nonneg hl st k u hul
        omega
  obtain ⟨s, e, hr, hb⟩ := key l.length (Nat.le_refl _)
  have htk : q.take l.length = q := by rw [← hlen, List.take_length]
  rw [htk] at hr hb
  obtain ⟨na, nb, nd⟩ := run_set hr
  have hs : s = 2 ^ l.length - 1 := by
    apply Nat.eq_of_testBit_eq
    intro i
    rw [all_bit, Bool.eq_iff_iff, nd i, List.mem_reverse, hmem, decide_eq_true_iff]
  subst hs
  refine ⟨_, _, hr, ?_⟩
  by_cases h0 : K = 0
  · -- no station: no operation
    have hz : l.length = 0 := by
      by_cases h : l.length = 0
      · exact h
      · have := hv.rng 0 (by omega); omega
    have hqn : q = [] := List.length_eq_zero_iff.1 (by omega)
    rw [hqn] at hb
    have := hb 0 (Int.le_refl _) (fun _ h => (by cases h))
    simp only [load] at this
    rw [h0]; omega
  · have := hb (K - 1) (by omega) (fun j hj => by have := hv.rng j ((hmem j).1 hj); omega)
    have hf := hv.fit (K - 1)
    rw [← load_perm hperm] at hf
    have h2 := succ_mul' (K - 1) c
    rw [show K - 1 + 1 = K by omega] at h2
    omega
end Go.Proofs.Ytlbkfphepneflaa
