/- Plain laws of line balancing: the search of the reference finds the same arrangement; the bound is one. -/
import Derived.Test.YtlbkfphepneflaaSearch
namespace Go.Proofs.Ytlbkfphepneflaa

/-- Valid as far as the operations below i go. -/
structure PV (l : List Opn) (c K : Int) (i : Nat) (st : Nat → Int) : Prop where
  rng : ∀ k, k < i → 0 ≤ st k ∧ st k < K
  ord : ∀ k, k < i → ∀ a ∈ af l k, a.toNat < i → st a.toNat ≤ st k
  fit : ∀ s, load l st s (List.range i) ≤ c
theorem load_succ (l : List Opn) (st : Nat → Int) (s : Int) (k : Nat) : load l st s (List.range (k + 1)) = load l st s (List.range k) + (if st k = s then mn l k else 0) := by
  rw [List.range_succ, load_append]; simp only [load]; omega
theorem load_le {l : List Opn} {c : Int} (hl : LineOk l c) (st : Nat → Int) (s : Int) {i n : Nat} (hin : i ≤ n) (hn : n ≤ l.length) : load l st s (List.range i) ≤ load l st s (List.range n) := by
  induction n with
  | zero => rw [show i = 0 from by omega]; exact Int.le_refl _
  | succ n ih =>
    by_cases e : i = n + 1
    · rw [e]; exact Int.le_refl _
    · have := ih (by omega) (by omega)
      have := hl.m1 n (by omega)
      rw [load_succ]
      split <;> omega
theorem Valid.pv {l : List Opn} {c K : Int} {st : Nat → Int} (h : Valid l c K st) (hl : LineOk l c) {i : Nat} (hi : i ≤ l.length) : PV l c K i st :=
  ⟨fun k hk => h.rng k (by omega), fun k hk a ha _ => h.ord k (by omega) a ha, fun s => Int.le_trans (load_le hl st s hi (Nat.le_refl _)) (h.fit s)⟩
theorem PV.valid {l : List Opn} {c K : Int} {st : Nat → Int} (h : PV l c K l.length st) (hl : LineOk l c) : Valid l c K st :=
  ⟨h.rng, fun k hk a ha => h.ord k hk a ha (hl.idx k hk a ha).2, h.fit⟩
theorem fitSum_load (l : List Opn) (at_ : List Int) (s : Int) (st : Nat → Int) : ∀ i, (∀ k, k < i → st k = at_.getD k 0) → fitSum l at_ s i = load l st s (List.range i) := by
  intro i
  induction i with
  | zero => intro _; rfl
  | succ i ih =>
    intro h
    rw [load_succ, ← ih fun k hk => h k (by omega), h i (by omega)]
    rfl
theorem after_ne {l : List Opn} {c : Int} (hl : LineOk l c) {i : Nat} (hi : i < l.length) {a : Int} (ha : a ∈ af l i) : a.toNat ≠ i := by
  obtain ⟨pos, _, _, p3⟩ := hl.pos
  intro e
  have := p3 i hi a ha
  rw [e] at this
  omega
theorem hasB_nat {q : List Int} {k : Nat} : hasB q (k : Int) = true ↔ (k : Int) ∈ q := hasB_mem
theorem fit_iff {l : List Opn} {c K : Int} (hl : LineOk l c) {at_ : List Int} {st : Nat → Int} {i : Nat} (hi : i < l.length) (hat : ∀ k, k < i → st k = at_.getD k 0) (hpv : PV l c K i st) (h0 : 0 ≤ st i) (hK : st i < K) :
    fitB l c at_ i (st i) = true ↔ PV l c K (i + 1) st := by
  unfold fitB
  rw [Bool.and_eq_true, Bool.not_eq_true', decide_eq_true_iff, List.any_eq_false, fitSum_load l at_ (st i) st i hat]
  constructor
  · rintro ⟨h1, h2⟩
    have hb : ∀ k, k < i → ¬ ((k : Int) ∈ af l i ∧ st i < st k) ∧ ¬ ((i : Int) ∈ af l k ∧ st k < st i) := by
      intro k hk
      have := h1 k (List.mem_range.2 hk)
      unfold fitBad at this
      rw [← hat k hk] at this
      simp only [Bool.or_eq_true, Bool.and_eq_true, decide_eq_true_iff, hasB_nat] at this
      exact ⟨fun h => this (.inl h), fun h => this (.inr h)⟩
    refine ⟨fun k hk => ?_, fun k hk a ha hak => ?_, fun s => ?_⟩
    · by_cases e : k = i
      · subst e; exact ⟨h0, hK⟩
      · exact hpv.rng k (by omega)
    · have ha0 := (hl.idx k (by omega) a ha).1
      by_cases e : k = i
      · subst e
        have hne := after_ne hl hi ha
        have := (hb a.toNat (by omega)).1
        rw [show ((a.toNat : Nat) : Int) = a from by omega] at this
        by_cases hle : st a.toNat ≤ st k
        · exact hle
        · exact absurd ⟨ha, by omega⟩ this
      · by_cases e2 : a.toNat = i
        · have := (hb k (by omega)).2
          rw [show (i : Int) = a from by omega] at this
          rw [e2]
          by_cases hle : st i ≤ st k
          · exact hle
          · exact absurd ⟨ha, by omega⟩ this
        · exact hpv.ord k (by omega) a ha (by omega)
    · rw [load_succ]
      by_cases e : st i = s
      · rw [if_pos e, ← e]; omega
      · rw [if_neg e]; have := hpv.fit s; omega
  · intro h
    refine ⟨fun k hk => ?_, ?_⟩
    · have hk' := List.mem_range.1 hk
      unfold fitBad
      rw [← hat k hk']
      simp only [Bool.or_eq_true, Bool.and_eq_true, decide_eq_true_iff, hasB_nat]
      rintro (⟨g1, g2⟩ | ⟨g1, g2⟩)
      · have := h.ord i (by omega) _ g1 (by simp; omega)
        simp at this
        omega
      · have := h.ord k (by omega) _ g1 (by simp)
        simp at this
        omega
    · have := h.fit (st i)
      rw [load_succ, if_pos rfl] at this
      omega
theorem getD_snoc {at_ : List Int} {s : Int} {k : Nat} : (at_ ++ [s]).getD k 0 = if k < at_.length then at_.getD k 0 else if k = at_.length then s else 0 := by
  rw [List.getD_eq_getElem?_getD, List.getD_eq_getElem?_getD]
  by_cases h : k < at_.length
  · rw [if_pos h, List.getElem?_append_left h]
  · rw [if_neg h, List.getElem?_append_right (by omega)]
    by_cases e : k = at_.length
    · subst e; simp
    · rw [if_neg e, List.getElem?_eq_none (by simp; omega)]; rfl
theorem findSome_none {α : Type} {p : Nat → Option α} {m : Nat} (h : (List.range m).findSome? p = none) {j : Nat} (hj : j < m) : p j = none := by
  rw [List.findSome?_eq_none_iff] at h
  exact h j (List.mem_range.2 hj)
theorem findSome_first {α : Type} {p : Nat → Option α} {m : Nat} {x : α} (h : (List.range m).findSome? p = some x) : ∃ s, s < m ∧ p s = some x ∧ ∀ j, j < s → p j = none := by
  induction m with
  | zero => simp at h
  | succ m ih =>
    rw [List.range_succ, List.findSome?_append] at h
    cases hf : (List.range m).findSome? p with
    | none =>
      rw [hf] at h
      simp at h
      exact ⟨m, by omega, h, fun j hj => findSome_none hf hj⟩
    | some y =>
      rw [hf] at h
      simp at h
      subst h
      obtain ⟨s, h1, h2, h3⟩ := ih hf
      exact ⟨s, by omega, h2, h3⟩
/-- q is the first of the valid arrangements that begin as at_ does. -/
def FirstOf (l : List Opn) (c K : Int) (i : Nat) (at_ q : List Int) : Prop :=
  q.length = l.length ∧ (∀ j, j < i → q.getD j 0 = at_.getD j 0) ∧ Valid l c K (fun j => q.getD j 0) ∧
  ∀ st, Valid l c K st → (∀ j, j < i → st j = at_.getD j 0) → ∀ k, k < l.length → (∀ j, j < k → st j = q.getD j 0) → q.getD k 0 ≤ st k
theorem srch_law {l : List Opn} {c : Int} {m : Nat} (hl : LineOk l c) : ∀ (f : Nat) (at_ : List Int), at_.length + f = l.length → PV l c m at_.length (fun j => at_.getD j 0) →
    (srch l c m f at_ = none → ∀ st, Valid l c m st → (∀ j, j < at_.length → st j = at_.getD j 0) → False) ∧ ∀ q, srch l c m f at_ = some q → FirstOf l c m at_.length at_ q := by
  intro f
  induction f with
  | zero =>
    intro at_ hlen hpv
    refine ⟨fun h => (by cases h), fun q hq => ?_⟩
    cases hq
    have hle : at_.length = l.length := by omega
    rw [hle] at hpv
    exact ⟨hle, fun _ _ => rfl, hpv.valid hl, fun st _ ha k hk _ => by rw [ha k (by omega)]; exact Int.le_refl _⟩
  | succ f ih =>
    intro at_ hlen hpv
    have hi : at_.length < l.length := by omega
    obtain ⟨p, hp⟩ : ∃ p : Nat → Option (List Int), p = fun (s : Nat) => if fitB l c at_ at_.length s = true then srch l c m f (at_ ++ [(s : Int)]) else none := ⟨_, rfl⟩
    have hs : srch l c m (f + 1) at_ = (List.range m).findSome? p := by rw [hp]; rfl
    -- the next operation
    have hlen1 : ∀ s : Int, (at_ ++ [s]).length = at_.length + 1 := fun s => by simp
    have hpn : ∀ s : Nat, s < m → fitB l c at_ at_.length s = true → PV l c m (at_.length + 1) (fun j => (at_ ++ [(s : Int)]).getD j 0) := by
      intro s hsm hf
      obtain ⟨g, hg⟩ : ∃ g : Nat → Int, g = fun j => (at_ ++ [(s : Int)]).getD j 0 := ⟨_, rfl⟩
      rw [← hg]
      have e : g at_.length = (s : Int) := by rw [hg]; show (at_ ++ [(s : Int)]).getD at_.length 0 = _; rw [getD_snoc, if_neg (by omega), if_pos rfl]
      have hag : ∀ k, k < at_.length → g k = at_.getD k 0 := fun k hk => by rw [hg]; show (at_ ++ [(s : Int)]).getD k 0 = _; rw [getD_snoc, if_pos hk]
      refine (fit_iff hl hi hag ⟨fun k hk => ?_, fun k hk a ha hak => ?_, fun t => ?_⟩ (by rw [e]; omega) (by rw [e]; omega)).1 (by rw [e]; exact hf)
      · rw [hag k hk]; exact hpv.rng k hk
      · rw [hag k hk, hag _ hak]; exact hpv.ord k hk a ha hak
      · rw [load_other (st := fun j => at_.getD j 0) _ fun k hk => hag k (List.mem_range.1 hk)]; exact hpv.fit t
    -- what an arrangement that goes on from at_ does
    have hgo : ∀ st, Valid l c m st → (∀ j, j < at_.length → st j = at_.getD j 0) → ∃ s : Nat, s < m ∧ st at_.length = s ∧ fitB l c at_ at_.length s = true ∧ ∀ j, j < (at_ ++ [(s : Int)]).length → st j = (at_ ++ [(s : Int)]).getD j 0 := by
      intro st hv ha
      have hr := hv.rng _ hi
      refine ⟨(st at_.length).toNat, by omega, by omega, ?_, fun j hj => ?_⟩
      · have := (fit_iff hl hi ha (hv.pv hl (by omega)) hr.1 hr.2).2 (hv.pv hl (by omega))
        rw [show (((st at_.length).toNat : Nat) : Int) = st at_.length from by omega]; exact this
      · rw [hlen1] at hj
        rw [getD_snoc]
        by_cases hj' : j < at_.length
        · rw [if_pos hj']; exact ha j hj'
        · rw [if_neg hj', if_pos (by omega), show j = at_.length from by omega]; omega
    have hpone : ∀ s : Nat, s < m → p s = none → ∀ st, Valid l c m st → (∀ j, j < at_.length → st j = at_.getD j 0) → st at_.length ≠ s := by
      intro s hsm hps st hv ha he
      obtain ⟨t, ht, he', hf, hag⟩ := hgo st hv ha
      have hts : t = s := by omega
      subst hts
      rw [hp] at hps
      simp only [hf, if_true] at hps
      exact (ih (at_ ++ [(t : Int)]) (by rw [hlen1]; omega) (by rw [hlen1]; exact hpn t ht hf)).1 hps st hv hag
    refine ⟨fun hnone st hv ha => ?_, fun q hq => ?_⟩
    · rw [hs] at hnone
      obtain ⟨s, hsm, he, _, _⟩ := hgo st hv ha
      exact hpone s hsm (findSome_none hnone hsm) st hv ha he
    · rw [hs] at hq
      obtain ⟨s, hsm, hps, hbef⟩ := findSome_first hq
      have hf : fitB l c at_ at_.length s = true := by
        rw [hp] at hps
        simp only at hps
        cases hff : fitB l c at_ at_.length s with
        | true => rfl
        | false => rw [hff] at hps; cases hps
      have hps' : srch l c m f (at_ ++ [(s : Int)]) = some q := by
        rw [hp] at hps
        simp only [hf, if_true] at hps
        exact hps
      obtain ⟨g1, g2, g3, g4⟩ := (ih (at_ ++ [(s : Int)]) (by rw [hlen1]; omega) (by rw [hlen1]; exact hpn s hsm hf)).2 q hps'
      rw [hlen1] at g2 g4
      have hqs : q.getD at_.length 0 = s := by rw [g2 _ (by omega), getD_snoc, if_neg (by omega), if_pos rfl]
      refine ⟨g1, fun j hj => by rw [g2 j (by omega), getD_snoc, if_pos hj], g3, fun st hv ha k hk hbk => ?_⟩
      by_cases h1 : k < at_.length
      · rw [g2 k (by omega), getD_snoc, if_pos h1, ha k h1]; exact Int.le_refl _
      · by_cases h2 : k = at_.length
        · subst h2
          rw [hqs]
          have hr := hv.rng _ hk
          by_cases h3 : (s : Int) ≤ st at_.length
          · exact h3
          · exact absurd (show st at_.length = ((st at_.length).toNat : Nat) by omega) (hpone (st at_.length).toNat (by omega) (hbef _ (by omega)) st hv ha)
        · refine g4 st hv (fun j hj => ?_) k hk hbk
          rw [getD_snoc]
          by_cases h3 : j < at_.length
          · rw [if_pos h3]; exact ha j h3
          · rw [if_neg h3, if_pos (by omega), show j = at_.length from by omega, hbk _ (by omega), hqs]
theorem pv_zero (l : List Opn) {c : Int} (hl : LineOk l c) (K : Int) (st : Nat → Int) : PV l c K 0 st := ⟨fun k hk => absurd hk (by omega), fun k hk => absurd hk (by omega), fun s => by have := hl.c1; simp [load]; omega⟩
/-- Below the least number of stations the search finds nothing. -/
theorem srch_none {l : List Opn} {c : Int} {m : Nat} (hl : LineOk l c) (hm : m < nSt l c) : srch l c m l.length [] = none := by
  cases h : srch l c m l.length [] with
  | none => rfl
  | some q =>
    obtain ⟨_, _, hv, _⟩ := (srch_law hl l.length [] (by simp) (pv_zero l hl _ _)).2 q h
    have := nSt_least hl (by omega) hv
    omega
theorem srch_some {l : List Opn} {c : Int} (hl : LineOk l c) : srch l c (nSt l c) l.length [] = some (balAt l c l.length) := by
  cases h : srch l c (nSt l c) l.length [] with
  | none =>
    exfalso
    exact (srch_law hl l.length [] (by simp) (pv_zero l hl _ _)).1 h _ (bal_valid hl) fun j hj => absurd hj (by simp)
  | some q =>
    obtain ⟨h1, _, hv, h4⟩ := (srch_law hl l.length [] (by simp) (pv_zero l hl _ _)).2 q h
    have key : ∀ k, k ≤ l.length → ∀ j, j < k → q.getD j 0 = balA l c j := by
      intro k
      induction k with
      | zero => intro _ j hj; omega
      | succ k ih =>
        intro hk j hj
        by_cases e : j = k
        · subst e
          have a := h4 _ (bal_valid hl) (fun j hj => absurd hj (by simp)) j (by omega) fun i hi => (ih (by omega) i hi).symm
          have b := bal_first hl hv (show j < l.length by omega) fun i hi => ih (by omega) i hi
          omega
        · exact ih (by omega) j (by omega)
    congr 1
    apply List.ext_getElem?
    intro i
    by_cases hi : i < l.length
    · rw [getD_some (by omega), getD_some (by rw [balAt_len]; exact hi), key _ (Nat.le_refl _) i hi]; rfl
    · rw [List.getElem?_eq_none (by omega), List.getElem?_eq_none (by rw [balAt_len]; omega)]

/-! ## The bound -/
def totL (l : List Opn) : List Nat → Int
  | [] => 0
  | i :: p => mn l i + totL l p
def sumN (f : Nat → Int) : Nat → Int
  | 0 => 0
  | n + 1 => sumN f n + f n
theorem sumN_add (f g : Nat → Int) (n : Nat) : sumN (fun s => f s + g s) n = sumN f n + sumN g n := by
  induction n with
  | zero => rfl
  | succ n ih => simp only [sumN]; rw [ih]; omega
theorem sumN_zero (n : Nat) : sumN (fun _ => 0) n = 0 := by
  induction n with
  | zero => rfl
  | succ n ih => simp only [sumN]; omega
theorem sumN_one {n : Nat} {x : Int} (h0 : 0 ≤ x) (hn : x < n) (v : Int) : sumN (fun s => if x = (s : Int) then v else 0) n = v := by
  have lo : ∀ k : Nat, (k : Int) ≤ x → sumN (fun s => if x = (s : Int) then v else 0) k = 0 := by
    intro k
    induction k with
    | zero => intro _; rfl
    | succ k ih => intro hk; simp only [sumN]; rw [ih (by omega), if_neg (by omega)]; rfl
  induction n with
  | zero => omega
  | succ n ih =>
    simp only [sumN]
    by_cases e : x = n
    · rw [lo n (by omega), if_pos e]; omega
    · rw [ih (by omega), if_neg e]; omega
theorem sumN_le {f : Nat → Int} {c : Int} {n : Nat} (h : ∀ s, s < n → f s ≤ c) : sumN f n ≤ n * c := by
  induction n with
  | zero => simp [sumN]
  | succ n ih =>
    have h1 := ih fun s hs => h s (by omega)
    have h2 := h n (by omega)
    simp only [sumN]
    rw [show ((n + 1 : Nat) : Int) = (n : Int) + 1 from by omega, succ_mul']
    omega
theorem tot_sum {l : List Opn} {st : Nat → Int} {K : Nat} : ∀ p : List Nat, (∀ i ∈ p, 0 ≤ st i ∧ st i < K) → totL l p = sumN (fun s => load l st (s : Int) p) K := by
  intro p
  induction p with
  | nil => intro _; simp only [totL, load]; exact (sumN_zero K).symm
  | cons x p ih =>
    intro h
    have hx := h x (by simp)
    simp only [totL, load]
    rw [sumN_add (fun s => if st x = (s : Int) then mn l x else 0) (fun s => load l st (s : Int) p), sumN_one hx.1 hx.2, ih fun i hi => h i (by simp [hi])]
theorem totL_map (l : List Opn) (p : List Nat) : totL l p = (p.map (mn l)).sum := by
  induction p with
  | nil => rfl
  | cons x p ih => simp only [totL, List.map_cons, List.sum_cons, ih]
theorem map_mn (l : List Opn) : (List.range l.length).map (mn l) = l.map Opn.mins := by
  apply List.ext_getElem?
  intro i
  by_cases hi : i < l.length
  · rw [List.getElem?_map, List.getElem?_range hi, List.getElem?_map, List.getElem?_eq_getElem hi]
    simp only [Option.map_some]
    unfold mn
    rw [List.getD_eq_getElem?_getD, List.getElem?_eq_getElem hi]; rfl
  · rw [List.getElem?_eq_none (by simp; omega), List.getElem?_eq_none (by simp; omega)]
theorem sumM_tot (l : List Opn) : sumM l = totL l (List.range l.length) := by rw [totL_map, map_mn]; rfl
theorem sum_le {l : List Opn} {c : Int} {K : Nat} {st : Nat → Int} (hv : Valid l c K st) : sumM l ≤ K * c := by
  rw [sumM_tot, tot_sum (st := st) (K := K) _ fun i hi => hv.rng i (List.mem_range.1 hi)]
  exact sumN_le fun s _ => hv.fit s
theorem load_mem {l : List Opn} {c : Int} (hl : LineOk l c) {st : Nat → Int} {i : Nat} : ∀ p : List Nat, (∀ j ∈ p, j < l.length) → i ∈ p → mn l i ≤ load l st (st i) p := by
  intro p
  induction p with
  | nil => intro _ h; cases h
  | cons x p ih =>
    intro hp hi
    simp only [load]
    have h0 := load_nonneg hl st (st i) p fun j hj => hp j (by simp [hj])
    have hx := hl.m1 x (hp x (by simp))
    rcases List.mem_cons.1 hi with rfl | hi
    · rw [if_pos rfl]; omega
    · have := ih (fun j hj => hp j (by simp [hj])) hi
      split <;> omega
theorem load_two {l : List Opn} {c : Int} (hl : LineOk l c) {st : Nat → Int} {i j : Nat} (hne : i ≠ j) (hs : st i = st j) : ∀ p : List Nat, (∀ j ∈ p, j < l.length) → i ∈ p → j ∈ p → mn l i + mn l j ≤ load l st (st i) p := by
  intro p
  induction p with
  | nil => intro _ h; cases h
  | cons x p ih =>
    intro hp hi hj
    have hp' : ∀ k ∈ p, k < l.length := fun k hk => hp k (by simp [hk])
    simp only [load]
    have hx := hl.m1 x (hp x (by simp))
    rcases List.mem_cons.1 hi with hi' | hi'
    · subst hi'
      rcases List.mem_cons.1 hj with hj' | hj'
      · exact absurd hj'.symm hne
      · rw [if_pos rfl]
        have := load_mem hl (st := st) p hp' hj'
        rw [← hs] at this
        omega
    · rcases List.mem_cons.1 hj with hj' | hj'
      · subst hj'
        rw [if_pos hs.symm]
        have := load_mem hl (st := st) p hp' hi'
        omega
      · have := ih hp' hi' hj'
        split <;> omega
def halfL (l : List Opn) (c : Int) : List Nat := (List.range l.length).filter fun i => halfB c (l.getD i op0)
theorem halfL_len (l : List Opn) (c : Int) : (halfL l c).length = half l c := by
  unfold halfL half
  have h1 : l = (List.range l.length).map fun i => l.getD i op0 := by
    apply List.ext_getElem?
    intro i
    by_cases hi : i < l.length
    · rw [List.getElem?_map, List.getElem?_range hi, List.getElem?_eq_getElem hi]
      simp only [Option.map_some]
      rw [List.getD_eq_getElem?_getD, List.getElem?_eq_getElem hi]; rfl
    · rw [List.getElem?_eq_none (by omega), List.getElem?_eq_none (by simp; omega)]
  conv => rhs; rw [h1]
  rw [List.filter_map, List.length_map]
  rfl
theorem half_le' {l : List Opn} {c : Int} {K : Nat} {st : Nat → Int} (hl : LineOk l c) (hv : Valid l c K st) : half l c ≤ K := by
  rw [← halfL_len]
  have hm : ∀ i ∈ halfL l c, i < l.length ∧ c < 2 * mn l i := by
    intro i hi
    unfold halfL at hi
    rw [List.mem_filter, List.mem_range] at hi
    unfold halfB at hi
    exact ⟨hi.1, by simpa [mn] using hi.2⟩
  have hnd : ((halfL l c).map fun i => (st i).toNat).Nodup := by
    have hn : (halfL l c).Nodup := List.Pairwise.filter _ List.nodup_range
    unfold List.Nodup
    rw [List.pairwise_map]
    refine List.Pairwise.imp_of_mem ?_ hn
    intro a b ha hb hne he
    have h1 := hm a ha
    have h2 := hm b hb
    have r1 := hv.rng a h1.1
    have r2 := hv.rng b h2.1
    have := load_two hl (st := st) hne (by omega) (List.range l.length) (fun j hj => List.mem_range.1 hj) (List.mem_range.2 h1.1) (List.mem_range.2 h2.1)
    have := hv.fit (st a)
    omega
  have hsub : ((halfL l c).map fun i => (st i).toNat) ⊆ List.range K := by
    intro x hx
    obtain ⟨i, hi, rfl⟩ := List.mem_map.1 hx
    have := hv.rng i (hm i hi).1
    rw [List.mem_range]; omega
  have := List.Nodup.length_le_of_subset hnd hsub
  simpa using this
theorem bnd_le {l : List Opn} {c : Int} {K : Nat} {st : Nat → Int} (hl : LineOk l c) (hv : Valid l c K st) : bndMax l c ≤ K := by
  have h1 := (ceil_iff (e := sumM l) (K := K) hl.c1).2 (sum_le hv)
  have h2 := half_le' hl hv
  unfold bndMax
  omega
theorem bnd_nSt {l : List Opn} {c : Int} (hl : LineOk l c) : bndMax l c ≤ nSt l c := by
  obtain ⟨st, hv⟩ := nSt_valid hl
  exact bnd_le hl hv
end Go.Proofs.Ytlbkfphepneflaa
