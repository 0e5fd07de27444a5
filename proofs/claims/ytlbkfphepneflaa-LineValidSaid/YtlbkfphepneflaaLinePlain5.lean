/- Plain laws of line balancing: what the check says, what Balance's arrangement is good for. -/
import Derived.Test.YtlbkfphepneflaaLineLaw1
namespace Go.Proofs.Ytlbkfphepneflaa

theorem load_map {l : List Opn} {st st' : Nat → Int} {t t' : Int} : ∀ p : List Nat, (∀ i ∈ p, (st' i = t ↔ st i = t')) → load l st' t p = load l st t' p := by
  intro p
  induction p with
  | nil => intro _; rfl
  | cons x p ih =>
    intro h
    simp only [load]
    rw [ih fun i hi => h i (by simp [hi])]
    by_cases e : st x = t'
    · rw [if_pos e, if_pos ((h x (by simp)).2 e)]
    · rw [if_neg e, if_neg fun e' => e ((h x (by simp)).1 e')]
/-- No station of a least arrangement is empty. -/
theorem bal_used {l : List Opn} {c : Int} (hl : LineOk l c) {s : Nat} (hs : s < nSt l c) : ∃ i, i < l.length ∧ balA l c i = s := by
  by_cases hex : ∃ i, i < l.length ∧ balA l c i = s
  · exact hex
  · exfalso
    have hno : ∀ i, i < l.length → balA l c i ≠ s := fun i hi e => hex ⟨i, hi, e⟩
    have hv := bal_valid hl
    have : Valid l c ((nSt l c : Int) - 1) (fun i => if (s : Int) < balA l c i then balA l c i - 1 else balA l c i) := by
      refine ⟨fun i hi => ?_, fun i hi a ha => ?_, fun t => ?_⟩
      · have := hv.rng i hi
        have := hno i hi
        show 0 ≤ (if (s : Int) < balA l c i then balA l c i - 1 else balA l c i) ∧ (if (s : Int) < balA l c i then balA l c i - 1 else balA l c i) < _
        split <;> omega
      · have h1 := hv.ord i hi a ha
        have h2 := hno i hi
        have h3 := hno _ (hl.idx i hi a ha).2
        show (if (s : Int) < balA l c a.toNat then balA l c a.toNat - 1 else balA l c a.toNat) ≤ (if (s : Int) < balA l c i then balA l c i - 1 else balA l c i)
        split <;> split <;> omega
      · by_cases ht : t < s
        · rw [load_map (st := balA l c) (t' := t) _ fun i hi => ?_]
          · exact hv.fit t
          · have := hno i (List.mem_range.1 hi)
            show (if (s : Int) < balA l c i then balA l c i - 1 else balA l c i) = t ↔ _
            split <;> omega
        · rw [load_map (st := balA l c) (t' := t + 1) _ fun i hi => ?_]
          · exact hv.fit (t + 1)
          · have := hno i (List.mem_range.1 hi)
            show (if (s : Int) < balA l c i then balA l c i - 1 else balA l c i) = t ↔ _
            split <;> omega
    have := nSt_least hl (by omega) this
    omega
theorem mem_grp {at_ : List Int} {k s : Nat} {x : Int} : x ∈ grp at_ k s ↔ ∃ i : Nat, i < k ∧ at_.getD i 0 = s ∧ x = i := by
  unfold grp
  rw [List.mem_map]
  constructor
  · rintro ⟨i, hi, rfl⟩
    rw [List.mem_filter, List.mem_range, decide_eq_true_iff] at hi
    exact ⟨i, hi.1, hi.2, rfl⟩
  · rintro ⟨i, h1, h2, rfl⟩
    exact ⟨i, by rw [List.mem_filter, List.mem_range, decide_eq_true_iff]; exact ⟨h1, h2⟩, rfl⟩
theorem grp_asc (at_ : List Int) (k s : Nat) : (grp at_ k s).Pairwise (· < ·) := by
  unfold grp
  rw [List.pairwise_map]
  refine List.Pairwise.imp ?_ (List.Pairwise.filter _ List.pairwise_lt_range)
  intro a b h
  show (a : Int) < (b : Int)
  omega
theorem balSt_at {l : List Opn} {c : Int} {s : Nat} (hs : s < nSt l c) : (balSt l c)[s]? = some (grp (balAt l c l.length) l.length s) := by
  unfold balSt; rw [List.getElem?_map, List.getElem?_range hs]; rfl
theorem balSt_in {l : List Opn} {c : Int} {s : Nat} {q : List Int} (h : (balSt l c)[s]? = some q) : s < nSt l c ∧ q = grp (balAt l c l.length) l.length s := by
  have hs : s < nSt l c := by have := (List.getElem?_eq_some_iff.1 h).1; rwa [balSt_len] at this
  rw [balSt_at hs] at h
  cases h
  exact ⟨hs, rfl⟩
theorem balSt_nonempty {l : List Opn} {c : Int} (hl : LineOk l c) {s : Nat} {q : List Int} (h : (balSt l c)[s]? = some q) : q ≠ [] := by
  obtain ⟨hs, rfl⟩ := balSt_in h
  obtain ⟨i, hi, he⟩ := bal_used hl hs
  intro e
  have : (i : Int) ∈ grp (balAt l c l.length) l.length s := mem_grp.2 ⟨i, hi, he, rfl⟩
  rw [e] at this; cases this
theorem balSt_asc {l : List Opn} {c : Int} {s : Nat} {q : List Int} (h : (balSt l c)[s]? = some q) : q.Pairwise (· < ·) := by
  obtain ⟨_, rfl⟩ := balSt_in h
  exact grp_asc _ _ _

/-! ## What has been put -/
theorem puts_val {n : Nat} : ∀ (L : List (Nat × Int)) (at_ : List Int), puts n L = (0, at_) → (∀ i, i < n → at_.getD i 0 = -1 ∨ ∃ s : Nat, (s, (i : Int)) ∈ L ∧ at_.getD i 0 = s) ∧ ∀ p ∈ L, at_.getD p.2.toNat 0 = p.1 := by
  refine snoc_ind ?_ ?_
  · intro at_ h
    unfold puts at h
    cases h
    exact ⟨fun i hi => .inl (noAt_at hi), fun _ h => (by cases h)⟩
  · intro L p ih at_ h
    obtain ⟨at0, h0⟩ := puts_ok [p] L at_ h
    have hlen := (puts_len L at0 h0).1
    have hrg := (puts_len L at0 h0).2
    rw [puts_append, h0] at h
    obtain ⟨h1, h2, h3, rfl⟩ := stp_ok h
    obtain ⟨g1, g2⟩ := ih at0 h0
    have hset : ∀ i, (at0.set p.2.toNat p.1).getD i 0 = if i = p.2.toNat then (p.1 : Int) else at0.getD i 0 := fun i => getD_set _ _ _ _ (by omega)
    refine ⟨fun i hi => ?_, fun x hx => ?_⟩
    · rw [hset]
      by_cases e : i = p.2.toNat
      · rw [if_pos e]
        exact .inr ⟨p.1, by rw [show (i : Int) = p.2 from by omega]; simp, rfl⟩
      · rw [if_neg e]
        rcases g1 i hi with h4 | ⟨s, h4, h5⟩
        · exact .inl h4
        · exact .inr ⟨s, by simp [h4], h5⟩
    · rw [hset]
      rcases List.mem_append.1 hx with hx | hx
      · rw [if_neg, g2 x hx]
        intro e
        have := g2 x hx
        rw [e, h3] at this
        omega
      · simp at hx
        subst hx
        rw [if_pos rfl]
theorem puts_of {n : Nat} : ∀ L : List (Nat × Int), (∀ p ∈ L, 0 ≤ p.2 ∧ p.2 < n) → (L.map Prod.snd).Nodup → ∃ at_, puts n L = (0, at_) := by
  refine snoc_ind ?_ ?_
  · intro _ _; exact ⟨_, rfl⟩
  · intro L p ih hr hnd
    rw [List.map_append, List.nodup_append] at hnd
    obtain ⟨at0, h0⟩ := ih (fun x hx => hr x (by simp [hx])) hnd.1
    have hp := hr p (by simp)
    rw [puts_append, h0]
    simp only [List.foldl_cons, List.foldl_nil]
    have hfree : at0.getD p.2.toNat 0 = -1 := by
      rcases (puts_val L at0 h0).1 p.2.toNat (by omega) with h | ⟨s, h, _⟩
      · exact h
      · exfalso
        refine hnd.2.2 p.2 (List.mem_map.2 ⟨_, h, by show ((p.2.toNat : Nat) : Int) = p.2; omega⟩) p.2 (by simp) rfl
    refine ⟨at0.set p.2.toNat p.1, ?_⟩
    unfold stp
    rw [if_neg (by simp), if_neg (by omega), if_neg (by simp only [ne_eq, Decidable.not_not]; exact hfree)]
theorem flat_snd (k : Nat) (ss : List (List Int)) : (flatFrom k ss).map Prod.snd = ss.flatten := by
  induction ss generalizing k with
  | nil => rfl
  | cons q ss ih =>
    simp only [flatFrom, List.map_append, List.map_map, ih, List.flatten_cons]
    congr 1
    simp [Function.comp_def]
theorem balSt_nodup (l : List Opn) (c : Int) : (balSt l c).flatten.Nodup := by
  unfold List.Nodup
  rw [List.pairwise_flatten]
  constructor
  · intro q hq
    unfold balSt at hq
    obtain ⟨s, _, rfl⟩ := List.mem_map.1 hq
    exact List.Pairwise.imp (fun h => by omega) (grp_asc _ _ _)
  · unfold balSt
    rw [List.pairwise_map]
    refine List.Pairwise.imp ?_ List.pairwise_lt_range
    intro a b hab x hx y hy e
    obtain ⟨i, _, h2, h3⟩ := mem_grp.1 hx
    obtain ⟨j, _, h5, h6⟩ := mem_grp.1 hy
    have : i = j := by omega
    subst this
    omega
theorem bal_puts {l : List Opn} {c : Int} (hl : LineOk l c) : puts l.length (flat (balSt l c)) = (0, balAt l c l.length) := by
  have hmem : ∀ s x, (s, x) ∈ flat (balSt l c) → ∃ i : Nat, i < l.length ∧ x = i ∧ balA l c i = s := by
    intro s x h
    obtain ⟨q, h1, h2⟩ := mem_flat.1 h
    obtain ⟨_, rfl⟩ := balSt_in h1
    obtain ⟨i, h3, h4, h5⟩ := mem_grp.1 h2
    exact ⟨i, h3, h5, h4⟩
  obtain ⟨at_, h⟩ := puts_of (n := l.length) (flat (balSt l c)) (fun p hp => by obtain ⟨i, h1, h2, _⟩ := hmem p.1 p.2 hp; omega) (by unfold flat; rw [flat_snd]; exact balSt_nodup l c)
  rw [h]
  congr 1
  have hlen := (puts_len _ _ h).1
  apply List.ext_getElem?
  intro i
  by_cases hi : i < l.length
  · rw [getD_some (by omega), getD_some (by rw [balAt_len]; exact hi)]
    congr 1
    have hr := bal_rng hl hi
    have hin : ((balA l c i).toNat, (i : Int)) ∈ flat (balSt l c) := mem_flat.2 ⟨_, balSt_at (show (balA l c i).toNat < nSt l c by omega), mem_grp.2 ⟨i, hi, by show balA l c i = _; omega, rfl⟩⟩
    have := (puts_val _ _ h).2 _ hin
    simp only [Int.toNat_natCast] at this
    rw [this]
    show _ = balA l c i
    omega
  · rw [List.getElem?_eq_none (by omega), List.getElem?_eq_none (by rw [balAt_len]; omega)]
theorem sumS_grp (l : List Opn) (at_ : List Int) (s : Nat) : ∀ k, sumS l (grp at_ k s) = load l (fun i => at_.getD i 0) s (List.range k) := by
  intro k
  induction k with
  | zero => rfl
  | succ k ih =>
    rw [load_succ, ← ih]
    unfold grp
    rw [List.range_succ, List.filter_append, List.map_append]
    by_cases e : at_.getD k 0 = (s : Int)
    · rw [List.filter_cons_of_pos (by simpa using e), if_pos e]
      unfold sumS
      simp
    · rw [List.filter_cons_of_neg (by simpa using e), if_neg e]
      unfold sumS
      simp
theorem bal_check {l : List Opn} {c : Int} (h : bndErr l c = 0) : chkErr l c (balSt l c) = 0 := by
  have hl := lineOk_of h
  have hv := bal_valid hl
  refine chk_ok h (bal_puts hl) ?_ ?_ ?_
  · cases hb : hasB (balAt l c l.length) (-1) with
    | false => rfl
    | true =>
      exfalso
      have hm := hasB_mem.1 hb
      obtain ⟨i, hi, e⟩ := List.getElem_of_mem hm
      rw [balAt_len] at hi
      have := bal_rng hl hi
      have e' : balA l c i = -1 := by
        show (balAt l c l.length).getD i 0 = -1
        rw [List.getD_eq_getElem?_getD, List.getElem?_eq_getElem (by rw [balAt_len]; exact hi), e]; rfl
      omega
  · rw [List.any_eq_false]
    intro q hq
    unfold balSt at hq
    obtain ⟨s, _, rfl⟩ := List.mem_map.1 hq
    have := hv.fit s
    unfold overS
    rw [sumS_grp]
    simp only [decide_eq_true_eq]
    show ¬ c < load l (balA l c) s (List.range l.length)
    omega
  · rw [List.any_eq_false]
    intro i hi
    have hi' := List.mem_range.1 hi
    unfold badO
    rw [Bool.not_eq_true, List.any_eq_false]
    intro a ha
    have := hv.ord i hi' a ha
    unfold badA
    simp only [decide_eq_true_eq]
    show ¬ balA l c i < balA l c a.toNat
    omega
theorem perm_sum {p q : List Int} (h : p.Perm q) : p.sum = q.sum := by
  induction h with
  | nil => rfl
  | cons x _ ih => simp only [List.sum_cons, ih]
  | swap x y p => simp only [List.sum_cons]; omega
  | trans _ _ h1 h2 => rw [h1, h2]
theorem sum_sub {f : Nat → Int} (hf : ∀ i, 0 ≤ f i) : ∀ (F G : List Nat), F.Nodup → F ⊆ G → (F.map f).sum ≤ (G.map f).sum := by
  intro F
  induction F with
  | nil =>
    intro G _ _
    have : ∀ G : List Nat, 0 ≤ (G.map f).sum := by
      intro G
      induction G with
      | nil => simp
      | cons x G ih => simp only [List.map_cons, List.sum_cons]; have := hf x; omega
    simpa using this G
  | cons x F ih =>
    intro G hn hs
    rw [List.nodup_cons] at hn
    have hx : x ∈ G := hs (by simp)
    have hp := List.perm_cons_erase hx
    have h1 := ih (G.erase x) hn.2 (fun y hy => (List.mem_erase_of_ne (fun e : y = x => hn.1 (by rw [← e]; exact hy))).2 (hs (by simp [hy])))
    have h2 : (G.map f).sum = f x + ((G.erase x).map f).sum := by
      rw [perm_sum (hp.map f)]; simp
    rw [h2]
    simp only [List.map_cons, List.sum_cons]
    omega
theorem load_filter (l : List Opn) (st : Nat → Int) (s : Int) : ∀ p : List Nat, load l st s p = ((p.filter fun i => decide (st i = s)).map (mn l)).sum := by
  intro p
  induction p with
  | nil => rfl
  | cons x p ih =>
    simp only [load]
    by_cases e : st x = s
    · rw [if_pos e, List.filter_cons_of_pos (by simpa using e), ih]; simp
    · rw [if_neg e, List.filter_cons_of_neg (by simpa using e), ih]; omega
/-- What the check accepts is valid. -/
theorem check_valid {l : List Opn} {c : Int} {ss : List (List Int)} (h : chkErr l c ss = 0) : ∃ at_, puts l.length (flat ss) = (0, at_) ∧ at_.length = l.length ∧ Valid l c ss.length (fun i => at_.getD i 0) := by
  obtain ⟨hz, at_, hp, hg, ho, hb⟩ := chk_zero h
  have hl := lineOk_of hz
  have hlen := (puts_len _ _ hp).1
  obtain ⟨v1, v2⟩ := puts_val _ _ hp
  have hst : ∀ i, i < l.length → ∃ s : Nat, s < ss.length ∧ at_.getD i 0 = s ∧ ∃ q, ss[s]? = some q ∧ (i : Int) ∈ q := by
    intro i hi
    rcases v1 i hi with h1 | ⟨s, h1, h2⟩
    · exfalso
      have : hasB at_ (-1) = true := hasB_found (k := i) (by rw [← h1]; exact getD_some (by omega))
      rw [hg] at this; cases this
    · obtain ⟨q, h3, h4⟩ := mem_flat.1 h1
      exact ⟨s, (List.getElem?_eq_some_iff.1 h3).1, h2, q, h3, h4⟩
  refine ⟨at_, hp, hlen, ⟨fun i hi => ?_, fun i hi a ha => ?_, fun s => ?_⟩⟩
  · obtain ⟨s, h1, h2, _⟩ := hst i hi
    show 0 ≤ at_.getD i 0 ∧ at_.getD i 0 < _
    omega
  · rw [List.any_eq_false] at hb
    have h1 := hb i (List.mem_range.2 hi)
    unfold badO at h1
    rw [Bool.not_eq_true, List.any_eq_false] at h1
    have h2 := h1 a ha
    unfold badA at h2
    simp only [decide_eq_true_eq] at h2
    show at_.getD a.toNat 0 ≤ at_.getD i 0
    omega
  · rw [load_filter]
    by_cases hs : 0 ≤ s ∧ s < ss.length
    · obtain ⟨q, hq⟩ : ∃ q, ss[s.toNat]? = some q := ⟨_, List.getElem?_eq_getElem (show s.toNat < ss.length by omega)⟩
      rw [List.any_eq_false] at ho
      have h1 := ho q (List.mem_of_getElem? hq)
      unfold overS at h1
      simp only [decide_eq_true_eq] at h1
      have hf0 : ∀ i, 0 ≤ (if i < l.length then mn l i else 0) := by
        intro i
        split
        · rename_i hi; have := hl.m1 i hi; omega
        · exact Int.le_refl _
      have key := sum_sub hf0 ((List.range l.length).filter fun i => decide (at_.getD i 0 = s)) (q.map Int.toNat) (List.Pairwise.filter _ List.nodup_range) (by
        intro i hi
        rw [List.mem_filter, List.mem_range, decide_eq_true_iff] at hi
        obtain ⟨t, h2, h3, q', h4, h5⟩ := hst i hi.1
        have : t = s.toNat := by omega
        subst this
        rw [hq] at h4
        cases h4
        exact List.mem_map.2 ⟨_, h5, by simp⟩)
      have e1 : (((List.range l.length).filter fun i => decide (at_.getD i 0 = s)).map fun i => if i < l.length then mn l i else 0) = ((List.range l.length).filter fun i => decide (at_.getD i 0 = s)).map (mn l) := by
        apply List.map_congr_left
        intro i hi
        rw [List.mem_filter, List.mem_range] at hi
        rw [if_pos hi.1]
      have e2 : ((q.map Int.toNat).map fun i => if i < l.length then mn l i else 0) = q.map fun i => mn l i.toNat := by
        rw [List.map_map]
        apply List.map_congr_left
        intro x hx
        have := (puts_len _ _ hp).2 (s.toNat, x) (mem_flat.2 ⟨q, hq, hx⟩)
        show (if x.toNat < l.length then mn l x.toNat else 0) = _
        rw [if_pos (by simp only at this; omega)]
      rw [e1, e2] at key
      unfold sumS at h1
      show ((List.filter (fun i => decide (at_.getD i 0 = s)) (List.range l.length)).map (mn l)).sum ≤ c
      omega
    · have : ((List.range l.length).filter fun i => decide ((fun i => at_.getD i 0) i = s)) = [] := by
        rw [List.filter_eq_nil_iff]
        intro i hi
        obtain ⟨t, h1, h2, _⟩ := hst i (List.mem_range.1 hi)
        simp only [decide_eq_true_eq]
        omega
      rw [this]
      have := hl.c1
      simp
      omega

/-! ## Other cycles -/
theorem Valid.wider {l : List Opn} {c c' K : Int} {st : Nat → Int} (h : Valid l c K st) (hc : c ≤ c') : Valid l c' K st := ⟨h.rng, h.ord, fun k => Int.le_trans (h.fit k) hc⟩
theorem cyc_le {l : List Opn} {c c' : Int} (h : bndErr l c = 0) (h' : bndErr l c' = 0) (hc : c ≤ c') : nSt l c' ≤ nSt l c := by
  have := nSt_least (lineOk_of h') (by omega) ((bal_valid (lineOk_of h)).wider hc)
  omega
theorem load_all {l : List Opn} {st : Nat → Int} {s : Int} : ∀ p : List Nat, (∀ i ∈ p, st i = s) → load l st s p = totL l p := by
  intro p
  induction p with
  | nil => intro _; rfl
  | cons x p ih => intro h; simp only [load, totL]; rw [if_pos (h x (by simp)), ih fun i hi => h i (by simp [hi])]
theorem load_none {l : List Opn} {st : Nat → Int} {s : Int} : ∀ p : List Nat, (∀ i ∈ p, st i ≠ s) → load l st s p = 0 := by
  intro p
  induction p with
  | nil => intro _; rfl
  | cons x p ih => intro h; simp only [load]; rw [if_neg (h x (by simp)), ih fun i hi => h i (by simp [hi])]; rfl
theorem cyc_one {l : List Opn} {c : Int} (h : bndErr l c = 0) (hn : 0 < l.length) : nSt l c = 1 ↔ sumM l ≤ c := by
  have hl := lineOk_of h
  have hpos := nSt_pos hl hn
  rw [sumM_tot]
  constructor
  · intro h1
    have hv := bal_valid hl
    rw [h1] at hv
    have := hv.fit 0
    rw [load_all _ fun i hi => by have := hv.rng i (List.mem_range.1 hi); omega] at this
    exact this
  · intro h1
    have : Valid l c 1 (fun _ => 0) := ⟨fun _ _ => ⟨by omega, by omega⟩, fun _ _ _ _ => Int.le_refl _, fun k => by
      by_cases e : k = 0
      · subst e; rw [load_all _ fun _ _ => rfl]; exact h1
      · rw [load_none _ fun _ _ e' => e e'.symm]; have := hl.c1; omega⟩
    have := nSt_least hl (by omega) this
    omega
theorem cyc_err {l : List Opn} {c c' : Int} (h : bndErr l c = 0) (hc : c ≤ c') (h' : bndErr l c' ≠ 0) : bndErr l c' = 3 := by
  obtain ⟨h1, h2, h3, h4⟩ := bndErr_zero h
  by_cases hr : 1000000 < c'
  · exact bndErr_range h1 (.inr hr)
  · exfalso
    apply h'
    refine bndErr_ok h1 (by omega) (by omega) ?_
    rw [List.take_length, List.any_eq_false]
    intro o ho
    have := h4 o ho
    unfold overB
    simp
    omega
theorem halves {l : List Opn} {c : Int} (h : bndErr l c = 0) (hh : ∀ o ∈ l, c < 2 * o.mins) : nSt l c = l.length := by
  have hl := lineOk_of h
  have h1 := nSt_le hl
  have h2 := half_le' hl (bal_valid hl)
  have : half l c = l.length := by
    unfold half
    rw [List.filter_eq_self.2 fun o ho => by unfold halfB; simpa using hh o ho]
  omega
end Go.Proofs.Ytlbkfphepneflaa
