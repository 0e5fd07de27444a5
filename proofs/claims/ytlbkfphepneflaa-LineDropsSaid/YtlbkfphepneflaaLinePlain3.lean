/- Plain laws of line balancing: the number of stations is the least, the arrangement the first of all. -/
import Derived.Test.YtlbkfphepneflaaFirst
namespace Go.Proofs.Ytlbkfphepneflaa

theorem order_mem {l : List Opn} (h : (order l).length = l.length) {i : Nat} (hi : i < l.length) : i ∈ order l := by
  have hu := topo_upto (l := l) l.length [] (Upto.nil l)
  have := Upto.all (out := order l) hu h
  rw [List.filter_eq_nil_iff] at this
  have := this i (List.mem_range.2 hi)
  simpa using this
theorem lineOk_of {l : List Opn} {c : Int} (h : bndErr l c = 0) : LineOk l c := by
  obtain ⟨h1, h2, h3, h4⟩ := bndErr_zero h
  obtain ⟨h5, h6⟩ := ordErr_zero h1
  have hsd := sound_of h5
  have hu : Upto l (order l) := topo_upto (l := l) l.length [] (Upto.nil l)
  refine ⟨h2, fun i hi => ⟨(hsd.mins _ (getD_mem hi)).1, h4 _ (getD_mem hi)⟩, fun i hi a ha => ?_, fun i => (order l).idxOf i, fun i hi => ?_, fun i j hi hj he => ?_, fun i hi a ha => ?_⟩
  · have := hsd.idx _ (getD_mem hi) a ha; omega
  · rw [← h6]; exact List.idxOf_lt_length_of_mem (order_mem h6 hi)
  · have hi' := order_mem h6 hi
    have hj' := order_mem h6 hj
    have e1 : (order l)[(order l).idxOf i]? = some i := by rw [List.getElem?_eq_getElem (List.idxOf_lt_length_of_mem hi'), List.getElem_idxOf]
    have e2 : (order l)[(order l).idxOf j]? = some j := by rw [List.getElem?_eq_getElem (List.idxOf_lt_length_of_mem hj'), List.getElem_idxOf]
    have he' : (order l).idxOf i = (order l).idxOf j := he
    rw [he', e2] at e1
    injection e1 with e1
    exact e1.symm
  · have hi' := order_mem h6 hi
    have hlt := List.idxOf_lt_length_of_mem hi'
    have e1 : (order l)[(order l).idxOf i]? = some i := by rw [List.getElem?_eq_getElem hlt, List.getElem_idxOf]
    have := hu.2.2 _ _ e1 a ha
    have h7 := List.idxOf_lt_length_of_mem this
    have h8 : (order l).idxOf a.toNat = ((order l).take ((order l).idxOf i)).idxOf a.toNat := by
      conv => lhs; rw [← List.take_append_drop ((order l).idxOf i) (order l)]
      rw [List.idxOf_append, if_pos this]
    show (order l).idxOf a.toNat < (order l).idxOf i
    rw [h8]
    rw [List.length_take] at h7
    omega

theorem run_lim {l : List Opn} {c : Int} {at_ : List Int} {lim : Int} (h0 : 0 ≤ lim) : ∀ {p : List Nat} {t : Nat} {v : Int}, run l c at_ lim p = some (t, v) → v ≤ lim := by
  intro p t v h
  cases p with
  | nil => simp [run] at h; omega
  | cons x p => obtain ⟨s, e, _, _, _, _, h7, _, _⟩ := run_cons h; exact h7
def AtOk (l : List Opn) (at_ : List Int) : Prop := ∀ i, i < l.length → at_.getD i 0 = -1 ∨ 0 ≤ at_.getD i 0
theorem least_of_valid {l : List Opn} {c K lim : Int} {at_ : List Int} {st : Nat → Int} (hl : LineOk l c) (hK : 0 ≤ K) (hv : Valid l c K st) (ha : Agrees l at_ st) (hlim : K * c ≤ lim) :
    0 ≤ leastE l c at_ lim ∧ leastE l c at_ lim ≤ K * c := by
  obtain ⟨p, e, hr, he⟩ := run_of_valid hl hK hv ha hlim
  have := dp_least hl p _ _ hr
  unfold leastE
  omega
theorem valid_of_least {l : List Opn} {c K lim : Int} {at_ : List Int} (hl : LineOk l c) (ha : AtOk l at_) (h : 0 ≤ leastE l c at_ lim) (hK : leastE l c at_ lim ≤ K * c) :
    ∃ st, Valid l c K st ∧ Agrees l at_ st := by
  obtain ⟨p, hp⟩ := dp_sure (at_ := at_) (lim := lim) hl (2 ^ l.length - 1) (by have := Nat.two_pow_pos l.length; omega) h
  exact valid_of_run hl ha hp hK
theorem leastE_lim {l : List Opn} {c lim : Int} {at_ : List Int} (hl : LineOk l c) (h0 : 0 ≤ lim) (h : 0 ≤ leastE l c at_ lim) : leastE l c at_ lim ≤ lim := by
  obtain ⟨p, hp⟩ := dp_sure (at_ := at_) (lim := lim) hl (2 ^ l.length - 1) (by have := Nat.two_pow_pos l.length; omega) h
  exact run_lim h0 hp
theorem leastB_iff {l : List Opn} {c K : Int} {at_ : List Int} (hl : LineOk l c) (ha : AtOk l at_) (hK : 0 ≤ K) : leastB l c at_ (K * c) = true ↔ ∃ st, Valid l c K st ∧ Agrees l at_ st := by
  unfold leastB
  rw [decide_eq_true_iff]
  constructor
  · intro h
    exact valid_of_least hl ha h (leastE_lim hl (Int.mul_nonneg hK (by have := hl.c1; omega)) h)
  · rintro ⟨st, hv, hag⟩
    exact (least_of_valid hl hK hv hag (Int.le_refl _)).1

def noAt (n : Nat) : List Int := List.replicate n (-1)
theorem noAt_at {n i : Nat} (h : i < n) : (noAt n).getD i 0 = -1 := by
  unfold noAt; rw [List.getD_eq_getElem?_getD, List.getElem?_replicate, if_pos h]; rfl
theorem noAt_ok (l : List Opn) : AtOk l (noAt l.length) := fun _ hi => .inl (noAt_at hi)
theorem noAt_agrees (l : List Opn) (st : Nat → Int) : Agrees l (noAt l.length) st := fun _ hi => .inl (noAt_at hi)
def endE (l : List Opn) (c : Int) : Int := leastV l c (noAt l.length) (l.length * c)
def nSt (l : List Opn) (c : Int) : Nat := ((endE l c + c - 1) / c).toNat

/-- Each operation at a station of its own. -/
theorem valid_pos {l : List Opn} {c : Int} (hl : LineOk l c) : ∃ st, Valid l c l.length st := by
  obtain ⟨pos, p1, p2, p3⟩ := hl.pos
  refine ⟨fun i => (pos i : Int), ⟨fun i hi => ⟨by omega, by have := p1 i hi; omega⟩, fun i hi a ha => by have := p3 i hi a ha; omega, fun k => ?_⟩⟩
  have key : ∀ p : List Nat, p.Nodup → (∀ i ∈ p, i < l.length) → load l (fun i => (pos i : Int)) k p ≤ c ∧ ((∀ i ∈ p, (pos i : Int) ≠ k) → load l (fun i => (pos i : Int)) k p = 0) := by
    intro p
    induction p with
    | nil => intro _ _; have := hl.c1; exact ⟨by simp only [load]; omega, fun _ => rfl⟩
    | cons x p ih =>
      intro hn hi
      rw [List.nodup_cons] at hn
      obtain ⟨g1, g2⟩ := ih hn.2 fun i hi' => hi i (by simp [hi'])
      have hx := hl.m1 x (hi x (by simp))
      simp only [load]
      by_cases e : (pos x : Int) = k
      · rw [if_pos e]
        have : load l (fun i => (pos i : Int)) k p = 0 := g2 fun i hi' e' => hn.1 (by
          have := p2 i x (hi i (by simp [hi'])) (hi x (by simp)) (by omega)
          rw [← this]; exact hi')
        exact ⟨by omega, fun h => absurd e (h x (by simp))⟩
      · rw [if_neg e]
        exact ⟨by omega, fun h => by rw [g2 fun i hi' => h i (by simp [hi'])]; rfl⟩
  exact (key _ List.nodup_range (fun i hi => List.mem_range.1 hi)).1
theorem end_bnd {l : List Opn} {c : Int} (hl : LineOk l c) : leastE l c (noAt l.length) (l.length * c) = endE l c ∧ 0 ≤ endE l c ∧ endE l c ≤ l.length * c := by
  obtain ⟨st, hv⟩ := valid_pos hl
  obtain ⟨h1, h2⟩ := least_of_valid hl (by omega) hv (noAt_agrees l st) (Int.le_refl _)
  have : endE l c = leastE l c (noAt l.length) (l.length * c) := by unfold endE leastV; rw [if_neg (by omega)]
  exact ⟨this.symm, by omega, by omega⟩
theorem ceil_iff {e c K : Int} (hc : 1 ≤ c) : (e + c - 1) / c ≤ K ↔ e ≤ K * c := by
  have h1 := quo_le (f := e + c - 1) hc
  constructor
  · intro h
    have := mul_le h hc
    omega
  · intro h
    by_cases h2 : (e + c - 1) / c ≤ K
    · exact h2
    · exfalso
      have := mul_le (show K + 1 ≤ (e + c - 1) / c by omega) hc
      rw [succ_mul'] at this
      omega
theorem nSt_cast {l : List Opn} {c : Int} (hl : LineOk l c) : ((nSt l c : Nat) : Int) = (endE l c + c - 1) / c := by
  have := (end_bnd hl).2.1
  have := Int.ediv_nonneg (show 0 ≤ endE l c + c - 1 by have := hl.c1; omega) (b := c) (by have := hl.c1; omega)
  unfold nSt; omega
theorem nSt_le {l : List Opn} {c : Int} (hl : LineOk l c) : nSt l c ≤ l.length := by
  have h := (ceil_iff (K := l.length) hl.c1).2 (end_bnd hl).2.2
  rw [← nSt_cast hl] at h
  omega
theorem nSt_valid {l : List Opn} {c : Int} (hl : LineOk l c) : ∃ st, Valid l c (nSt l c) st := by
  obtain ⟨h1, h2, h3⟩ := end_bnd hl
  have := (ceil_iff (e := endE l c) (K := nSt l c) hl.c1).1 (by rw [nSt_cast hl]; exact Int.le_refl _)
  obtain ⟨st, hv, _⟩ := valid_of_least (K := nSt l c) hl (noAt_ok l) (by rw [h1]; exact h2) (by rw [h1]; exact this)
  exact ⟨st, hv⟩
theorem nSt_least {l : List Opn} {c K : Int} {st : Nat → Int} (hl : LineOk l c) (hK : 0 ≤ K) (hv : Valid l c K st) : ((nSt l c : Nat) : Int) ≤ K := by
  by_cases h : K ≤ l.length
  · obtain ⟨h1, h2, h3⟩ := end_bnd hl
    have := (least_of_valid hl hK hv (noAt_agrees l st) (mul_le (c := c) h hl.c1)).2
    rw [h1] at this
    rw [nSt_cast hl]
    exact (ceil_iff hl.c1).2 this
  · have := nSt_le hl; omega
theorem nSt_pos {l : List Opn} {c : Int} (hl : LineOk l c) (h : 0 < l.length) : 1 ≤ nSt l c := by
  obtain ⟨st, hv⟩ := nSt_valid hl
  have := hv.rng 0 h
  omega

/-! ## The arrangement -/
theorem findN_min {p : Nat → Bool} {m j : Nat} (h : j < findN p m) : p j = false := by
  unfold findN at h
  cases hf : (List.range m).find? p with
  | none =>
    rw [hf] at h
    rw [List.find?_eq_none] at hf
    have := hf j (by simpa using h)
    simpa using this
  | some k =>
    rw [hf] at h
    rw [List.find?_eq_some_iff_getElem] at hf
    obtain ⟨_, q, hq, e, hb⟩ := hf
    simp at h e
    subst e
    have := hb j h
    simpa using this
theorem findN_ok {p : Nat → Bool} {m : Nat} (h : findN p m < m) : p (findN p m) = true := by
  unfold findN at h ⊢
  cases hf : (List.range m).find? p with
  | none => rw [hf] at h; simp at h
  | some k => exact List.find?_some hf
def balAt (l : List Opn) (c : Int) : Nat → List Int
  | 0 => noAt l.length
  | k + 1 => (balAt l c k).set k (firstK l c (balAt l c k) k (nSt l c))
theorem balAt_len (l : List Opn) (c : Int) (k : Nat) : (balAt l c k).length = l.length := by
  induction k with
  | zero => unfold balAt noAt; simp
  | succ k ih => unfold balAt; rw [List.length_set]; exact ih
theorem balAt_free {l : List Opn} {c : Int} {k i : Nat} (hk : k ≤ i) (hi : i < l.length) : (balAt l c k).getD i 0 = -1 := by
  induction k with
  | zero => exact noAt_at hi
  | succ k ih => unfold balAt; rw [getD_set _ _ _ _ (by rw [balAt_len]; omega), if_neg (by omega)]; exact ih (by omega)
theorem balAt_keep {l : List Opn} {c : Int} {k i : Nat} (hi : i < k) (_hk : k ≤ l.length) : ∀ m, k ≤ m → m ≤ l.length → (balAt l c m).getD i 0 = (balAt l c k).getD i 0 := by
  intro m
  induction m with
  | zero => intro h _; omega
  | succ m ih =>
    intro h hm
    by_cases e : k = m + 1
    · rw [e]
    · conv => lhs; unfold balAt
      rw [getD_set _ _ _ _ (by rw [balAt_len]; omega), if_neg (by omega)]
      exact ih (by omega) (by omega)
theorem balAt_step {l : List Opn} {c : Int} {k : Nat} (hk : k < l.length) : (balAt l c (k + 1)).getD k 0 = firstK l c (balAt l c k) k (nSt l c) := by
  conv => lhs; unfold balAt
  rw [getD_set _ _ _ _ (by rw [balAt_len]; omega), if_pos rfl]
/-- The arrangement that Balance finds. -/
def balA (l : List Opn) (c : Int) (i : Nat) : Int := (balAt l c l.length).getD i 0
theorem balAt_val {l : List Opn} {c : Int} {k i : Nat} (hi : i < k) (hk : k ≤ l.length) : (balAt l c k).getD i 0 = balA l c i := (balAt_keep hi hk l.length hk (Nat.le_refl _)).symm

/-- The arrangement has the stations of f up to k. -/
theorem agrees_iff {l : List Opn} {c : Int} {k : Nat} (hk : k ≤ l.length) (h0 : ∀ i, i < k → 0 ≤ balA l c i) (st : Nat → Int) : Agrees l (balAt l c k) st ↔ ∀ i, i < k → st i = balA l c i := by
  unfold Agrees
  constructor
  · intro h i hi
    have := h i (by omega)
    rw [balAt_val hi hk] at this
    rcases this with h1 | h1
    · have := h0 i hi; omega
    · exact h1
  · intro h i hi
    by_cases hik : i < k
    · rw [balAt_val hik hk]; exact .inr (h i hik)
    · exact .inl (balAt_free (by omega) hi)
theorem bal_inv {l : List Opn} {c : Int} (hl : LineOk l c) : ∀ k, k ≤ l.length →
    (∀ i, i < k → 0 ≤ balA l c i ∧ balA l c i < nSt l c) ∧ (∃ st, Valid l c (nSt l c) st ∧ ∀ i, i < k → st i = balA l c i) ∧
    ∀ i, i < k → ∀ st, Valid l c (nSt l c) st → (∀ j, j < i → st j = balA l c j) → balA l c i ≤ st i := by
  intro k
  induction k with
  | zero =>
    intro _
    obtain ⟨st, hv⟩ := nSt_valid hl
    exact ⟨fun i hi => absurd hi (by omega), ⟨st, hv, fun i hi => absurd hi (by omega)⟩, fun i hi => absurd hi (by omega)⟩
  | succ k ih =>
    intro hk
    obtain ⟨h1, ⟨st0, hv0, ha0⟩, h3⟩ := ih (by omega)
    have hK1 := nSt_pos hl (show 0 < l.length by omega)
    have hx : balA l c k = firstK l c (balAt l c k) k (nSt l c) := by rw [← balAt_val (k := k + 1) (by omega) hk, balAt_step (by omega)]
    have hle : firstK l c (balAt l c k) k (nSt l c) ≤ nSt l c - 1 := findN_le _ _
    -- what the test at a station says
    have hag : ∀ (s : Nat) (st : Nat → Int), Agrees l ((balAt l c k).set k (s : Int)) st ↔ (∀ i, i < k → st i = balA l c i) ∧ st k = s := by
      intro s st
      have h4 : ∀ i, ((balAt l c k).set k (s : Int)).getD i 0 = if i = k then (s : Int) else (balAt l c k).getD i 0 := fun i => getD_set _ _ _ _ (by rw [balAt_len]; omega)
      rw [← agrees_iff (by omega) (fun i hi => (h1 i hi).1) st]
      unfold Agrees
      constructor
      · intro h
        refine ⟨fun i hi => ?_, ?_⟩
        · by_cases e : i = k
          · subst e; exact .inl (balAt_free (Nat.le_refl _) hi)
          · have := h i hi; rw [h4, if_neg e] at this; exact this
        · have := h k (by omega)
          rw [h4, if_pos rfl] at this
          rcases this with h5 | h5 <;> omega
      · rintro ⟨h5, h6⟩ i hi
        rw [h4]
        by_cases e : i = k
        · subst e; rw [if_pos rfl]; exact .inr h6
        · rw [if_neg e]; exact h5 i hi
    have hatok : ∀ s : Nat, AtOk l ((balAt l c k).set k (s : Int)) := by
      intro s i hi
      rw [getD_set _ _ _ _ (by rw [balAt_len]; omega)]
      by_cases e : i = k
      · rw [if_pos e]; exact .inr (by omega)
      · rw [if_neg e]
        by_cases hik : i < k
        · rw [balAt_val hik (by omega)]; exact .inr (h1 i hik).1
        · exact .inl (balAt_free (by omega) hi)
    have htest : ∀ s : Nat, leastB l c ((balAt l c k).set k (s : Int)) ((nSt l c : Nat) * c) = true ↔ ∃ st, Valid l c (nSt l c) st ∧ (∀ i, i < k → st i = balA l c i) ∧ st k = s := by
      intro s
      rw [leastB_iff hl (hatok s) (by omega)]
      constructor
      · rintro ⟨st, hv, ha⟩; exact ⟨st, hv, (hag s st).1 ha⟩
      · rintro ⟨st, hv, ha⟩; exact ⟨st, hv, (hag s st).2 ha⟩
    have hmin : ∀ st, Valid l c (nSt l c) st → (∀ j, j < k → st j = balA l c j) → balA l c k ≤ st k := by
      intro st hv ha
      have hr := hv.rng k (by omega)
      by_cases h4 : balA l c k ≤ st k
      · exact h4
      · exfalso
        have h5 := findN_min (p := fun s => leastB l c ((balAt l c k).set k (s : Int)) ((nSt l c : Nat) * c)) (m := nSt l c - 1) (j := (st k).toNat) (by
          have : (firstK l c (balAt l c k) k (nSt l c) : Int) = balA l c k := hx.symm
          unfold firstK at this
          omega)
        have h6 := (htest (st k).toNat).2 ⟨st, hv, ha, by omega⟩
        rw [h6] at h5; cases h5
    have hex : ∃ st, Valid l c (nSt l c) st ∧ (∀ i, i < k → st i = balA l c i) ∧ st k = balA l c k := by
      by_cases hlt : firstK l c (balAt l c k) k (nSt l c) < nSt l c - 1
      · have := findN_ok (p := fun s => leastB l c ((balAt l c k).set k (s : Int)) ((nSt l c : Nat) * c)) (m := nSt l c - 1) hlt
        obtain ⟨st, hv, ha, he⟩ := (htest _).1 this
        exact ⟨st, hv, ha, by rw [he, hx]; rfl⟩
      · have h5 := hmin st0 hv0 ha0
        have hr := hv0.rng k (by omega)
        exact ⟨st0, hv0, ha0, by omega⟩
    refine ⟨fun i hi => ?_, ?_, fun i hi => ?_⟩
    · by_cases e : i = k
      · subst e; rw [hx]; omega
      · exact h1 i (by omega)
    · obtain ⟨st, hv, ha, he⟩ := hex
      refine ⟨st, hv, fun i hi => ?_⟩
      by_cases e : i = k
      · subst e; exact he
      · exact ha i (by omega)
    · by_cases e : i = k
      · subst e; exact hmin
      · exact h3 i (by omega)
theorem load_ext {l : List Opn} {st st' : Nat → Int} {k : Int} (h : ∀ i, i < l.length → st' i = st i) : load l st' k (List.range l.length) = load l st k (List.range l.length) :=
  load_other _ fun i hi => h i (List.mem_range.1 hi)
theorem Valid.ext {l : List Opn} {c K : Int} {st st' : Nat → Int} (h : Valid l c K st) (hl : LineOk l c) (he : ∀ i, i < l.length → st' i = st i) : Valid l c K st' :=
  ⟨fun i hi => by rw [he i hi]; exact h.rng i hi, fun i hi a ha => by rw [he i hi, he _ (hl.idx i hi a ha).2]; exact h.ord i hi a ha, fun k => by rw [load_ext he]; exact h.fit k⟩
theorem bal_valid {l : List Opn} {c : Int} (hl : LineOk l c) : Valid l c (nSt l c) (balA l c) := by
  obtain ⟨_, ⟨st, hv, ha⟩, _⟩ := bal_inv hl l.length (Nat.le_refl _)
  exact hv.ext hl fun i hi => (ha i hi).symm
theorem bal_first {l : List Opn} {c : Int} (hl : LineOk l c) {st : Nat → Int} (hv : Valid l c (nSt l c) st) {i : Nat} (hi : i < l.length) (h : ∀ j, j < i → st j = balA l c j) : balA l c i ≤ st i :=
  (bal_inv hl l.length (Nat.le_refl _)).2.2 i hi st hv h
theorem bal_rng {l : List Opn} {c : Int} (hl : LineOk l c) {i : Nat} (hi : i < l.length) : 0 ≤ balA l c i ∧ balA l c i < nSt l c := (bal_valid hl).rng i hi
end Go.Proofs.Ytlbkfphepneflaa
