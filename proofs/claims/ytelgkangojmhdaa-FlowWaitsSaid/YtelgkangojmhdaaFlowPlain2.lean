/- Plain laws of the flow of bundles: what a run of the simulation is. No program in sight. -/
import Derived.Test.YtelgkangojmhdaaFlowPlain
import Derived.Test.YtelgkangojmhdaaG3
namespace Go.Proofs.Ytelgkangojmhdaa

theorem scanO_congr {f g : Nat → Nat → Option Int} {b n : Nat} (h : ∀ o, o < n → f b o = g b o) (x : Option (Nat × Nat × Int)) : ∀ k, k ≤ n → scanO f b x k = scanO g b x k := by
  intro k
  induction k with
  | zero => intro _; rfl
  | succ k ih => intro hk; unfold scanO; rw [ih (by omega), h k (by omega)]
theorem scanB_congr {f g : Nat → Nat → Option Int} {n m : Nat} (h : ∀ b o, b < m → o < n → f b o = g b o) : ∀ k, k ≤ m → scanB f n k = scanB g n k := by
  intro k
  induction k with
  | zero => intro _; rfl
  | succ k ih => intro hk; unfold scanB; rw [ih (by omega), scanO_congr (fun o ho => h k o (by omega) ho) _ n (Nat.le_refl _)]
/-- What the simulation has checked. -/
structure FlowOk (l : List Opn) (K : Nat) (at_ : List Int) (sb : List Bn) (ds : List M.Dn) : Prop where
  line : LineOk l 1000000
  len : l.length ≤ 16
  mins : ∀ i, i < l.length → mn l i ≤ 10000
  atl : at_.length = l.length
  atr : ∀ i, i < l.length → 0 ≤ at_.getD i 0 ∧ at_.getD i 0 < K
  pl : ∀ b ∈ sb, 1 ≤ b.tp - b.fr ∧ b.tp - b.fr ≤ 40
  nd : (sb.map Bn.tk).Nodup
  asc : sb.Pairwise (fun x y => x.tk ≤ y.tk)
  dn : M.chk ds = 0
/-- The tasks are those of a run. -/
def SimOk (l : List Opn) (at_ : List Int) (ds : List M.Dn) (sb : List Bn) (ts : List Tsk) : Prop :=
  ∀ k t, ts[k]? = some t → ∃ b o s, pickP l at_ sb (ts.take k) = some (b, o, s) ∧ t = tskOf l at_ ds (sb.getD b bn0) o s ∧ M.finErr ds s (wk l (sb.getD b bn0) o) = 0 ∧ t.b ≤ 1073741824
theorem SimOk.nil {l : List Opn} {at_ : List Int} {ds : List M.Dn} {sb : List Bn} : SimOk l at_ ds sb [] := fun k t h => by simp at h
theorem SimOk.take {l : List Opn} {at_ : List Int} {ds : List M.Dn} {sb : List Bn} {ts : List Tsk} (h : SimOk l at_ ds sb ts) (n : Nat) : SimOk l at_ ds sb (ts.take n) := by
  intro k t ht
  rw [List.getElem?_take] at ht
  split at ht
  · rename_i hk
    obtain ⟨b, o, s, h1, h2⟩ := h k t ht
    exact ⟨b, o, s, by rw [List.take_take, Nat.min_eq_left (by omega)]; exact h1, h2⟩
  · cases ht
theorem SimOk.snoc {l : List Opn} {at_ : List Int} {ds : List M.Dn} {sb : List Bn} {ts : List Tsk} {b o : Nat} {s : Int} (h : SimOk l at_ ds sb ts) (hp : pickP l at_ sb ts = some (b, o, s)) (he : M.finErr ds s (wk l (sb.getD b bn0) o) = 0) (hm : (tskOf l at_ ds (sb.getD b bn0) o s).b ≤ 1073741824) :
    SimOk l at_ ds sb (ts ++ [tskOf l at_ ds (sb.getD b bn0) o s]) := by
  intro k t ht
  by_cases hk : k < ts.length
  · rw [List.getElem?_append_left hk] at ht
    rw [List.take_append_of_le_length (by omega)]
    exact h k t ht
  · rw [List.getElem?_append_right (by omega)] at ht
    have hkk : k = ts.length := by have := (List.getElem?_eq_some_iff.1 ht).1; simp at this; omega
    subst hkk
    simp at ht
    subst ht
    rw [List.take_append_of_le_length (Nat.le_refl _), List.take_length]
    exact ⟨b, o, s, hp, rfl, he, hm⟩
theorem bmem {sb : List Bn} {b : Nat} (h : b < sb.length) : sb.getD b bn0 ∈ sb := by
  rw [List.getD_eq_getElem?_getD, List.getElem?_eq_getElem h]; exact List.getElem_mem h
theorem pickP_some {l : List Opn} {at_ : List Int} {sb : List Bn} {ts : List Tsk} {b o : Nat} {s : Int} (h : pickP l at_ sb ts = some (b, o, s)) :
    b < sb.length ∧ o < l.length ∧ erl l at_ ts (sb.getD b bn0).tk o = some s ∧ ∀ b' o' s', b' < sb.length → o' < l.length → erl l at_ ts (sb.getD b' bn0).tk o' = some s' → s < s' ∨ (s = s' ∧ (b < b' ∨ (b = b' ∧ o ≤ o'))) := by
  obtain ⟨⟨h1, h2⟩, h3, h4⟩ := (scan_best _ _ _).2 b o s h
  exact ⟨h1, h2, h3, fun b' o' s' hb ho hs => h4 b' o' s' ⟨hb, ho⟩ hs⟩
theorem pickP_none {l : List Opn} {at_ : List Int} {sb : List Bn} {ts : List Tsk} (h : pickP l at_ sb ts = none) : ∀ b o, b < sb.length → o < l.length → erl l at_ ts (sb.getD b bn0).tk o = none :=
  fun b o hb ho => (scan_best _ _ _).1 h b o ⟨hb, ho⟩

section
variable {l : List Opn} {K : Nat} {at_ : List Int} {sb : List Bn} {ds : List M.Dn} {ts : List Tsk}
/-- What each task of a run is. -/
structure TskOk (l : List Opn) (at_ : List Int) (ds : List M.Dn) (sb : List Bn) (before : List Tsk) (t : Tsk) (b o : Nat) : Prop where
  hb : b < sb.length
  ho : o < l.length
  tk : t.tk = (sb.getD b bn0).tk
  op : t.op = o
  st : t.st = at_.getD o 0
  er : erl l at_ before t.tk o = some t.a
  fe : M.finErr ds t.a (wk l (sb.getD b bn0) o) = 0
  en : t.b = M.finT ds (mc l o) t.a (wk l (sb.getD b bn0) o)
  mx : t.b ≤ 1073741824
  ge : t.a ≤ t.b
  a0 : 0 ≤ t.a
theorem SimOk.nth (h : SimOk l at_ ds sb ts) {k : Nat} {t : Tsk} (ht : ts[k]? = some t) : ∃ b o, TskOk l at_ ds sb (ts.take k) t b o ∧ ∀ b' o' s', b' < sb.length → o' < l.length → erl l at_ (ts.take k) (sb.getD b' bn0).tk o' = some s' → t.a < s' ∨ (t.a = s' ∧ (b < b' ∨ (b = b' ∧ o ≤ o'))) := by
  obtain ⟨b, o, s, h1, rfl, h3, h4⟩ := h k t ht
  obtain ⟨g1, g2, g3, g4⟩ := pickP_some h1
  have hle := (M.finT_le (m := mc l o) h3).1
  have h0 := (M.finErr_zero h3).2.1
  exact ⟨b, o, ⟨g1, g2, rfl, rfl, rfl, g3, h3, rfl, h4, hle, h0⟩, g4⟩
theorem SimOk.mem (h : SimOk l at_ ds sb ts) {t : Tsk} (ht : t ∈ ts) : 0 ≤ t.a ∧ t.a ≤ t.b ∧ t.b ≤ 1073741824 := by
  obtain ⟨k, hk, e⟩ := List.getElem_of_mem ht
  obtain ⟨b, o, hok, _⟩ := h.nth (k := k) (t := t) (by rw [List.getElem?_eq_getElem hk, e])
  exact ⟨hok.a0, hok.ge, hok.mx⟩
/-- Each pair has one task at most. -/
def tkey (t : Tsk) : Int × Int := (t.tk, t.op)
theorem SimOk.keys (h : SimOk l at_ ds sb ts) : (ts.map tkey).Nodup ∧ ∀ t ∈ ts, ∃ b o : Nat, b < sb.length ∧ o < l.length ∧ tkey t = ((sb.getD b bn0).tk, (o : Int)) := by
  constructor
  · unfold List.Nodup
    rw [List.pairwise_map, List.pairwise_iff_getElem]
    intro i j hi hj hij e
    obtain ⟨b, o, hok, _⟩ := h.nth (k := j) (List.getElem?_eq_getElem hj)
    have hn := (erl_some hok.er).1
    rw [fnd_none] at hn
    refine hn ts[i] ?_ ?_
    · rw [List.mem_take_iff_getElem]; exact ⟨i, by omega, rfl⟩
    · unfold tkey at e
      simp only [Prod.mk.injEq] at e
      exact ⟨e.1, by rw [e.2, hok.op]⟩
  · intro t ht
    obtain ⟨k, hk, e⟩ := List.getElem_of_mem ht
    obtain ⟨b, o, hok, _⟩ := h.nth (k := k) (t := t) (by rw [List.getElem?_eq_getElem hk, e])
    exact ⟨b, o, hok.hb, hok.ho, by unfold tkey; rw [hok.tk, hok.op]⟩
/-- All pairs of a ticket and an operation. -/
def pairs (n : Nat) (sb : List Bn) : List (Int × Int) := sb.flatMap fun b => (List.range n).map fun o => (b.tk, ((o : Nat) : Int))
theorem pairs_len (n : Nat) (sb : List Bn) : (pairs n sb).length = n * sb.length := by
  unfold pairs
  induction sb with
  | nil => simp
  | cons b sb ih => rw [List.flatMap_cons, List.length_append, ih]; simp [Nat.mul_add, Nat.add_comm]
theorem mem_pairs {n : Nat} {sb : List Bn} {p : Int × Int} : p ∈ pairs n sb ↔ ∃ b ∈ sb, ∃ o : Nat, o < n ∧ p = (b.tk, (o : Int)) := by
  unfold pairs
  rw [List.mem_flatMap]
  constructor
  · rintro ⟨b, hb, h⟩
    obtain ⟨o, ho, rfl⟩ := List.mem_map.1 h
    exact ⟨b, hb, o, List.mem_range.1 ho, rfl⟩
  · rintro ⟨b, hb, o, ho, rfl⟩
    exact ⟨b, hb, List.mem_map.2 ⟨o, List.mem_range.2 ho, rfl⟩⟩
theorem pairs_nodup {n : Nat} {sb : List Bn} (h : (sb.map Bn.tk).Nodup) : (pairs n sb).Nodup := by
  induction sb with
  | nil => exact List.nodup_nil
  | cons b sb ih =>
    rw [List.map_cons, List.nodup_cons] at h
    have e : pairs n (b :: sb) = ((List.range n).map fun o => (b.tk, ((o : Nat) : Int))) ++ pairs n sb := rfl
    rw [e, List.nodup_append]
    refine ⟨?_, ih h.2, ?_⟩
    · unfold List.Nodup
      rw [List.pairwise_map]
      refine List.Pairwise.imp ?_ List.nodup_range
      intro a c hne e
      simp only [Prod.mk.injEq] at e
      exact hne (by omega)
    · intro x hx y hy e
      subst e
      obtain ⟨o, _, rfl⟩ := List.mem_map.1 hx
      obtain ⟨b', hb', o', _, e⟩ := mem_pairs.1 hy
      simp only [Prod.mk.injEq] at e
      exact h.1 (List.mem_map.2 ⟨b', hb', e.1.symm⟩)
theorem SimOk.len (h : SimOk l at_ ds sb ts) : ts.length ≤ l.length * sb.length := by
  obtain ⟨h1, h2⟩ := h.keys
  have hs : ts.map tkey ⊆ pairs l.length sb := by
    intro p hp
    obtain ⟨t, ht, rfl⟩ := List.mem_map.1 hp
    obtain ⟨b, o, hb, ho, e⟩ := h2 t ht
    exact mem_pairs.2 ⟨_, bmem hb, o, ho, e⟩
  have := List.Nodup.length_le_of_subset h1 hs
  rw [pairs_len, List.length_map] at this
  exact this
theorem fnd_key {k o : Int} : fnd ts k o ≠ none ↔ (k, o) ∈ ts.map tkey := by
  rw [ne_eq, fnd_none, List.mem_map]
  constructor
  · intro h
    by_cases hx : ∃ t, t ∈ ts ∧ tkey t = (k, o)
    · obtain ⟨t, h1, h2⟩ := hx; exact ⟨t, h1, h2⟩
    · exfalso
      apply h
      intro t ht e
      exact hx ⟨t, ht, by unfold tkey; rw [e.1, e.2]⟩
  · rintro ⟨t, ht, e⟩ h
    unfold tkey at e
    simp only [Prod.mk.injEq] at e
    exact h t ht e
/-- As long as a pair has no task, one can begin. -/
theorem sim_more (hf : FlowOk l K at_ sb ds) {b : Nat} {o : Nat} (ho : o < l.length) (hno : fnd ts (sb.getD b bn0).tk o = none) : ∃ o' s, o' < l.length ∧ erl l at_ ts (sb.getD b bn0).tk o' = some s := by
  obtain ⟨pos, p1, p2, p3⟩ := hf.line.pos
  have key : ∀ n o, o < l.length → pos o ≤ n → fnd ts (sb.getD b bn0).tk (o : Nat) = none → ∃ o' s, o' < l.length ∧ erl l at_ ts (sb.getD b bn0).tk o' = some s := by
    intro n
    induction n with
    | zero =>
      intro o ho hp hno
      have haf : ∀ a ∈ af l o, fnd ts (sb.getD b bn0).tk a ≠ none := fun a ha => absurd (p3 o ho a ha) (by omega)
      obtain ⟨v, hv⟩ := aftMax_all (m := busyOf ts (at_.getD o 0)) haf
      exact ⟨o, v, ho, by unfold erl; rw [hno]; exact hv⟩
    | succ n ih =>
      intro o ho hp hno
      by_cases haf : ∀ a ∈ af l o, fnd ts (sb.getD b bn0).tk a ≠ none
      · obtain ⟨v, hv⟩ := aftMax_all (m := busyOf ts (at_.getD o 0)) haf
        exact ⟨o, v, ho, by unfold erl; rw [hno]; exact hv⟩
      · obtain ⟨a, ha⟩ : ∃ a, a ∈ af l o ∧ fnd ts (sb.getD b bn0).tk a = none := by
          by_cases hx : ∃ a, a ∈ af l o ∧ fnd ts (sb.getD b bn0).tk a = none
          · exact hx
          · exfalso; exact haf fun a ha e => hx ⟨a, ha, e⟩
        have hidx := hf.line.idx o ho a ha.1
        have hp3 := p3 o ho a ha.1
        exact ih a.toNat hidx.2 (by omega) (by rw [show ((a.toNat : Nat) : Int) = a from by omega]; exact ha.2)
  exact key (pos o) o ho (Nat.le_refl _) hno
theorem sim_end (hf : FlowOk l K at_ sb ds) (h : SimOk l at_ ds sb ts) (hp : pickP l at_ sb ts = none) : ts.length = l.length * sb.length ∧ ∀ b o, b < sb.length → o < l.length → fnd ts (sb.getD b bn0).tk (o : Nat) ≠ none := by
  have hall : ∀ b o, b < sb.length → o < l.length → fnd ts (sb.getD b bn0).tk (o : Nat) ≠ none := by
    intro b o hb ho hno
    obtain ⟨o', s, h1, h2⟩ := sim_more hf ho hno
    rw [pickP_none hp b o' hb h1] at h2; cases h2
  refine ⟨?_, hall⟩
  have h1 := h.len
  have hs : pairs l.length sb ⊆ ts.map tkey := by
    intro p hp'
    obtain ⟨b, hb, o, ho, rfl⟩ := mem_pairs.1 hp'
    obtain ⟨i, hi, e⟩ := List.getElem_of_mem hb
    have := hall i o hi ho
    rw [List.getD_eq_getElem?_getD, List.getElem?_eq_getElem hi, e] at this
    exact fnd_key.1 this
  have := List.Nodup.length_le_of_subset (pairs_nodup hf.nd) hs
  rw [pairs_len, List.length_map] at this
  omega
theorem sim_go (h : SimOk l at_ ds sb ts) {b o : Nat} {s : Int} (hp : pickP l at_ sb ts = some (b, o, s)) : ts.length < l.length * sb.length := by
  obtain ⟨hb, ho, he, _⟩ := pickP_some hp
  obtain ⟨h1, h2⟩ := h.keys
  have hnew : ((sb.getD b bn0).tk, (o : Int)) ∉ ts.map tkey := fun hm => fnd_key.2 hm (erl_some he).1
  have hn : (((sb.getD b bn0).tk, (o : Int)) :: ts.map tkey).Nodup := List.nodup_cons.2 ⟨hnew, h1⟩
  have hs : (((sb.getD b bn0).tk, (o : Int)) :: ts.map tkey) ⊆ pairs l.length sb := by
    intro p hp'
    rcases List.mem_cons.1 hp' with rfl | hp'
    · exact mem_pairs.2 ⟨_, bmem hb, o, ho, rfl⟩
    · obtain ⟨t, ht, rfl⟩ := List.mem_map.1 hp'
      obtain ⟨b', o', hb', ho', e⟩ := h2 t ht
      exact mem_pairs.2 ⟨_, bmem hb', o', ho', e⟩
  have := List.Nodup.length_le_of_subset hn hs
  rw [pairs_len, List.length_cons, List.length_map] at this
  omega
/-- The work of a pair is within bounds; what can go wrong is the range alone. -/
theorem wk_bnd (hf : FlowOk l K at_ sb ds) {b o : Nat} (hb : b < sb.length) (ho : o < l.length) : 1 ≤ wk l (sb.getD b bn0) o ∧ wk l (sb.getD b bn0) o ≤ 400000 := by
  have h1 := hf.pl _ (bmem hb)
  have h2 := hf.line.m1 o ho
  have h3 := hf.mins o ho
  unfold wk
  constructor
  · have := Int.mul_le_mul h2.1 h1.1 (by omega) (by omega)
    omega
  · have := Int.mul_le_mul h3 h1.2 (by omega) (by omega)
    omega
theorem sim_err (hf : FlowOk l K at_ sb ds) {b o : Nat} (hb : b < sb.length) (ho : o < l.length) (s : Int) (hs : 0 ≤ s) (hs1 : s ≤ 1073741824) : M.finErr ds s (wk l (sb.getD b bn0) o) = 0 := by
  have := wk_bnd hf hb ho
  exact M.finErr_mk hf.dn hs hs1 (by omega) (by omega)
theorem sim_start (h : SimOk l at_ ds sb ts) {b o : Nat} {s : Int} (hp : pickP l at_ sb ts = some (b, o, s)) : 0 ≤ s ∧ s ≤ 1073741824 := by
  obtain ⟨_, _, he, _⟩ := pickP_some hp
  obtain ⟨_, h2, _, h4⟩ := erl_some he
  have h0 := busyOf_nonneg (at_.getD o 0) ts
  refine ⟨by omega, ?_⟩
  rcases h4 with rfl | ⟨a, _, t, ht, rfl⟩
  · rcases busyOf_is (at_.getD o 0) ts with h5 | ⟨t, ht, _, h6⟩
    · rw [h5]; omega
    · rw [← h6]; exact (h.mem ht).2.2
  · exact (h.mem (fnd_some ht).1).2.2
theorem simR_none {f : Nat} (hp : pickP l at_ sb ts = none) : simR l at_ ds sb f ts = (0, ts) := by
  cases f with
  | zero => rfl
  | succ f => unfold simR; rw [hp]
theorem simR_long {f b o : Nat} {s : Int} (hp : pickP l at_ sb ts = some (b, o, s)) (he : M.finErr ds s (wk l (sb.getD b bn0) o) = 0) (hm : 1073741824 < (tskOf l at_ ds (sb.getD b bn0) o s).b) : simR l at_ ds sb (f + 1) ts = (3, []) := by
  unfold simR; rw [hp]; simp only; rw [if_neg (fun h => h he), if_pos hm]
theorem simR_next {f b o : Nat} {s : Int} (hp : pickP l at_ sb ts = some (b, o, s)) (he : M.finErr ds s (wk l (sb.getD b bn0) o) = 0) (hm : ¬ 1073741824 < (tskOf l at_ ds (sb.getD b bn0) o s).b) : simR l at_ ds sb (f + 1) ts = simR l at_ ds sb f (ts ++ [tskOf l at_ ds (sb.getD b bn0) o s]) := by
  conv => lhs; unfold simR
  rw [hp]; simp only; rw [if_neg (fun h => h he), if_neg hm]
end
end Go.Proofs.Ytelgkangojmhdaa
