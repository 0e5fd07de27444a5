/- Several texts as one: FlowPlain5, FlowPlain6, FlowPlain7. -/
import Derived.Test.YtelgkangojmhdaaG7
/- Plain laws of the flow of bundles: the document's next pair is the program's; what a whole run is. No program in sight. -/
namespace Go.Proofs.Ytelgkangojmhdaa

/-! ## The document's next pair -/
def updR (tk : Nat → Int) (x : Option (Nat × Nat × Int)) (b o : Nat) (e : Option Int) : Option (Nat × Nat × Int) :=
  match e with
  | none => x
  | some s => match x with
    | none => some (b, o, s)
    | some y => if s < y.2.2 ∨ (s = y.2.2 ∧ tk b < tk y.1) then some (b, o, s) else x
def scanRO (tk : Nat → Int) (f : Nat → Nat → Option Int) (b : Nat) (x : Option (Nat × Nat × Int)) : Nat → Option (Nat × Nat × Int)
  | 0 => x
  | k + 1 => updR tk (scanRO tk f b x k) b k (f b k)
def scanRB (tk : Nat → Int) (f : Nat → Nat → Option Int) (n : Nat) : Nat → Option (Nat × Nat × Int)
  | 0 => none
  | b + 1 => scanRO tk f b (scanRB tk f n b) n
/-- The first of the pairs with the least beginning and the least ticket. -/
def IsBestR (tk : Nat → Int) (f : Nat → Nat → Option Int) (P : Nat → Nat → Prop) (x : Option (Nat × Nat × Int)) : Prop :=
  (x = none → ∀ b o, P b o → f b o = none) ∧ ∀ b o s, x = some (b, o, s) → P b o ∧ f b o = some s ∧ ∀ b' o' s', P b' o' → f b' o' = some s' → s < s' ∨ (s = s' ∧ (tk b < tk b' ∨ (tk b = tk b' ∧ (b < b' ∨ (b = b' ∧ o ≤ o')))))
theorem isBestR_upd {tk : Nat → Int} {f : Nat → Nat → Option Int} {P : Nat → Nat → Prop} {x : Option (Nat × Nat × Int)} {b o : Nat} (h : IsBestR tk f P x) (hP : ∀ b' o', P b' o' → b' < b ∨ (b' = b ∧ o' < o)) :
    IsBestR tk f (fun b' o' => P b' o' ∨ (b' = b ∧ o' = o)) (updR tk x b o (f b o)) := by
  unfold updR
  cases hf : f b o with
  | none =>
    refine ⟨fun hx b' o' hp => ?_, fun b' o' s hx => ?_⟩
    · rcases hp with hp | ⟨rfl, rfl⟩
      · exact h.1 hx b' o' hp
      · exact hf
    · obtain ⟨h1, h2, h3⟩ := h.2 b' o' s hx
      refine ⟨.inl h1, h2, fun b2 o2 s2 hp hs => ?_⟩
      rcases hp with hp | ⟨rfl, rfl⟩
      · exact h3 b2 o2 s2 hp hs
      · rw [hf] at hs; cases hs
  | some s =>
    cases hx : x with
    | none =>
      simp only
      refine ⟨fun h => (by cases h), fun b' o' s' he => ?_⟩
      cases he
      refine ⟨.inr ⟨rfl, rfl⟩, hf, fun b2 o2 s2 hp hs => ?_⟩
      rcases hp with hp | ⟨rfl, rfl⟩
      · rw [h.1 hx b2 o2 hp] at hs; cases hs
      · rw [hf] at hs; cases hs; exact .inr ⟨rfl, .inr ⟨rfl, .inr ⟨rfl, Nat.le_refl _⟩⟩⟩
    | some y =>
      obtain ⟨yb, yo, ys⟩ := y
      obtain ⟨h1, h2, h3⟩ := h.2 yb yo ys hx
      simp only
      by_cases hlt : s < ys ∨ (s = ys ∧ tk b < tk yb)
      · rw [if_pos hlt]
        refine ⟨fun h => (by cases h), fun b' o' s' he => ?_⟩
        cases he
        refine ⟨.inr ⟨rfl, rfl⟩, hf, fun b2 o2 s2 hp hs => ?_⟩
        rcases hp with hp | ⟨rfl, rfl⟩
        · have := h3 b2 o2 s2 hp hs; omega
        · rw [hf] at hs; cases hs; exact .inr ⟨rfl, .inr ⟨rfl, .inr ⟨rfl, Nat.le_refl _⟩⟩⟩
      · rw [if_neg hlt]
        refine ⟨fun h => (by cases h), fun b' o' s' he => ?_⟩
        cases he
        refine ⟨.inl h1, h2, fun b2 o2 s2 hp hs => ?_⟩
        rcases hp with hp | ⟨rfl, rfl⟩
        · exact h3 b2 o2 s2 hp hs
        · rw [hf] at hs; cases hs
          have := hP yb yo h1
          omega
theorem isBestR_ext {tk : Nat → Int} {f : Nat → Nat → Option Int} {P Q : Nat → Nat → Prop} {x : Option (Nat × Nat × Int)} (h : IsBestR tk f P x) (e : ∀ b o, Q b o ↔ P b o) : IsBestR tk f Q x :=
  ⟨fun hx b o hp => h.1 hx b o ((e b o).1 hp), fun b o s hx => by
    obtain ⟨h1, h2, h3⟩ := h.2 b o s hx
    exact ⟨(e b o).2 h1, h2, fun b' o' s' hp hs => h3 b' o' s' ((e b' o').1 hp) hs⟩⟩
theorem scanR_best (tk : Nat → Int) (f : Nat → Nat → Option Int) (n : Nat) : ∀ m, IsBestR tk f (fun b o => b < m ∧ o < n) (scanRB tk f n m) := by
  intro m
  induction m with
  | zero => exact ⟨fun _ b o h => absurd h.1 (by omega), fun b o s h => (by cases h)⟩
  | succ m ih =>
    have key : ∀ k, k ≤ n → IsBestR tk f (fun b o => (b < m ∧ o < n) ∨ (b = m ∧ o < k)) (scanRO tk f m (scanRB tk f n m) k) := by
      intro k
      induction k with
      | zero => intro _; exact isBestR_ext ih fun b o => ⟨fun h => h.elim id fun h => absurd h.2 (by omega), .inl⟩
      | succ k ihk =>
        intro hk
        refine isBestR_ext (isBestR_upd (ihk (by omega)) fun b' o' h => ?_) fun b o => ?_
        · rcases h with h | h
          · exact .inl h.1
          · exact .inr h
        · constructor
          · rintro (h | ⟨h1, h2⟩)
            · exact .inl (.inl h)
            · by_cases e : o = k
              · exact .inr ⟨h1, e⟩
              · exact .inl (.inr ⟨h1, by omega⟩)
          · rintro ((h | h) | h)
            · exact .inl h
            · exact .inr ⟨h.1, by omega⟩
            · exact .inr ⟨h.1, by omega⟩
    refine isBestR_ext (key n (Nat.le_refl _)) fun b o => ⟨fun h => ?_, fun h => ?_⟩
    · by_cases e : b = m
      · exact .inr ⟨e, h.2⟩
      · exact .inl ⟨by omega, h.2⟩
    · rcases h with h | h
      · exact ⟨by omega, h.2⟩
      · exact ⟨by omega, h.2⟩
def tkN (bs : List Bn) (b : Nat) : Int := (bs.getD b bn0).tk
def pickR (l : List Opn) (at_ : List Int) (bs : List Bn) (ts : List Tsk) : Option (Nat × Nat × Int) := scanRB (tkN bs) (fun b o => erl l at_ ts (tkN bs b) o) l.length bs.length
/-- Where a bundle lies in a list that has the same ones. -/
theorem perm_at {p q : List Bn} (h : p.Perm q) {i : Nat} (hi : i < p.length) : ∃ j, j < q.length ∧ q.getD j bn0 = p.getD i bn0 := by
  have h1 := h.mem_iff.1 (bmem hi)
  obtain ⟨j, hj, e⟩ := List.getElem_of_mem h1
  exact ⟨j, hj, by rw [List.getD_eq_getElem?_getD, List.getElem?_eq_getElem hj, e]; rfl⟩
theorem asc_at {sb : List Bn} (h : sb.Pairwise (fun x y => x.tk ≤ y.tk)) {i j : Nat} (hi : i < j) (hj : j < sb.length) : (sb.getD i bn0).tk ≤ (sb.getD j bn0).tk := by
  have := (List.pairwise_iff_getElem.1 h) i j (by omega) hj hi
  rw [List.getD_eq_getElem?_getD, List.getElem?_eq_getElem (show i < sb.length by omega), List.getD_eq_getElem?_getD, List.getElem?_eq_getElem hj]
  exact this
section
variable {l : List Opn} {K : Nat} {at_ : List Int} {bs : List Bn} {ds : List M.Dn} {ts : List Tsk}
theorem pickR_none (h : pickP l at_ (sortB bs) ts = none) : pickR l at_ bs ts = none := by
  have hb := scanR_best (tkN bs) (fun b o => erl l at_ ts (tkN bs b) o) l.length bs.length
  cases hr : pickR l at_ bs ts with
  | none => rfl
  | some y =>
    obtain ⟨b, o, s⟩ := y
    obtain ⟨⟨h1, h2⟩, h3, _⟩ := hb.2 b o s hr
    obtain ⟨j, hj, e⟩ := perm_at (sortB_perm bs).symm h1
    have := pickP_none h j o hj h2
    rw [e] at this
    have h3' : erl l at_ ts (tkN bs b) o = some s := h3
    unfold tkN at h3'
    rw [this] at h3'
    cases h3'
theorem pickR_some (hnd : (bs.map Bn.tk).Nodup) {b o : Nat} {s : Int} (h : pickP l at_ (sortB bs) ts = some (b, o, s)) : ∃ b', b' < bs.length ∧ bs.getD b' bn0 = (sortB bs).getD b bn0 ∧ pickR l at_ bs ts = some (b', o, s) := by
  have hb := scanR_best (tkN bs) (fun b o => erl l at_ ts (tkN bs b) o) l.length bs.length
  obtain ⟨h1, h2, h3, h4⟩ := pickP_some h
  obtain ⟨i, hi, ei⟩ := perm_at (sortB_perm bs) h1
  have h3' : erl l at_ ts (tkN bs i) o = some s := by unfold tkN; rw [ei]; exact h3
  cases hr : pickR l at_ bs ts with
  | none =>
    have := hb.1 hr i o ⟨hi, h2⟩
    simp only at this
    rw [h3'] at this
    cases this
  | some y =>
    obtain ⟨b2, o2, s2⟩ := y
    obtain ⟨⟨g1, g2⟩, g3, g4⟩ := hb.2 b2 o2 s2 hr
    obtain ⟨j, hj, ej⟩ := perm_at (sortB_perm bs).symm g1
    have k1 := g4 i o s ⟨hi, h2⟩ h3'
    have k2 := h4 j o2 s2 hj g2 (by rw [ej]; exact g3)
    have hs : s2 = s := by omega
    have t1 : tkN bs b2 ≤ tkN bs i := by omega
    have t2 : tkN bs i ≤ tkN bs b2 := by
      have : b ≤ j := by omega
      unfold tkN
      rw [ei, ← ej]
      by_cases e : b = j
      · rw [e]; exact Int.le_refl _
      · exact asc_at (sortB_asc bs) (by omega) hj
    have hbi : b2 = i := tk_inj hnd g1 hi (by unfold tkN at t1 t2; omega)
    subst hbi
    have hbj : b = j := tk_inj (((sortB_perm bs).map Bn.tk).nodup_iff.2 hnd) h1 hj (by rw [← ei, ej])
    have ho : o2 = o := by omega
    exact ⟨b2, g1, ei, by rw [ho, hs]⟩
/-! ## What a whole run is -/
theorem simR_ok (hf : FlowOk l K at_ bs ds) : ∀ f (ts : List Tsk), SimOk l at_ ds bs ts → f = l.length * bs.length - ts.length →
    simR l at_ ds bs f ts = (3, []) ∨ ∃ ts', simR l at_ ds bs f ts = (0, ts') ∧ SimOk l at_ ds bs ts' ∧ pickP l at_ bs ts' = none := by
  intro f
  induction f with
  | zero =>
    intro ts h he
    refine .inr ⟨ts, rfl, h, ?_⟩
    cases hp : pickP l at_ bs ts with
    | none => rfl
    | some y => obtain ⟨b, o, s⟩ := y; have := sim_go h hp; omega
  | succ f ih =>
    intro ts h he
    cases hp : pickP l at_ bs ts with
    | none => exact .inr ⟨ts, simR_none hp, h, hp⟩
    | some y =>
      obtain ⟨b, o, s⟩ := y
      obtain ⟨hb, ho, _, _⟩ := pickP_some hp
      have hs := sim_start h hp
      have hfe := sim_err hf hb ho s hs.1 hs.2
      by_cases hm : 1073741824 < (tskOf l at_ ds (bs.getD b bn0) o s).b
      · exact .inl (simR_long hp hfe hm)
      · rw [simR_next hp hfe hm]
        exact ih _ (h.snoc hp hfe (by omega)) (by rw [List.length_append, List.length_singleton]; omega)
end
/-- What the tasks of Simulate are. -/
structure Ran (l : List Opn) (ss : List (List Int)) (at_ : List Int) (bs : List Bn) (ds : List M.Dn) (ts : List Tsk) : Prop where
  com : comErr l ss bs ds = 0
  pt : puts l.length (flat ss) = (0, at_)
  full : hasB at_ (-1) = false
  ok : FlowOk l ss.length at_ (sortB bs) ds
  sd : Sound l
  sim : SimOk l at_ ds (sortB bs) ts
  nop : pickP l at_ (sortB bs) ts = none
theorem simRes_cases (l : List Opn) (ss : List (List Int)) (bs : List Bn) (ds : List M.Dn) :
    ((simRes l ss bs ds).1 ≠ 0 ∧ (simRes l ss bs ds).2 = []) ∨ ((simRes l ss bs ds).1 = 0 ∧ ∃ at_, Ran l ss at_ bs ds (simRes l ss bs ds).2) := by
  by_cases hz : comErr l ss bs ds = 0
  · obtain ⟨at_, hp, hg, hf⟩ := flowOk_of hz
    have hlen : (sortB bs).length = bs.length := (sortB_perm bs).length_eq
    have e : simRes l ss bs ds = simR l at_ ds (sortB bs) (l.length * (sortB bs).length) [] := by
      unfold simRes; rw [if_neg (by simp [hz]), hp, hlen]
    rw [e]
    rcases simR_ok hf _ [] SimOk.nil rfl with h | ⟨ts', h1, h2, h3⟩
    · exact .inl (by rw [show l.length * (sortB bs).length = l.length * (sortB bs).length - ([] : List Tsk).length from rfl, h]; simp)
    · refine .inr ?_
      rw [show l.length * (sortB bs).length = l.length * (sortB bs).length - ([] : List Tsk).length from rfl, h1]
      exact ⟨rfl, at_, hz, hp, hg, hf, sound_of (ordErr_zero (com_zero hz).1).1, h2, h3⟩
  · have e : simRes l ss bs ds = (comErr l ss bs ds, []) := by unfold simRes; rw [if_pos hz]
    rw [e]
    exact .inl ⟨hz, rfl⟩
section
variable {l : List Opn} {ss : List (List Int)} {at_ : List Int} {bs : List Bn} {ds : List M.Dn} {ts : List Tsk}
theorem Ran.len (h : Ran l ss at_ bs ds ts) : ts.length = l.length * bs.length := by
  rw [(sim_end h.ok h.sim h.nop).1, (sortB_perm bs).length_eq]
theorem Ran.bn (h : Ran l ss at_ bs ds ts) : BnOk bs := (com_zero h.com).2.2.1
theorem Ran.has (h : Ran l ss at_ bs ds ts) {b : Bn} (hb : b ∈ bs) {o : Nat} (ho : o < l.length) : ∃ t, fnd ts b.tk o = some t := by
  have hb' := (sortB_perm bs).mem_iff.2 hb
  obtain ⟨i, hi, e⟩ := List.getElem_of_mem hb'
  have := (sim_end h.ok h.sim h.nop).2 i o hi ho
  rw [List.getD_eq_getElem?_getD, List.getElem?_eq_getElem hi, e] at this
  cases hf : fnd ts b.tk o with
  | none => exact absurd hf this
  | some t => exact ⟨t, rfl⟩
/-- What each task is. -/
structure TkIs (l : List Opn) (at_ : List Int) (bs : List Bn) (ds : List M.Dn) (before : List Tsk) (t : Tsk) (x : Bn) (o : Nat) : Prop where
  mem : x ∈ bs
  ho : o < l.length
  tk : t.tk = x.tk
  op : t.op = o
  st : t.st = at_.getD o 0
  er : erl l at_ before t.tk o = some t.a
  fe : M.finErr ds t.a (wk l x o) = 0
  en : t.b = M.finT ds (mc l o) t.a (wk l x o)
  mx : t.b ≤ 1073741824
  ge : t.a ≤ t.b
  a0 : 0 ≤ t.a
theorem Ran.nth (h : Ran l ss at_ bs ds ts) {k : Nat} {t : Tsk} (ht : ts[k]? = some t) : ∃ x o, TkIs l at_ bs ds (ts.take k) t x o := by
  obtain ⟨b, o, hk, _⟩ := h.sim.nth ht
  exact ⟨(sortB bs).getD b bn0, o, (sortB_perm bs).mem_iff.1 (bmem hk.hb), hk.ho, hk.tk, hk.op, hk.st, hk.er, hk.fe, hk.en, hk.mx, hk.ge, hk.a0⟩
theorem Ran.mem (h : Ran l ss at_ bs ds ts) {t : Tsk} (ht : t ∈ ts) : ∃ k x o, ts[k]? = some t ∧ TkIs l at_ bs ds (ts.take k) t x o := by
  obtain ⟨k, hk, e⟩ := List.getElem_of_mem ht
  have hk' : ts[k]? = some t := by rw [List.getElem?_eq_getElem hk, e]
  obtain ⟨x, o, hx⟩ := h.nth hk'
  exact ⟨k, x, o, hk', hx⟩
theorem bn_uniq (h : BnOk bs) {x y : Bn} (hx : x ∈ bs) (hy : y ∈ bs) (e : x.tk = y.tk) : x = y := by
  obtain ⟨i, hi, ei⟩ := List.getElem_of_mem hx
  obtain ⟨j, hj, ej⟩ := List.getElem_of_mem hy
  have hij := tk_inj h.nd hi hj (by rw [List.getD_eq_getElem?_getD, List.getElem?_eq_getElem hi, List.getD_eq_getElem?_getD, List.getElem?_eq_getElem hj, ei, ej]; exact e)
  subst hij
  rw [← ei, ej]
end
end Go.Proofs.Ytelgkangojmhdaa
/- Plain laws of the flow of bundles: what holds of the tasks of a whole run (order, waiting, bounds). No program in sight. -/
namespace Go.Proofs.Ytelgkangojmhdaa

section
variable {l : List Opn} {ss : List (List Int)} {at_ : List Int} {bs : List Bn} {ds : List M.Dn} {ts : List Tsk}
theorem take_tk {α : Type} {ts : List α} {k : Nat} {u : α} (h : ts[k]? = some u) : ts.take (k + 1) = ts.take k ++ [u] := by rw [List.take_add_one, h]; rfl
/-! ## The check accepts -/
theorem ixN_mk {bs : List Bn} (hnd : (bs.map Bn.tk).Nodup) {b : Nat} : ∀ {n : Nat}, b < n → n ≤ bs.length → ixN bs n (bs.getD b bn0).tk = some b
  | 0, h, _ => by omega
  | n + 1, h, hn => by
    unfold ixN
    by_cases e : b = n
    · subst e; rw [if_pos rfl]
    · rw [if_neg (fun h2 => e (tk_inj hnd (by omega) (by omega) h2))]
      exact ixN_mk hnd (by omega) (by omega)
theorem bn_index (h : BnOk bs) {x : Bn} (hx : x ∈ bs) : ∃ b, b < bs.length ∧ bs.getD b bn0 = x ∧ ixN bs bs.length x.tk = some b := by
  obtain ⟨b, hb, e⟩ := List.getElem_of_mem hx
  have e' : bs.getD b bn0 = x := by rw [List.getD_eq_getElem?_getD, List.getElem?_eq_getElem hb, e]; rfl
  exact ⟨b, hb, e', by rw [← e']; exact ixN_mk h.nd hb (Nat.le_refl _)⟩
theorem fnd_take {k : Int} {o : Int} {n : Nat} {p : Tsk} (h : fnd (ts.take n) k o = some p) : fnd ts k o = some p := by
  unfold fnd at *
  rw [← List.take_append_drop n ts, List.find?_append, h]; rfl
theorem tsksErr_of (h : ∀ k, k < ts.length → tskErr l at_ bs ds (ts.take k) (ts.getD k tk0) = 0) : ∀ m, m ≤ ts.length → tsksErr l at_ bs ds ts m = 0 := by
  intro m
  induction m with
  | zero => intro _; rfl
  | succ m ih => intro hm; unfold tsksErr; rw [ih (by omega), if_neg (by simp)]; exact h m (by omega)
theorem tgetD {k : Nat} {t : Tsk} (h : ts[k]? = some t) : ts.getD k tk0 = t := by rw [List.getD_eq_getElem?_getD, h]; rfl
theorem mem_take {k : Nat} {u : Tsk} (h : u ∈ ts.take k) : ∃ i, i < k ∧ ts[i]? = some u := by
  obtain ⟨i, hi, e⟩ := List.mem_take_iff_getElem.1 h
  exact ⟨i, by omega, by rw [List.getElem?_eq_getElem (by omega), e]⟩
theorem TkIs.apart {k : Nat} {t : Tsk} {x : Bn} {o : Nat} (h : TkIs l at_ bs ds (ts.take k) t x o) {u : Tsk} (hu : u ∈ ts.take k) (hs : u.st = t.st) : u.b ≤ t.a := by
  have h1 := (erl_some h.er).2.1
  have h2 := busyOf_mem (s := t.st) hu hs
  rw [h.st] at h2
  omega
theorem TkIs.new {k : Nat} {t : Tsk} {x : Bn} {o : Nat} (h : TkIs l at_ bs ds (ts.take k) t x o) {u : Tsk} (hu : u ∈ ts.take k) : ¬ (u.tk = t.tk ∧ u.op = t.op) := by
  have := (erl_some h.er).1
  rw [fnd_none] at this
  intro e
  exact this u hu ⟨e.1, by rw [e.2, h.op]⟩
theorem TkIs.after {k : Nat} {t : Tsk} {x : Bn} {o : Nat} (h : TkIs l at_ bs ds (ts.take k) t x o) {a : Int} (ha : a ∈ af l o) : ∃ p, fnd ts t.tk a = some p ∧ p.b ≤ t.a := by
  obtain ⟨p, h1, h2⟩ := (erl_some h.er).2.2.1 a ha
  exact ⟨p, fnd_take h1, h2⟩
theorem Ran.check (h : Ran l ss at_ bs ds ts) : chkF l ss bs ds ts = 0 := by
  have h1 : tsksErr l at_ bs ds ts ts.length = 0 := by
    refine tsksErr_of (fun k hk => ?_) _ (Nat.le_refl _)
    have hk' : ts[k]? = some ts[k] := List.getElem?_eq_getElem hk
    rw [tgetD hk']
    obtain ⟨x, o, hx⟩ := h.nth hk'
    obtain ⟨b, hb, e1, e2⟩ := bn_index h.bn hx.mem
    have ho : ts[k].op.toNat = o := by rw [hx.op]; simp
    have hl := hx.ho
    rw [tskErr_zero]
    refine ⟨b, by rw [hx.tk]; exact e2, by rw [hx.op]; omega, by rw [hx.op]; omega, by rw [hx.op]; exact (erl_some hx.er).1, by rw [ho]; exact hx.st, by rw [ho, e1]; exact hx.fe, by rw [ho, e1]; exact hx.en⟩
  have h2 : ts.any (earlyB l ts) = false := by
    rw [List.any_eq_false]
    intro t ht
    obtain ⟨k, x, o, hk, hx⟩ := h.mem ht
    have ho : t.op.toNat = o := by rw [hx.op]; simp
    unfold earlyB
    rw [ho, Bool.not_eq_true, List.any_eq_false]
    intro a ha
    obtain ⟨p, h3, h4⟩ := hx.after ha
    rw [h3]
    simp
    omega
  have h3 : clashN ts ts.length = false := by
    unfold clashN
    rw [List.any_eq_false]
    intro i hi
    have hi := List.mem_range.1 hi
    rw [Bool.not_eq_true, List.any_eq_false]
    intro u hu
    have hi' : ts[i]? = some ts[i] := List.getElem?_eq_getElem hi
    rw [tgetD hi']
    obtain ⟨x, o, hx⟩ := h.nth hi'
    unfold clash2
    simp
    intro e h5
    have := hx.apart hu e.symm
    omega
  unfold chkF
  rw [if_neg (by simp [h.com]), h.pt]
  dsimp only
  rw [if_neg (by simp [h1]), if_neg (by simp [h2]), if_neg (by simp [h3]), if_neg (by rw [h.len]; omega)]
/-! ## The operations before -/
def isPre (l : List Opn) (t u : Tsk) : Bool := decide (u.tk = t.tk) && hasB (af l t.op.toNat) u.op
def readyN (l : List Opn) (ts : List Tsk) (t : Tsk) (k : Nat) : Nat := ((ts.take k).filter (isPre l t)).length
theorem readyN_yes {t u : Tsk} {k : Nat} (hu : ts[k]? = some u) (h : isPre l t u = true) : readyN l ts t (k + 1) = readyN l ts t k + 1 := by
  unfold readyN; rw [take_tk hu, List.filter_append]; simp [h]
theorem readyN_no {t u : Tsk} {k : Nat} (hu : ts[k]? = some u) (h : isPre l t u = false) : readyN l ts t (k + 1) = readyN l ts t k := by
  unfold readyN; rw [take_tk hu, List.filter_append]; simp [h]
theorem readyN_le (t : Tsk) (k : Nat) : readyN l ts t k ≤ ts.length := by
  unfold readyN
  have := List.length_filter_le (isPre l t) (ts.take k)
  rw [List.length_take] at this
  omega
theorem Ran.key_inj (h : Ran l ss at_ bs ds ts) {t u : Tsk} (ht : t ∈ ts) (hu : u ∈ ts) (h1 : t.tk = u.tk) (h2 : t.op = u.op) : t = u := by
  obtain ⟨i, hi, ei⟩ := List.getElem_of_mem ht
  obtain ⟨j, hj, ej⟩ := List.getElem_of_mem hu
  have := List.getElem_inj (xs := ts.map tkey) (i := i) (j := j) (h₀ := by simpa using hi) (h₁ := by simpa using hj) h.sim.keys.1
  have e : i = j := this.1 (by simp [ei, ej, tkey, h1, h2])
  subst e
  rw [← ei, ej]
theorem Ran.ready (h : Ran l ss at_ bs ds ts) {t : Tsk} (ht : t ∈ ts) : readyN l ts t ts.length = (af l t.op.toNat).length := by
  obtain ⟨k, x, o, hk, hx⟩ := h.mem ht
  have ho : t.op.toNat = o := by rw [hx.op]; simp
  rw [ho]
  have hn1 : ((ts.filter (isPre l t)).map Tsk.op).Nodup := by
    unfold List.Nodup
    rw [List.pairwise_map]
    have hp := h.sim.keys.1
    unfold List.Nodup at hp
    rw [List.pairwise_map] at hp
    have hp' := hp.filter (isPre l t)
    refine List.Pairwise.imp_of_mem ?_ hp'
    intro a b ha hb hne e
    have h1 := (List.mem_filter.1 ha).2
    have h2 := (List.mem_filter.1 hb).2
    unfold isPre at h1 h2
    simp only [Bool.and_eq_true, decide_eq_true_eq] at h1 h2
    exact hne (by unfold tkey; rw [h1.1, h2.1, e])
  have hs1 : ((ts.filter (isPre l t)).map Tsk.op) ⊆ af l o := by
    intro a ha
    obtain ⟨u, hu, rfl⟩ := List.mem_map.1 ha
    have h1 := (List.mem_filter.1 hu).2
    unfold isPre at h1
    rw [ho] at h1
    simp only [Bool.and_eq_true] at h1
    exact hasB_mem.1 h1.2
  have hs2 : af l o ⊆ ((ts.filter (isPre l t)).map Tsk.op) := by
    intro a ha
    obtain ⟨p, h1, _⟩ := hx.after ha
    obtain ⟨h2, h3, h4⟩ := fnd_some h1
    refine List.mem_map.2 ⟨p, List.mem_filter.2 ⟨h2, ?_⟩, h4⟩
    unfold isPre
    rw [ho]
    simp only [Bool.and_eq_true, decide_eq_true_eq]
    exact ⟨h3, hasB_mem.2 (by rw [h4]; exact ha)⟩
  have hn2 : (af l o).Nodup := h.sd.nodup _ (getD_mem hx.ho)
  have e1 := List.Nodup.length_le_of_subset hn1 hs1
  have e2 := List.Nodup.length_le_of_subset hn2 hs2
  rw [List.length_map] at e1 e2
  unfold readyN
  rw [List.take_length]
  omega
theorem Ran.pre_end (h : Ran l ss at_ bs ds ts) {t u : Tsk} (ht : t ∈ ts) (hu : u ∈ ts) (hp : isPre l t u = true) : u.b ≤ t.a := by
  obtain ⟨k, x, o, hk, hx⟩ := h.mem ht
  have ho : t.op.toNat = o := by rw [hx.op]; simp
  unfold isPre at hp
  rw [ho] at hp
  simp only [Bool.and_eq_true, decide_eq_true_eq] at hp
  obtain ⟨p, h1, h2⟩ := hx.after (hasB_mem.1 hp.2)
  obtain ⟨g1, g2, g3⟩ := fnd_some h1
  have : p = u := h.key_inj g1 hu (by rw [g2, hp.1]) g3
  subst this
  exact h2
/-! ## Waiting -/
theorem busy_mono {u : Tsk} (s : Int) : busyOf ts s ≤ busyOf (ts ++ [u]) s := by rw [busyOf_snoc]; split <;> omega
theorem aftMax_mono {k : Int} : ∀ (q : List Int) {m m' v' : Int} {u : Tsk}, m ≤ m' → aftMax (ts ++ [u]) k q m' = some v' → (∃ v, aftMax ts k q m = some v ∧ v ≤ v') ∨ u.b ≤ v' := by
  intro q
  induction q with
  | nil => intro m m' v' u hm h; cases h; exact .inl ⟨m, rfl, hm⟩
  | cons x q ih =>
    intro m m' v' u hm h
    unfold aftMax at h
    rw [fnd_snoc] at h
    cases hf : fnd ts k x with
    | some t =>
      rw [hf] at h
      simp only at h
      have : aftMax ts k (x :: q) m = aftMax ts k q (max m t.b) := by
        conv => lhs; unfold aftMax
        rw [hf]
      rw [this]
      exact ih (by omega) h
    | none =>
      rw [hf] at h
      simp only at h
      by_cases e : u.tk = k ∧ u.op = x
      · rw [if_pos e] at h
        simp only at h
        have := (aftMax_take h).1
        exact .inr (by omega)
      · rw [if_neg e] at h; cases h
theorem erl_mono {u : Tsk} {k : Int} {o : Nat} {s : Int} (h : erl l at_ (ts ++ [u]) k o = some s) : (∃ s', erl l at_ ts k o = some s' ∧ s' ≤ s) ∨ u.b ≤ s := by
  unfold erl at h
  rw [fnd_snoc] at h
  cases hf : fnd ts k o with
  | some t => rw [hf] at h; cases h
  | none =>
    rw [hf] at h
    simp only at h
    by_cases e : u.tk = k ∧ u.op = (o : Int)
    · rw [if_pos e] at h; cases h
    · rw [if_neg e] at h
      simp only at h
      rcases aftMax_mono (ts := ts) _ (busy_mono (at_.getD o 0)) h with ⟨v, h1, h2⟩ | h1
      · exact .inl ⟨v, by unfold erl; rw [hf]; exact h1, h2⟩
      · exact .inr h1
theorem Ran.asc (h : Ran l ss at_ bs ds ts) {k : Nat} {t u : Tsk} (hu : ts[k]? = some u) (ht : ts[k + 1]? = some t) : u.a ≤ t.a := by
  obtain ⟨b, o, hk, hmin⟩ := h.sim.nth hu
  obtain ⟨b', o', hk', _⟩ := h.sim.nth ht
  have he := hk'.er
  rw [take_tk hu] at he
  rcases erl_mono he with ⟨s', h1, h2⟩ | h1
  · rw [hk'.tk] at h1
    have := hmin b' o' s' hk'.hb hk'.ho h1
    omega
  · have := hk.ge; omega
def waits (l : List Opn) (t u : Tsk) : Bool := u.b == t.a && (u.st == t.st || (u.tk == t.tk && hasB (af l t.op.toNat) u.op))
theorem Ran.waits (h : Ran l ss at_ bs ds ts) {k : Nat} {t : Tsk} (ht : ts[k]? = some t) : t.a = 0 ∨ (ts.take k).any (waits l t) = true := by
  obtain ⟨x, o, hx⟩ := h.nth ht
  have ho : t.op.toNat = o := by rw [hx.op]; simp
  obtain ⟨_, _, _, h4⟩ := erl_some hx.er
  rcases h4 with h4 | ⟨a, ha, p, h5, h6⟩
  · rcases busyOf_is (at_.getD o 0) (ts.take k) with h5 | ⟨u, hu, h6, h7⟩
    · exact .inl (by omega)
    · refine .inr (List.any_eq_true.2 ⟨u, hu, ?_⟩)
      unfold Proofs.Ytelgkangojmhdaa.waits
      simp only [Bool.and_eq_true, beq_iff_eq, Bool.or_eq_true]
      exact ⟨by omega, .inl (by rw [h6, hx.st])⟩
  · obtain ⟨g1, g2, g3⟩ := fnd_some h5
    refine .inr (List.any_eq_true.2 ⟨p, g1, ?_⟩)
    unfold Proofs.Ytelgkangojmhdaa.waits
    simp only [Bool.and_eq_true, beq_iff_eq, Bool.or_eq_true]
    exact ⟨h6, .inr ⟨g2, by rw [ho]; exact hasB_mem.2 (by rw [g3]; exact ha)⟩⟩
end
end Go.Proofs.Ytelgkangojmhdaa
/- Plain laws of the flow of bundles: sums of work, the makespan, one station, the order of the bundles. No program in sight. -/
namespace Go.Proofs.Ytelgkangojmhdaa

/-! ## Sums -/
def sm {α : Type} (f : α → Int) : List α → Int
  | [] => 0
  | x :: r => f x + sm f r
theorem sm_append {α : Type} (f : α → Int) (p q : List α) : sm f (p ++ q) = sm f p + sm f q := by
  induction p with
  | nil => simp [sm]
  | cons x p ih => simp only [List.cons_append, sm, ih]; omega
theorem sm_snoc {α : Type} (f : α → Int) (p : List α) (x : α) : sm f (p ++ [x]) = sm f p + f x := by rw [sm_append]; simp [sm]
theorem sm_map {α β : Type} (f : β → Int) (g : α → β) (p : List α) : sm f (p.map g) = sm (fun x => f (g x)) p := by
  induction p with
  | nil => rfl
  | cons x p ih => simp only [List.map_cons, sm, ih]
theorem sm_flat {α β : Type} (f : β → Int) (g : α → List β) (p : List α) : sm f (p.flatMap g) = sm (fun x => sm f (g x)) p := by
  induction p with
  | nil => rfl
  | cons x p ih => rw [List.flatMap_cons, sm_append, ih]; rfl
theorem sm_congr {α : Type} {f g : α → Int} : ∀ {p : List α}, (∀ x ∈ p, f x = g x) → sm f p = sm g p := by
  intro p
  induction p with
  | nil => intro _; rfl
  | cons x p ih => intro h; simp only [sm]; rw [h x (by simp), ih fun y hy => h y (by simp [hy])]
theorem sm_pos {α : Type} {f : α → Int} : ∀ {p : List α}, (∀ x ∈ p, 0 ≤ f x) → 0 ≤ sm f p := by
  intro p
  induction p with
  | nil => intro _; exact Int.le_refl _
  | cons x p ih => intro h; have := h x (by simp); have := ih fun y hy => h y (by simp [hy]); simp only [sm]; omega
theorem sm_le {α : Type} {f : α → Int} {c : Int} : ∀ {p : List α}, (∀ x ∈ p, f x ≤ c) → sm f p ≤ c * p.length := by
  intro p
  induction p with
  | nil => intro _; simp [sm]
  | cons x p ih =>
    intro h
    have h1 := h x (by simp)
    have h2 := ih fun y hy => h y (by simp [hy])
    simp only [sm, List.length_cons]
    rw [show ((p.length + 1 : Nat) : Int) = (p.length : Int) + 1 from by omega, Int.mul_add]
    omega
theorem sm_perm {α : Type} (f : α → Int) {p q : List α} (h : p.Perm q) : sm f p = sm f q := by
  induction h with
  | nil => rfl
  | cons x _ ih => simp only [sm, ih]
  | swap x y p => simp only [sm]; omega
  | trans _ _ h1 h2 => rw [h1, h2]
theorem sm_subset {α : Type} [DecidableEq α] {f : α → Int} : ∀ {p q : List α}, p.Nodup → p ⊆ q → (∀ x ∈ q, 0 ≤ f x) → sm f p ≤ sm f q := by
  intro p
  induction p with
  | nil => intro q _ _ h; exact sm_pos h
  | cons x p ih =>
    intro q hn hs h
    rw [List.nodup_cons] at hn
    have hx : x ∈ q := hs (by simp)
    have hp := List.perm_cons_erase hx
    rw [sm_perm f hp]
    simp only [sm]
    have := ih (q := q.erase x) hn.2 (fun y hy => ?_) fun y hy => h y (List.mem_of_mem_erase hy)
    · omega
    · have hy' := hs (List.mem_cons_of_mem x hy)
      rcases List.mem_cons.1 (hp.mem_iff.1 hy') with e | e
      · subst e; exact absurd hy hn.1
      · exact e
theorem sm_same {α : Type} [DecidableEq α] {f : α → Int} {p q : List α} (hp : p.Nodup) (hq : q.Nodup) (h1 : p ⊆ q) (h2 : q ⊆ p) (hf : ∀ x ∈ p, 0 ≤ f x) : sm f p = sm f q := by
  have a := sm_subset hp h1 fun x hx => hf x (h2 hx)
  have b := sm_subset hq h2 hf
  omega
/-! ## The work of a pair -/
def plk (bs : List Bn) (k : Int) : Int := match bs.find? (tkEq k) with | none => 0 | some x => x.tp - x.fr
def wkey (l : List Opn) (bs : List Bn) (p : Int × Int) : Int := mn l p.2.toNat * plk bs p.1
section
variable {l : List Opn} {ss : List (List Int)} {at_ : List Int} {bs : List Bn} {ds : List M.Dn} {ts : List Tsk}
theorem plk_at (h : BnOk bs) {x : Bn} (hx : x ∈ bs) : plk bs x.tk = x.tp - x.fr := by
  unfold plk
  cases hf : bs.find? (tkEq x.tk) with
  | none =>
    rw [List.find?_eq_none] at hf
    exact absurd (by unfold tkEq; simp) (hf x hx)
  | some y =>
    have h1 := List.mem_of_find?_eq_some hf
    have h2 := List.find?_some hf
    unfold tkEq at h2
    simp at h2
    have := bn_uniq h h1 hx h2
    subst this
    rfl
theorem TkIs.work {k : Nat} {t : Tsk} {x : Bn} {o : Nat} (h : TkIs l at_ bs ds (ts.take k) t x o) (hb : BnOk bs) : wkey l bs (tkey t) = wk l x o := by
  unfold wkey tkey wk
  rw [h.op, h.tk, plk_at hb h.mem]
  simp
theorem fin_ge {ds : List M.Dn} {m s n : Int} (h : M.finErr ds s n = 0) : s + n ≤ M.finT ds m s n := by
  obtain ⟨h1, h2, _⟩ := M.finT_ok (m := m) h
  have := M.down_bd (M.isUp ds m) s _ h1
  omega
theorem TkIs.long {k : Nat} {t : Tsk} {x : Bn} {o : Nat} (h : TkIs l at_ bs ds (ts.take k) t x o) : t.a + wk l x o ≤ t.b := by
  rw [h.en]; exact fin_ge h.fe
theorem fin_none {m s n : Int} (h : M.finErr [] s n = 0) : M.finT [] m s n = s + n := by
  obtain ⟨_, _, _, h4, _⟩ := M.finErr_zero h
  exact (M.finT_eq h (M.Fin.upto h4 fun t _ _ => rfl)).symm
theorem Ran.wk0 (h : Ran l ss at_ bs ds ts) {x : Bn} (hx : x ∈ bs) {o : Nat} (ho : o < l.length) : 1 ≤ wk l x o ∧ wk l x o ≤ 400000 := by
  obtain ⟨i, hi, e⟩ := List.getElem_of_mem ((sortB_perm bs).mem_iff.2 hx)
  have := wk_bnd h.ok hi ho
  rw [List.getD_eq_getElem?_getD, List.getElem?_eq_getElem hi, e] at this
  exact this
/-- The work of a station is at most the greatest end of its tasks. -/
theorem Ran.busy (h : Ran l ss at_ bs ds ts) (s : Int) : ∀ k, k ≤ ts.length → sm (fun t => if t.st = s then wkey l bs (tkey t) else 0) (ts.take k) ≤ busyOf (ts.take k) s := by
  intro k
  induction k with
  | zero => intro _; exact Int.le_refl _
  | succ k ih =>
    intro hk
    have hk' : ts[k]? = some ts[k] := List.getElem?_eq_getElem (by omega)
    obtain ⟨x, o, hx⟩ := h.nth hk'
    have i := ih (by omega)
    rw [take_tk hk', sm_snoc, busyOf_snoc]
    by_cases e : ts[k].st = s
    · rw [if_pos e, if_pos e, hx.work h.bn]
      have h1 := (erl_some hx.er).2.1
      rw [← hx.st, e] at h1
      have := hx.long
      omega
    · rw [if_neg e, if_neg e]; omega
/-! ## The makespan -/
def spanOf (ts : List Tsk) : Int := match ts with | [] => 0 | t :: r => r.foldl (fun m u => max m u.b) t.b
theorem foldl_max {r : List Tsk} : ∀ m : Int, m ≤ r.foldl (fun m u => max m u.b) m ∧ (∀ u ∈ r, u.b ≤ r.foldl (fun m u => max m u.b) m) ∧ (r.foldl (fun m u => max m u.b) m = m ∨ ∃ u ∈ r, u.b = r.foldl (fun m u => max m u.b) m) := by
  induction r with
  | nil => intro m; exact ⟨Int.le_refl _, fun _ h => (by cases h), .inl rfl⟩
  | cons x r ih =>
    intro m
    rw [List.foldl_cons]
    obtain ⟨h1, h2, h3⟩ := ih (max m x.b)
    refine ⟨by omega, fun u hu => ?_, ?_⟩
    · rcases List.mem_cons.1 hu with rfl | hu
      · omega
      · exact h2 u hu
    · rcases h3 with h3 | ⟨u, hu, h3⟩
      · by_cases e : m ≤ x.b
        · exact .inr ⟨x, by simp, by omega⟩
        · exact .inl (by omega)
      · exact .inr ⟨u, by simp [hu], h3⟩
theorem span_ge {t : Tsk} (h : t ∈ ts) : t.b ≤ spanOf ts := by
  cases ts with
  | nil => cases h
  | cons x r =>
    unfold spanOf
    obtain ⟨h1, h2, _⟩ := foldl_max (r := r) x.b
    rcases List.mem_cons.1 h with rfl | h
    · exact h1
    · exact h2 t h
theorem span_is (h : ts ≠ []) : ∃ t ∈ ts, t.b = spanOf ts := by
  cases ts with
  | nil => exact absurd rfl h
  | cons x r =>
    unfold spanOf
    rcases (foldl_max (r := r) x.b).2.2 with h3 | ⟨u, hu, h3⟩
    · exact ⟨x, by simp, h3.symm⟩
    · exact ⟨u, by simp [hu], h3⟩
theorem Ran.span0 (h : Ran l ss at_ bs ds ts) : 0 ≤ spanOf ts := by
  by_cases e : ts = []
  · subst e; exact Int.le_refl _
  · obtain ⟨t, ht, e⟩ := span_is e
    have := h.sim.mem ht
    omega
theorem Ran.span_hi (h : Ran l ss at_ bs ds ts) : spanOf ts ≤ 1073741824 := by
  by_cases e : ts = []
  · subst e; decide
  · obtain ⟨t, ht, e⟩ := span_is e
    have := h.sim.mem ht
    omega
theorem Ran.span_busy (h : Ran l ss at_ bs ds ts) (s : Int) : busyOf ts s ≤ spanOf ts := by
  rcases busyOf_is s ts with h1 | ⟨t, ht, _, h2⟩
  · rw [h1]; exact h.span0
  · rw [← h2]; exact span_ge ht
/-! ## The pairs -/
theorem Ran.pairs_sub (h : Ran l ss at_ bs ds ts) : ts.map tkey ⊆ pairs l.length bs := by
  intro p hp
  obtain ⟨t, ht, rfl⟩ := List.mem_map.1 hp
  obtain ⟨k, x, o, _, hx⟩ := h.mem ht
  exact mem_pairs.2 ⟨x, hx.mem, o, hx.ho, by unfold tkey; rw [hx.tk, hx.op]⟩
theorem Ran.sub_pairs (h : Ran l ss at_ bs ds ts) : pairs l.length bs ⊆ ts.map tkey := by
  intro p hp
  obtain ⟨b, hb, o, ho, rfl⟩ := mem_pairs.1 hp
  obtain ⟨t, ht⟩ := h.has hb ho
  exact fnd_key.1 (by rw [ht]; simp)
theorem Ran.wkey0 (h : Ran l ss at_ bs ds ts) {p : Int × Int} (hp : p ∈ pairs l.length bs) : 0 ≤ wkey l bs p ∧ wkey l bs p ≤ 400000 := by
  obtain ⟨b, hb, o, ho, rfl⟩ := mem_pairs.1 hp
  have := h.wk0 hb ho
  unfold wkey
  rw [plk_at h.bn hb]
  unfold wk at this
  simp
  omega
/-- The pairs of an operation's list, bundle by bundle. -/
def opPairs (q : List Int) (bs : List Bn) : List (Int × Int) := q.flatMap fun o => bs.map fun b => (b.tk, o)
theorem mem_opPairs {q : List Int} {p : Int × Int} : p ∈ opPairs q bs ↔ ∃ o ∈ q, ∃ b ∈ bs, p = (b.tk, o) := by
  unfold opPairs
  rw [List.mem_flatMap]
  constructor
  · rintro ⟨o, ho, h⟩; obtain ⟨b, hb, rfl⟩ := List.mem_map.1 h; exact ⟨o, ho, b, hb, rfl⟩
  · rintro ⟨o, ho, b, hb, rfl⟩; exact ⟨o, ho, List.mem_map.2 ⟨b, hb, rfl⟩⟩
theorem opPairs_nodup (hb : BnOk bs) {q : List Int} (hq : q.Nodup) : (opPairs q bs).Nodup := by
  induction q with
  | nil => exact List.nodup_nil
  | cons o q ih =>
    rw [List.nodup_cons] at hq
    have e : opPairs (o :: q) bs = (bs.map fun b => (b.tk, o)) ++ opPairs q bs := rfl
    rw [e, List.nodup_append]
    refine ⟨?_, ih hq.2, ?_⟩
    · have := hb.nd
      unfold List.Nodup at this ⊢
      rw [List.pairwise_map] at this ⊢
      exact this.imp fun h e => h (by simpa using e)
    · intro x hx y hy e
      subst e
      obtain ⟨b, _, rfl⟩ := List.mem_map.1 hx
      obtain ⟨o', ho', b', _, e⟩ := mem_opPairs.1 hy
      simp only [Prod.mk.injEq] at e
      exact hq.1 (by rw [e.2]; exact ho')
/-- What the law adds up for operations and all bundles. -/
def sumOB (l : List Opn) (bs : List Bn) (q : List Int) : Int := sm (fun o => sm (fun b => mn l o.toNat * (b.tp - b.fr)) bs) q
theorem sumOB_pairs (hb : BnOk bs) (q : List Int) : sumOB l bs q = sm (wkey l bs) (opPairs q bs) := by
  unfold sumOB opPairs
  rw [sm_flat]
  refine sm_congr fun o _ => ?_
  rw [sm_map]
  refine sm_congr fun b hb' => ?_
  unfold wkey
  rw [plk_at hb hb']
theorem puts_nodup {n : Nat} : ∀ (L : List (Nat × Int)) (at_ : List Int), puts n L = (0, at_) → (L.map Prod.snd).Nodup := by
  refine snoc_ind ?_ ?_
  · intro _ _; exact List.nodup_nil
  · intro L p ih at_ h
    obtain ⟨at0, h0⟩ := puts_ok [p] L at_ h
    rw [puts_append, h0] at h
    obtain ⟨h1, h2, h3, _⟩ := stp_ok h
    rw [List.map_append, List.nodup_append]
    refine ⟨ih at0 h0, by simp, fun a ha b hb e => ?_⟩
    simp at hb
    subst hb
    subst e
    obtain ⟨x, hx, e⟩ := List.mem_map.1 ha
    have := (puts_val' L at0 h0).2 x hx
    rw [e, h3] at this
    omega
theorem Ran.station (h : Ran l ss at_ bs ds ts) {s : Nat} {q : List Int} (hq : ss[s]? = some q) : q.Nodup ∧ ∀ o ∈ q, 0 ≤ o ∧ o < l.length ∧ at_.getD o.toNat 0 = s := by
  have hpt := h.pt
  have hmem : ∀ o ∈ q, (s, o) ∈ flat ss := fun o ho => mem_flat.2 ⟨q, hq, ho⟩
  refine ⟨?_, fun o ho => ?_⟩
  · rw [flat_split hq] at hpt
    have := puts_nodup _ _ hpt
    rw [List.map_append, List.map_append, List.map_map] at this
    have h1 := (List.nodup_append.1 (List.nodup_append.1 this).2.1).1
    have e : q.map (Prod.snd ∘ Prod.mk s) = q := by
      rw [show (Prod.snd ∘ Prod.mk s : Int → Int) = id from rfl, List.map_id]
    rw [e] at h1
    exact h1
  · have h1 := (puts_len _ _ hpt).2 _ (hmem o ho)
    exact ⟨h1.1, h1.2, (puts_val' _ _ hpt).2 _ (hmem o ho)⟩
/-- The makespan is at least the work of each station. -/
theorem Ran.span_station (h : Ran l ss at_ bs ds ts) {s : Nat} {q : List Int} (hq : ss[s]? = some q) : sumOB l bs q ≤ spanOf ts := by
  obtain ⟨hn, hm⟩ := h.station hq
  rw [sumOB_pairs h.bn]
  have h1 := h.busy s ts.length (Nat.le_refl _)
  rw [List.take_length] at h1
  have h2 := h.span_busy s
  have h3 : sm (fun t => if t.st = (s : Int) then wkey l bs (tkey t) else 0) ts = sm (fun p => if at_.getD p.2.toNat 0 = (s : Int) then wkey l bs p else 0) (ts.map tkey) := by
    rw [sm_map]
    refine sm_congr fun t ht => ?_
    obtain ⟨k, x, o, _, hx⟩ := h.mem ht
    rw [hx.st]
    unfold tkey
    rw [hx.op]
    simp
  have h4 : sm (wkey l bs) (opPairs q bs) = sm (fun p => if at_.getD p.2.toNat 0 = (s : Int) then wkey l bs p else 0) (opPairs q bs) := by
    refine sm_congr fun p hp => ?_
    obtain ⟨o, ho, b, hb, rfl⟩ := mem_opPairs.1 hp
    rw [if_pos (hm o ho).2.2]
  have hsub : opPairs q bs ⊆ ts.map tkey := by
    intro p hp
    obtain ⟨o, ho, b, hb, rfl⟩ := mem_opPairs.1 hp
    have := hm o ho
    exact h.sub_pairs (mem_pairs.2 ⟨b, hb, o.toNat, by omega, by rw [show ((o.toNat : Nat) : Int) = o from by omega]⟩)
  have h5 := sm_subset (f := fun p => if at_.getD p.2.toNat 0 = (s : Int) then wkey l bs p else 0) (opPairs_nodup h.bn hn) hsub (fun p hp => by
    have := (h.wkey0 (h.pairs_sub hp)).1
    split <;> omega)
  omega
/-! ## The critical way -/
/-- A sum of minutes on a way through operations before. -/
structure CritIs (l : List Opn) (S : List Int) (c : Int) : Prop where
  way : ∀ o, o < l.length → S.getD o 0 = mn l o ∨ ∃ a ∈ af l o, S.getD o 0 = mn l o + S.getD a.toNat 0
  top : c = 0 ∨ ∃ o, o < l.length ∧ c = S.getD o 0
theorem Ran.crit (h : Ran l ss at_ bs ds ts) {S : List Int} {c : Int} (hc : CritIs l S c) {x : Bn} (hx : x ∈ bs) : c * (x.tp - x.fr) ≤ spanOf ts := by
  rcases hc.top with rfl | ⟨o, ho, rfl⟩
  · rw [Int.zero_mul]; exact h.span0
  · obtain ⟨pos, p1, p2, p3⟩ := h.ok.line.pos
    have key : ∀ n o, o < l.length → pos o ≤ n → ∃ t ∈ ts, t.tk = x.tk ∧ t.op = o ∧ S.getD o 0 * (x.tp - x.fr) ≤ t.b := by
      intro n
      induction n with
      | zero =>
        intro o ho hp
        obtain ⟨t, ht⟩ := h.has hx ho
        obtain ⟨g1, g2, g3⟩ := fnd_some ht
        obtain ⟨k, y, o', _, hy⟩ := h.mem g1
        have ey : y = x := bn_uniq h.bn hy.mem hx (by rw [← hy.tk, g2])
        have eo : o' = o := by have := hy.op; omega
        subst ey eo
        refine ⟨t, g1, g2, g3, ?_⟩
        have hl := hy.long
        have h0 := hy.a0
        rcases hc.way o' ho with e | ⟨a, ha, _⟩
        · rw [e]; unfold wk at hl; omega
        · have := p3 o' ho a ha; omega
      | succ n ih =>
        intro o ho hp
        obtain ⟨t, ht⟩ := h.has hx ho
        obtain ⟨g1, g2, g3⟩ := fnd_some ht
        obtain ⟨k, y, o', _, hy⟩ := h.mem g1
        have ey : y = x := bn_uniq h.bn hy.mem hx (by rw [← hy.tk, g2])
        have eo : o' = o := by have := hy.op; omega
        subst ey eo
        refine ⟨t, g1, g2, g3, ?_⟩
        have hl := hy.long
        have h0 := hy.a0
        rcases hc.way o' ho with e | ⟨a, ha, e⟩
        · rw [e]; unfold wk at hl; omega
        · have hpa := p3 o' ho a ha
          have hia := h.ok.line.idx o' ho a ha
          obtain ⟨u, hu, u1, u2, u3⟩ := ih a.toNat hia.2 (by omega)
          obtain ⟨p, q1, q2⟩ := hy.after ha
          obtain ⟨r1, r2, r3⟩ := fnd_some q1
          have : p = u := h.key_inj r1 hu (by rw [r2, g2, u1]) (by rw [r3, u2]; omega)
          subst this
          rw [e, Int.add_mul]
          unfold wk at hl
          omega
    obtain ⟨t, ht, _, _, h4⟩ := key (pos o) o ho (Nat.le_refl _)
    have := span_ge ht
    omega
/-! ## One station, no stops -/
theorem Ran.single (h : Ran l ss at_ bs [] ts) (h1 : ss.length = 1) : ∀ k, k ≤ ts.length → busyOf (ts.take k) 0 = sm (fun t => wkey l bs (tkey t)) (ts.take k) := by
  intro k
  induction k with
  | zero => intro _; rfl
  | succ k ih =>
    intro hk
    have hk' : ts[k]? = some ts[k] := List.getElem?_eq_getElem (by omega)
    obtain ⟨x, o, hx⟩ := h.nth hk'
    have hst0 : ∀ {u : Tsk}, u ∈ ts → u.st = 0 := by
      intro u hu
      obtain ⟨k', x', o', _, hx'⟩ := h.mem hu
      have := h.ok.atr o' hx'.ho
      rw [hx'.st]
      omega
    have hst := hst0 (List.mem_of_getElem? hk')
    have hat : at_.getD o 0 = 0 := by rw [← hx.st]; exact hst
    rw [take_tk hk', sm_snoc, busyOf_snoc, if_pos hst, ← ih (by omega), hx.work h.bn]
    obtain ⟨_, e2, _, e4⟩ := erl_some hx.er
    rw [hat] at e2 e4
    have ea : ts[k].a = busyOf (ts.take k) 0 := by
      rcases e4 with e4 | ⟨a, _, p, q1, q2⟩
      · exact e4
      · have hp := (fnd_some q1).1
        have := busyOf_mem (s := 0) hp (hst0 (List.mem_of_mem_take hp))
        omega
    have eb := hx.en
    rw [fin_none hx.fe] at eb
    have := (h.wk0 hx.mem hx.ho).1
    omega
theorem Ran.span_single (h : Ran l ss at_ bs [] ts) (h1 : ss.length = 1) : spanOf ts = sumOB l bs ((List.range l.length).map Int.ofNat) := by
  have hb := h.single h1 ts.length (Nat.le_refl _)
  rw [List.take_length] at hb
  have hst0 : ∀ {u : Tsk}, u ∈ ts → u.st = 0 := by
    intro u hu
    obtain ⟨k', x', o', _, hx'⟩ := h.mem hu
    have := h.ok.atr o' hx'.ho
    rw [hx'.st]
    omega
  have hs : spanOf ts = busyOf ts 0 := by
    have := h.span_busy 0
    by_cases e : ts = []
    · subst e; rfl
    · obtain ⟨t, ht, e⟩ := span_is e
      have := busyOf_mem (s := 0) ht (hst0 ht)
      omega
  rw [hs, hb, sumOB_pairs h.bn, ← sm_map (wkey l bs) tkey]
  have hn : ((List.range l.length).map Int.ofNat).Nodup := by
    unfold List.Nodup
    rw [List.pairwise_map]
    exact List.Pairwise.imp (fun h e => h (Int.ofNat.inj e)) List.nodup_range
  refine sm_same h.sim.keys.1 (opPairs_nodup h.bn hn) ?_ ?_ fun p hp => (h.wkey0 (h.pairs_sub hp)).1
  · intro p hp
    obtain ⟨b, hb, o, ho, rfl⟩ := mem_pairs.1 (h.pairs_sub hp)
    exact mem_opPairs.2 ⟨o, List.mem_map.2 ⟨o, List.mem_range.2 ho, rfl⟩, b, hb, rfl⟩
  · intro p hp
    obtain ⟨o, ho, b, hb, rfl⟩ := mem_opPairs.1 hp
    obtain ⟨o', ho', rfl⟩ := List.mem_map.1 ho
    exact h.sub_pairs (mem_pairs.2 ⟨b, hb, o', List.mem_range.1 ho', rfl⟩)
/-! ## The order of the bundles -/
theorem bnUpto_of {bs : List Bn} (h : BnOk bs) : ∀ n, n ≤ bs.length → bnUpto bs n = 0 := by
  intro n
  induction n with
  | zero => intro _; rfl
  | succ n ih =>
    intro hn
    refine bnUpto_go (ih (by omega)) ?_
    have hb : bs[n]? = some bs[n] := List.getElem?_eq_getElem (by omega)
    refine bnErr_ok hb ?_ ?_
    · have := h.pl bs[n] (List.getElem_mem _)
      unfold bnBad
      simp
      omega
    · rw [List.any_eq_false]
      intro x hx e
      unfold tkEq at e
      simp at e
      obtain ⟨i, hi, ei⟩ := List.mem_take_iff_getElem.1 hx
      have := tk_inj h.nd (i := i) (j := n) (by omega) (by omega) (by
        rw [List.getD_eq_getElem?_getD, List.getElem?_eq_getElem (show i < bs.length by omega), List.getD_eq_getElem?_getD, hb, ei]; exact e)
      omega
theorem com_perm {bs' : List Bn} (hp : bs'.Perm bs) (h : comErr l ss bs ds = 0) : comErr l ss bs' ds = 0 := by
  obtain ⟨h1, h2, h3, h4⟩ := com_zero h
  have h3' : BnOk bs' := ⟨by rw [hp.length_eq]; exact h3.len, fun b hb => h3.pl b (hp.mem_iff.1 hb), (hp.map Bn.tk).nodup_iff.2 h3.nd⟩
  rw [com_down h1 h2 h3'.len (bnUpto_of h3' _ (Nat.le_refl _))]
  exact h4
theorem simRes_perm {bs' : List Bn} (hp : bs'.Perm bs) (h : (simRes l ss bs ds).1 = 0) : simRes l ss bs' ds = simRes l ss bs ds := by
  rcases simRes_cases l ss bs ds with ⟨h1, _⟩ | ⟨_, at_, hr⟩
  · exact absurd h h1
  · have hz := hr.com
    have hz' := com_perm hp hz
    have hs : sortB bs' = sortB bs := sortB_is hr.bn.nd ((sortB_perm bs').trans hp) (sortB_asc bs')
    unfold simRes
    rw [if_neg (by simp [hz']), if_neg (by simp [hz]), hs, hp.length_eq]
end
end Go.Proofs.Ytelgkangojmhdaa
