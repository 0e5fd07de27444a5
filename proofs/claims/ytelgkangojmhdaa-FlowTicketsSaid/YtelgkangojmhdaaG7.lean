/- Several texts as one: FlowPlain3, FlowPlain4. -/
import Derived.Test.YtelgkangojmhdaaFlowPlain2
import Derived.Test.YtelgkangojmhdaaFlow3
/- Plain laws of the flow of bundles: the tables of the program and the tasks; the order of the bundles. -/
namespace Go.Proofs.Ytelgkangojmhdaa

def endOf (ts : List Tsk) (k o : Int) : Int := match fnd ts k o with | none => -1 | some t => t.b
def tabOf (l : List Opn) (sb : List Bn) (ts : List Tsk) : List (List Int) := sb.map fun b => (List.range l.length).map fun o => endOf ts b.tk ((o : Nat) : Int)
def bzOf (K : Nat) (ts : List Tsk) : List Int := (List.range K).map fun s => busyOf ts ((s : Nat) : Int)
theorem tabOf_len (l : List Opn) (sb : List Bn) (ts : List Tsk) : (tabOf l sb ts).length = sb.length := by unfold tabOf; simp
theorem bzOf_len (K : Nat) (ts : List Tsk) : (bzOf K ts).length = K := by unfold bzOf; simp
theorem tabOf_at {l : List Opn} {sb : List Bn} {ts : List Tsk} {b : Nat} (h : b < sb.length) : (tabOf l sb ts)[b]? = some ((List.range l.length).map fun o => endOf ts (sb.getD b bn0).tk ((o : Nat) : Int)) := by
  unfold tabOf
  rw [List.getElem?_map, List.getElem?_eq_getElem h, List.getD_eq_getElem?_getD, List.getElem?_eq_getElem h]; rfl
theorem row_at {ts : List Tsk} {k : Int} {n o : Nat} (h : o < n) : ((List.range n).map fun o => endOf ts k ((o : Nat) : Int)).getD o 0 = endOf ts k o := by
  rw [List.getD_eq_getElem?_getD, List.getElem?_map, List.getElem?_range h]; rfl
theorem bzOf_at {K s : Nat} {ts : List Tsk} (h : s < K) : (bzOf K ts).getD s 0 = busyOf ts s := by
  unfold bzOf; rw [List.getD_eq_getElem?_getD, List.getElem?_map, List.getElem?_range h]; rfl
theorem endOf_none {ts : List Tsk} (h0 : ∀ t ∈ ts, 0 ≤ t.b) {k o : Int} : endOf ts k o = -1 ↔ fnd ts k o = none := by
  unfold endOf
  cases hf : fnd ts k o with
  | none => simp
  | some t => have := h0 t (fnd_some hf).1; simp; omega
theorem endOf_some {ts : List Tsk} {k o : Int} {t : Tsk} (h : fnd ts k o = some t) : endOf ts k o = t.b := by unfold endOf; rw [h]
theorem aft_tab {ts : List Tsk} (h0 : ∀ t ∈ ts, 0 ≤ t.b) {k : Int} {n : Nat} : ∀ (q : List Int) (m : Int), (∀ a ∈ q, 0 ≤ a ∧ a.toNat < n) → aftT ((List.range n).map fun o => endOf ts k ((o : Nat) : Int)) q m = aftMax ts k q m := by
  intro q
  induction q with
  | nil => intro m _; rfl
  | cons x q ih =>
    intro m hq
    have hx := hq x (by simp)
    have e : ((List.range n).map fun o => endOf ts k ((o : Nat) : Int)).getD x.toNat 0 = endOf ts k x := by rw [row_at hx.2, show ((x.toNat : Nat) : Int) = x from by omega]
    simp only [aftT, aftMax, e]
    cases hf : fnd ts k x with
    | none => rw [if_pos ((endOf_none h0).2 hf)]
    | some t =>
      rw [if_neg (fun h => by rw [(endOf_none h0).1 h] at hf; cases hf), endOf_some hf]
      exact ih _ fun a ha => hq a (by simp [ha])
theorem erl_tab {l : List Opn} {K : Nat} {at_ : List Int} {sb : List Bn} {ds : List M.Dn} {ts : List Tsk} (hf : FlowOk l K at_ sb ds) (h0 : ∀ t ∈ ts, 0 ≤ t.b) {b o : Nat} (hb : b < sb.length) (ho : o < l.length) :
    erlT l at_ (bzOf K ts) ((tabOf l sb ts).getD b []) o = erl l at_ ts (sb.getD b bn0).tk o := by
  rw [tget (tabOf_at hb)]
  have hat := hf.atr o ho
  unfold erlT erl
  rw [row_at ho]
  cases hfn : fnd ts (sb.getD b bn0).tk (o : Int) with
  | some t => rw [if_neg (fun h => by rw [(endOf_none h0).1 h] at hfn; cases hfn)]
  | none =>
    rw [if_pos ((endOf_none h0).2 hfn), bzOf_at (by omega), show (((at_.getD o 0).toNat : Nat) : Int) = at_.getD o 0 from by omega]
    exact aft_tab h0 _ _ fun a ha => hf.line.idx o ho a ha
theorem pick_tab {l : List Opn} {K : Nat} {at_ : List Int} {sb : List Bn} {ds : List M.Dn} {ts : List Tsk} (hf : FlowOk l K at_ sb ds) (h0 : ∀ t ∈ ts, 0 ≤ t.b) :
    scanB (fun b o => erlT l at_ (bzOf K ts) ((tabOf l sb ts).getD b []) o) l.length (tabOf l sb ts).length = pickP l at_ sb ts := by
  rw [tabOf_len]
  unfold pickP
  exact scanB_congr (fun b o hb ho => erl_tab hf h0 hb ho) _ (Nat.le_refl _)
theorem endOf_snoc {ts : List Tsk} {t : Tsk} (h : fnd ts t.tk t.op = none) (k o : Int) : endOf (ts ++ [t]) k o = if t.tk = k ∧ t.op = o then t.b else endOf ts k o := by
  unfold endOf
  rw [fnd_snoc]
  by_cases e : t.tk = k ∧ t.op = o
  · rw [if_pos e]
    obtain ⟨rfl, rfl⟩ := e
    rw [h]
    simp
  · rw [if_neg e]
    cases hf : fnd ts k o with
    | none => simp [e]
    | some u => simp [e]
theorem tk_inj {sb : List Bn} (h : (sb.map Bn.tk).Nodup) {i j : Nat} (hi : i < sb.length) (hj : j < sb.length) (e : (sb.getD i bn0).tk = (sb.getD j bn0).tk) : i = j := by
  rw [List.getD_eq_getElem?_getD, List.getElem?_eq_getElem hi, List.getD_eq_getElem?_getD, List.getElem?_eq_getElem hj] at e
  have := List.getElem_inj (xs := sb.map Bn.tk) (i := i) (j := j) (h₀ := by simpa using hi) (h₁ := by simpa using hj) h
  exact this.1 (by simpa using e)
theorem tab_step {l : List Opn} {sb : List Bn} {ts : List Tsk} {t : Tsk} {b o : Nat} (hnd : (sb.map Bn.tk).Nodup) (hb : b < sb.length) (ho : o < l.length) (htk : t.tk = (sb.getD b bn0).tk) (hop : t.op = o) (hn : fnd ts t.tk t.op = none) :
    (tabOf l sb ts).set b (((List.range l.length).map fun o => endOf ts (sb.getD b bn0).tk ((o : Nat) : Int)).set o t.b) = tabOf l sb (ts ++ [t]) := by
  apply List.ext_getElem?
  intro i
  rw [List.getElem?_set]
  by_cases hi : i < sb.length
  · rw [tabOf_at hi, tabOf_at hi]
    by_cases e : b = i
    · subst e
      rw [if_pos rfl, if_pos (by rw [tabOf_len]; exact hb)]
      congr 1
      apply List.ext_getElem?
      intro j
      rw [List.getElem?_set]
      by_cases hj : j < l.length
      · rw [List.getElem?_map, List.getElem?_range hj, List.getElem?_map, List.getElem?_range hj]
        simp only [Option.map_some, List.length_map, List.length_range]
        rw [endOf_snoc hn]
        by_cases e : o = j
        · subst e; rw [if_pos rfl, if_pos ho, if_pos ⟨htk, hop⟩]
        · rw [if_neg e, if_neg (fun h => e (by have := h.2; omega))]
      · rw [List.getElem?_eq_none (show ((List.range l.length).map fun o => endOf ts (sb.getD b bn0).tk ((o : Nat) : Int)).length ≤ j by simp; omega), List.getElem?_eq_none (by simp; omega)]
        split
        · rw [if_neg (by simp; omega)]
        · rfl
    · rw [if_neg e]
      congr 1
      apply List.map_congr_left
      intro j hj
      rw [endOf_snoc hn, if_neg]
      intro h
      exact e (tk_inj hnd hb hi (by rw [← htk]; exact h.1))
  · have h1 : (tabOf l sb ts)[i]? = none := List.getElem?_eq_none (by rw [tabOf_len]; omega)
    have h2 : (tabOf l sb (ts ++ [t]))[i]? = none := List.getElem?_eq_none (by rw [tabOf_len]; omega)
    rw [h1, h2]
    split
    · rw [if_neg (by rw [tabOf_len]; omega)]
    · rfl
theorem bz_step {K s : Nat} {ts : List Tsk} {t : Tsk} (hs : s < K) (ht : t.st = s) (hge : busyOf ts s ≤ t.b) : (bzOf K ts).set s t.b = bzOf K (ts ++ [t]) := by
  apply List.ext_getElem?
  intro i
  rw [List.getElem?_set]
  unfold bzOf
  by_cases hi : i < K
  · rw [List.getElem?_map, List.getElem?_range hi, List.getElem?_map, List.getElem?_range hi]
    simp only [Option.map_some, List.length_map, List.length_range]
    rw [busyOf_snoc]
    by_cases e : s = i
    · subst e; rw [if_pos rfl, if_pos hs, if_pos ht]; congr 1; omega
    · rw [if_neg e, if_neg (by omega)]
  · rw [List.getElem?_eq_none (show ((List.range K).map fun s => busyOf ts ((s : Nat) : Int)).length ≤ i by simp; omega), List.getElem?_eq_none (by simp; omega)]
    split
    · rw [if_neg (by simp; omega)]
    · rfl
theorem tabOf_nil (l : List Opn) (sb : List Bn) : tabOf l sb [] = List.replicate sb.length (noAt l.length) := by
  unfold tabOf noAt
  apply List.ext_getElem?
  intro i
  by_cases hi : i < sb.length
  · rw [List.getElem?_map, List.getElem?_eq_getElem hi, List.getElem?_replicate, if_pos hi]
    simp only [Option.map_some]
    congr 1
    apply List.ext_getElem?
    intro j
    by_cases hj : j < l.length
    · rw [List.getElem?_map, List.getElem?_range hj, List.getElem?_replicate, if_pos hj]; rfl
    · rw [List.getElem?_eq_none (by simp; omega), List.getElem?_eq_none (by simp; omega)]
  · rw [List.getElem?_eq_none (by simp; omega), List.getElem?_eq_none (by simp; omega)]
theorem bzOf_nil (K : Nat) : bzOf K [] = List.replicate K 0 := by
  unfold bzOf
  apply List.ext_getElem?
  intro i
  by_cases hi : i < K
  · rw [List.getElem?_map, List.getElem?_range hi, List.getElem?_replicate, if_pos hi]; rfl
  · rw [List.getElem?_eq_none (by simp; omega), List.getElem?_eq_none (by simp; omega)]

/-! ## The bundles in order -/
def tkLe (x y : Bn) : Bool := decide (x.tk ≤ y.tk)
def sortB (bs : List Bn) : List Bn := bs.mergeSort tkLe
theorem sortB_perm (bs : List Bn) : (sortB bs).Perm bs := List.mergeSort_perm _ _
theorem sortB_asc (bs : List Bn) : (sortB bs).Pairwise (fun x y => x.tk ≤ y.tk) := by
  have := List.pairwise_mergeSort (le := tkLe) (fun a b c h1 h2 => by unfold tkLe at *; simp at *; omega) (fun a b => by unfold tkLe; simp; omega) bs
  exact List.Pairwise.imp (fun h => by unfold tkLe at h; simpa using h) this
theorem asc_unique : ∀ {p q : List Bn}, p.Perm q → p.Pairwise (fun x y => x.tk ≤ y.tk) → q.Pairwise (fun x y => x.tk ≤ y.tk) → (p.map Bn.tk).Nodup → p = q := by
  intro p
  induction p with
  | nil => intro q h _ _ _; exact (List.nil_perm.1 h).symm
  | cons x p ih =>
    intro q h hp hq hn
    cases q with
    | nil => exact absurd h.symm (List.not_perm_nil_cons _ _)
    | cons y q =>
      rw [List.pairwise_cons] at hp hq
      rw [List.map_cons, List.nodup_cons] at hn
      have hxy : x = y := by
        have h1 : y ∈ x :: p := h.mem_iff.2 (by simp)
        have h2 : x ∈ y :: q := h.mem_iff.1 (by simp)
        rcases List.mem_cons.1 h1 with e | h1
        · exact e.symm
        · exfalso
          have a := hp.1 y h1
          rcases List.mem_cons.1 h2 with e | h2
          · exact hn.1 (List.mem_map.2 ⟨y, h1, by rw [e]⟩)
          · have b := hq.1 x h2
            exact hn.1 (List.mem_map.2 ⟨y, h1, by omega⟩)
      subst hxy
      rw [ih ((List.perm_cons _).1 h) hp.2 hq.2 hn.2]
theorem sortB_is {bs p : List Bn} (hn : (bs.map Bn.tk).Nodup) (h : p.Perm bs) (ha : p.Pairwise (fun x y => x.tk ≤ y.tk)) : p = sortB bs :=
  asc_unique (h.trans (sortB_perm bs).symm) ha (sortB_asc bs) ((h.map Bn.tk).nodup_iff.2 hn)
theorem puts_val' {n : Nat} : ∀ (L : List (Nat × Int)) (at_ : List Int), puts n L = (0, at_) → (∀ i, i < n → at_.getD i 0 = -1 ∨ ∃ s : Nat, (s, (i : Int)) ∈ L ∧ at_.getD i 0 = s) ∧ ∀ p ∈ L, at_.getD p.2.toNat 0 = p.1 := by
  refine snoc_ind ?_ ?_
  · intro at_ h
    unfold puts at h
    cases h
    exact ⟨fun i hi => .inl (noAt_at hi), fun _ h => (by cases h)⟩
  · intro L p ih at_ h
    obtain ⟨at0, h0⟩ := puts_ok [p] L at_ h
    have hlen := (puts_len L at0 h0).1
    have hrg := (puts_len L at0 h0).2
    rw [puts_append, h0] at h
    obtain ⟨h1, h2, h3, rfl⟩ := stp_ok h
    obtain ⟨g1, g2⟩ := ih at0 h0
    have hset : ∀ i, (at0.set p.2.toNat p.1).getD i 0 = if i = p.2.toNat then (p.1 : Int) else at0.getD i 0 := fun i => getD_set _ _ _ _ (by omega)
    refine ⟨fun i hi => ?_, fun x hx => ?_⟩
    · rw [hset]
      by_cases e : i = p.2.toNat
      · rw [if_pos e]
        exact .inr ⟨p.1, by rw [show (i : Int) = p.2 from by omega]; simp, rfl⟩
      · rw [if_neg e]
        rcases g1 i hi with h4 | ⟨s, h4, h5⟩
        · exact .inl h4
        · exact .inr ⟨s, by simp [h4], h5⟩
    · rw [hset]
      rcases List.mem_append.1 hx with hx | hx
      · rw [if_neg, g2 x hx]
        intro e
        have := g2 x hx
        rw [e, h3] at this
        omega
      · simp at hx
        subst hx
        rw [if_pos rfl]
theorem flowOk_of {l : List Opn} {ss : List (List Int)} {bs : List Bn} {ds : List M.Dn} (h : comErr l ss bs ds = 0) : ∃ at_, puts l.length (flat ss) = (0, at_) ∧ hasB at_ (-1) = false ∧ FlowOk l ss.length at_ (sortB bs) ds := by
  obtain ⟨h1, h2, h3, h4⟩ := com_zero h
  obtain ⟨hz, at_, hp, hg, _, _⟩ := chk_zero h2
  have hl := lineOk_of hz
  have hsd := sound_of (ordErr_zero h1).1
  have hlen := (puts_len _ _ hp).1
  refine ⟨at_, hp, hg, ⟨hl, hsd.len, fun i hi => (hsd.mins _ (getD_mem hi)).2, hlen, fun i hi => ?_, fun b hb => h3.pl b ((sortB_perm bs).mem_iff.1 hb), ((sortB_perm bs).map Bn.tk).nodup_iff.2 h3.nd, sortB_asc bs, h4⟩⟩
  rcases (puts_val' _ _ hp).1 i hi with h5 | ⟨s, h5, h6⟩
  · exfalso
    have : hasB at_ (-1) = true := hasB_found (k := i) (by rw [← h5]; exact getD_some (by omega))
    rw [hg] at this; cases this
  · obtain ⟨q, h7, _⟩ := mem_flat.1 h5
    have := (List.getElem?_eq_some_iff.1 h7).1
    omega
/-- What Simulate returns. -/
def simRes (l : List Opn) (ss : List (List Int)) (bs : List Bn) (ds : List M.Dn) : Int × List Tsk :=
  if comErr l ss bs ds ≠ 0 then (comErr l ss bs ds, []) else simR l (puts l.length (flat ss)).2 ds (sortB bs) (l.length * bs.length) []
end Go.Proofs.Ytelgkangojmhdaa
/- What flow.Check returns: plain definitions. -/
namespace Go.Proofs.Ytelgkangojmhdaa

/-- The index of the bundle with a ticket among the first k. -/
def ixN (bs : List Bn) : Nat → Int → Option Nat
  | 0, _ => none
  | k + 1, y => if y = (bs.getD k bn0).tk then some k else ixN bs k y
theorem ixN_some {bs : List Bn} {y : Int} {b : Nat} : ∀ {k : Nat}, ixN bs k y = some b → b < k ∧ (bs.getD b bn0).tk = y
  | 0, h => by cases h
  | k + 1, h => by
    unfold ixN at h
    split at h
    · rename_i hy; injection h with h; subst h; exact ⟨by omega, hy.symm⟩
    · have := ixN_some h; exact ⟨by omega, this.2⟩
theorem ixN_none {bs : List Bn} {y : Int} : ∀ {k : Nat}, ixN bs k y = none → ∀ b, b < k → (bs.getD b bn0).tk ≠ y
  | 0, _, b, hb => by omega
  | k + 1, h, b, hb => by
    unfold ixN at h
    split at h
    · cases h
    · rename_i hy
      by_cases hk : b = k
      · subst hk; exact fun e => hy e.symm
      · exact ixN_none h b (by omega)
/-- The error of one task by itself, seen the tasks before it. -/
def tskErr (l : List Opn) (at_ : List Int) (bs : List Bn) (ds : List M.Dn) (seen : List Tsk) (t : Tsk) : Int :=
  match ixN bs bs.length t.tk with
  | none => 3
  | some b =>
    if t.op < 0 ∨ (l.length : Int) ≤ t.op then 3
    else if fnd seen t.tk t.op ≠ none then 7
    else if t.st ≠ at_.getD t.op.toNat 0 then 1
    else if M.finErr ds t.a (wk l (bs.getD b bn0) t.op.toNat) ≠ 0 ∨ M.finT ds (mc l t.op.toNat) t.a (wk l (bs.getD b bn0) t.op.toNat) ≠ t.b then 1 else 0
def tk0 : Tsk := ⟨0, 0, 0, 0, 0⟩
def tsksErr (l : List Opn) (at_ : List Int) (bs : List Bn) (ds : List M.Dn) (ts : List Tsk) : Nat → Int
  | 0 => 0
  | k + 1 => if tsksErr l at_ bs ds ts k ≠ 0 then tsksErr l at_ bs ds ts k else tskErr l at_ bs ds (ts.take k) (ts.getD k tk0)
def earlyB (l : List Opn) (ts : List Tsk) (t : Tsk) : Bool := (af l t.op.toNat).any fun a => match fnd ts t.tk a with | none => true | some p => decide (t.a < p.b)
def clash2 (t u : Tsk) : Bool := t.st == u.st && decide (t.a < u.b) && decide (u.a < t.b)
def clashN (ts : List Tsk) (k : Nat) : Bool := (List.range k).any fun i => (ts.take i).any fun u => clash2 (ts.getD i tk0) u
def chkF (l : List Opn) (ss : List (List Int)) (bs : List Bn) (ds : List M.Dn) (ts : List Tsk) : Int :=
  if comErr l ss bs ds ≠ 0 then comErr l ss bs ds
  else if tsksErr l (puts l.length (flat ss)).2 bs ds ts ts.length ≠ 0 then tsksErr l (puts l.length (flat ss)).2 bs ds ts ts.length
  else if ts.any (earlyB l ts) then 21
  else if clashN ts ts.length then 14
  else if ts.length < l.length * bs.length then 20 else 0
theorem tsksErr_mono {l : List Opn} {at_ : List Int} {bs : List Bn} {ds : List M.Dn} {ts : List Tsk} {k m : Nat} (h : tsksErr l at_ bs ds ts k ≠ 0) (hm : k ≤ m) : tsksErr l at_ bs ds ts m = tsksErr l at_ bs ds ts k := by
  induction hm with
  | refl => rfl
  | step hm ih => rw [show ∀ m, tsksErr l at_ bs ds ts (m + 1) = if tsksErr l at_ bs ds ts m ≠ 0 then tsksErr l at_ bs ds ts m else tskErr l at_ bs ds (ts.take m) (ts.getD m tk0) from fun _ => rfl, ih, if_pos h]
theorem tsksErr_zero {l : List Opn} {at_ : List Int} {bs : List Bn} {ds : List M.Dn} {ts : List Tsk} {m : Nat} (h : tsksErr l at_ bs ds ts m = 0) : ∀ k, k < m → tskErr l at_ bs ds (ts.take k) (ts.getD k tk0) = 0 := by
  intro k hk
  have h1 : tsksErr l at_ bs ds ts (k + 1) = 0 := Decidable.byContradiction fun hn => hn (by rw [tsksErr_mono hn (show k + 1 ≤ m by omega)] at h; exact h)
  unfold tsksErr at h1
  split at h1
  · rename_i h2; exact absurd h1 h2
  · exact h1
structure TkGood (l : List Opn) (at_ : List Int) (bs : List Bn) (ds : List M.Dn) (seen : List Tsk) (t : Tsk) (b : Nat) : Prop where
  ix : ixN bs bs.length t.tk = some b
  o0 : 0 ≤ t.op
  o1 : t.op < l.length
  new : fnd seen t.tk t.op = none
  st : t.st = at_.getD t.op.toNat 0
  fe : M.finErr ds t.a (wk l (bs.getD b bn0) t.op.toNat) = 0
  en : t.b = M.finT ds (mc l t.op.toNat) t.a (wk l (bs.getD b bn0) t.op.toNat)
theorem tskErr_zero {l : List Opn} {at_ : List Int} {bs : List Bn} {ds : List M.Dn} {seen : List Tsk} {t : Tsk} : tskErr l at_ bs ds seen t = 0 ↔ ∃ b, TkGood l at_ bs ds seen t b := by
  unfold tskErr
  constructor
  · intro h
    split at h
    · cases h
    · rename_i b hb
      split at h
      · cases h
      · rename_i h1
        split at h
        · cases h
        · rename_i h2
          split at h
          · cases h
          · rename_i h3
            split at h
            · cases h
            · rename_i h4
              rw [not_or] at h1 h4
              exact ⟨b, hb, by omega, by omega, Decidable.byContradiction h2, Decidable.byContradiction h3, Decidable.byContradiction h4.1, (Decidable.byContradiction h4.2).symm⟩
  · rintro ⟨b, h1, h2, h3, h4, h5, h6, h7⟩
    rw [h1]
    dsimp only
    rw [if_neg (by omega), if_neg (by rw [h4]; simp), if_neg (by rw [h5]; simp), if_neg (by rw [h6, ← h7]; simp)]
theorem tsksErr_succ {l : List Opn} {at_ : List Int} {bs : List Bn} {ds : List M.Dn} {ts : List Tsk} {k : Nat} {t : Tsk} (h0 : tsksErr l at_ bs ds ts k = 0) (ht : ts[k]? = some t) : tsksErr l at_ bs ds ts (k + 1) = tskErr l at_ bs ds (ts.take k) t := by
  rw [show tsksErr l at_ bs ds ts (k + 1) = if tsksErr l at_ bs ds ts k ≠ 0 then tsksErr l at_ bs ds ts k else tskErr l at_ bs ds (ts.take k) (ts.getD k tk0) from rfl, if_neg (by rw [h0]; simp), List.getD_eq_getElem?_getD, ht]
  rfl
theorem tsks_pos {l : List Opn} {at_ : List Int} {bs : List Bn} {ds : List M.Dn} {ts : List Tsk} {k : Nat} (h : tsksErr l at_ bs ds ts k = 0) : ∀ t ∈ ts.take k, 0 ≤ t.b := by
  intro t ht
  obtain ⟨i, hi, e⟩ := List.getElem_of_mem ht
  rw [List.length_take] at hi
  rw [List.getElem_take] at e
  obtain ⟨b, hg⟩ := tskErr_zero.1 (tsksErr_zero h i (by omega))
  have hd : ts.getD i tk0 = t := by rw [List.getD_eq_getElem?_getD, List.getElem?_eq_getElem (by omega), e]; rfl
  rw [hd] at hg
  have h1 := M.finErr_zero hg.fe
  have h2 := (M.finT_le (m := mc l t.op.toNat) hg.fe).1
  have h3 := hg.en
  omega
theorem chkF_stop {l : List Opn} {ss : List (List Int)} {at_ : List Int} {bs : List Bn} {ds : List M.Dn} {ts : List Tsk} {k : Nat} {t : Tsk} {e : Int} (hz : comErr l ss bs ds = 0) (hp : puts l.length (flat ss) = (0, at_)) (h0 : tsksErr l at_ bs ds ts k = 0) (ht : ts[k]? = some t) (he : tskErr l at_ bs ds (ts.take k) t = e) (hne : e ≠ 0) : chkF l ss bs ds ts = e := by
  have hk : k < ts.length := (List.getElem?_eq_some_iff.1 ht).1
  have h1 := (tsksErr_succ h0 ht).trans he
  have h2 := tsksErr_mono (by rw [h1]; exact hne) (show k + 1 ≤ ts.length by omega)
  unfold chkF
  rw [if_neg (by rw [hz]; simp), hp, if_pos (by rw [h2, h1]; exact hne), h2, h1]
end Go.Proofs.Ytelgkangojmhdaa
