/- Plain laws of convex hulls: the hull of a list as a function; what the reference's wrapping returns. No program in sight. -/
import Derived.Test.YtopmolpnmpchoaaCvPlain9
namespace Go.Proofs.Ytopmolpnmpchoaa

/-! ## Spots within bounds, and their order -/
def In (B : Int) (p : Pt) : Prop := -B ≤ p.x ∧ p.x ≤ B ∧ -B ≤ p.y ∧ p.y ≤ B
instance (B : Int) (p : Pt) : Decidable (In B p) := by unfold In; infer_instance
def Bd (l : List Pt) : Prop := ∀ p ∈ l, In 8388608 p
def M0 : Pt := ⟨16777217, 1⟩
def Less (a b : Pt) : Prop := a.x < b.x ∨ (a.x = b.x ∧ a.y < b.y)
instance (a b : Pt) : Decidable (Less a b) := by unfold Less; infer_instance
theorem In.more {B C : Int} {p : Pt} (h : In B p) (hc : B ≤ C) : In C p := by unfold In at *; omega
theorem lv_M0 (a : Pt) : lv M0 a = 16777217 * a.x + a.y := by unfold lv M0; simp only; omega
theorem less_lv {a b : Pt} (ha : In 8388608 a) (hb : In 8388608 b) : Less a b ↔ lv M0 a < lv M0 b := by
  rw [lv_M0, lv_M0]; unfold Less; unfold In at ha hb; omega
theorem inj_lv {a b : Pt} (ha : In 8388608 a) (hb : In 8388608 b) (h : lv M0 a = lv M0 b) : a = b := by
  rw [lv_M0, lv_M0] at h; unfold In at ha hb; exact Pt.same (by omega) (by omega)
theorem Bd.inj {l : List Pt} (h : Bd l) : ∀ q ∈ l, ∀ q' ∈ l, lv M0 q = lv M0 q' → q = q' := fun q hq q' hq' e => inj_lv (h q hq) (h q' hq') e

/-! ## A strictly ascending list of the same spots -/
theorem asc_exists {M : Pt} : ∀ {l : List Pt}, (∀ q ∈ l, ∀ q' ∈ l, lv M q = lv M q' → q = q') → ∃ S, Asc M S ∧ ∀ q, q ∈ S ↔ q ∈ l
  | [], _ => ⟨[], List.Pairwise.nil, fun _ => Iff.rfl⟩
  | p :: l, hinj => by
    obtain ⟨S, hS, hm⟩ := asc_exists (M := M) (l := l) fun q hq q' hq' e => hinj q (List.mem_cons_of_mem _ hq) q' (List.mem_cons_of_mem _ hq') e
    have key : ∀ (T : List Pt), Asc M T → (∀ q ∈ T, lv M q = lv M p → q = p) → ∃ S, Asc M S ∧ ∀ q, q ∈ S ↔ (q = p ∨ q ∈ T) := by
      intro T
      induction T with
      | nil => intro _ _; exact ⟨[p], List.pairwise_singleton _ _, fun q => by simp⟩
      | cons a r ih =>
        intro hT hp
        have h1 := (List.pairwise_cons.1 hT).1
        have h2 := (List.pairwise_cons.1 hT).2
        rcases Int.lt_trichotomy (lv M p) (lv M a) with c | c | c
        · refine ⟨p :: a :: r, List.pairwise_cons.2 ⟨fun q hq => ?_, hT⟩, fun q => by simp⟩
          rcases List.mem_cons.1 hq with rfl | hq
          · exact c
          · exact Int.lt_trans c (h1 q hq)
        · have e := hp a (by simp) c.symm
          refine ⟨a :: r, hT, fun q => ?_⟩
          subst e
          simp
        · obtain ⟨S, hS, hm⟩ := ih h2 fun q hq => hp q (List.mem_cons_of_mem _ hq)
          refine ⟨a :: S, List.pairwise_cons.2 ⟨fun q hq => ?_, hS⟩, fun q => ?_⟩
          · rcases (hm q).1 hq with rfl | hq
            · exact c
            · exact h1 q hq
          · simp only [List.mem_cons, hm]
            constructor
            · rintro (h | h | h)
              · exact .inr (.inl h)
              · exact .inl h
              · exact .inr (.inr h)
            · rintro (h | h | h)
              · exact .inr (.inl h)
              · exact .inl h
              · exact .inr (.inr h)
    obtain ⟨S', hS', hm'⟩ := key S hS fun q hq e => hinj q (List.mem_cons_of_mem _ ((hm q).1 hq)) p (by simp) e
    exact ⟨S', hS', fun q => by rw [hm', hm, List.mem_cons]⟩
theorem Col.same {l l' : List Pt} (h : Col l) (hs : ∀ q, q ∈ l ↔ q ∈ l') : Col l' :=
  fun x hx y hy z hz => h x ((hs x).2 hx) y ((hs y).2 hy) z ((hs z).2 hz)
theorem IsHull.same {M : Pt} {l l' h : List Pt} (H : IsHull M l h) (hs : ∀ q, q ∈ l ↔ q ∈ l') : IsHull M l' h :=
  ⟨H.len, fun i => (hs _).1 (H.mem i), fun i q hq => H.left i q ((hs q).2 hq), H.turn, fun q hq => H.low q ((hs q).2 hq), H.lt⟩
theorem col_few {l : List Pt} (h : l.length ≤ 1) : Col l := by
  intro x hx y hy z hz
  match l, h with
  | [], _ => cases hx
  | [a], _ =>
    simp at hx hy hz
    subst hx; subst hy; subst hz
    unfold crs; simp
theorem IsHull.notCol {M : Pt} {l h : List Pt} (H : IsHull M l h) : ¬ Col l := by
  intro hc
  have h1 := H.turn 0
  rw [hc _ (H.mem 0) _ (H.mem (0 + 1)) _ (H.mem (0 + 2))] at h1
  omega

/-! ## The hull of a list -/
def insA (p : Pt) : List Pt → List Pt
  | [] => [p]
  | a :: r => if lv M0 p < lv M0 a then p :: a :: r else if lv M0 p = lv M0 a then a :: r else a :: insA p r
def srt : List Pt → List Pt
  | [] => []
  | p :: l => insA p (srt l)
def hull1 (l : List Pt) : List Pt := if (srt l).length < 3 ∨ (hullP (srt l)).length < 3 then [] else hullP (srt l)
theorem insA_sub (p : Pt) : ∀ (l : List Pt), ∀ q ∈ insA p l, q = p ∨ q ∈ l
  | [], q, h => by simp [insA] at h; exact .inl h
  | a :: r, q, h => by
    unfold insA at h
    split at h
    · rcases List.mem_cons.1 h with h | h
      · exact .inl h
      · exact .inr h
    · split at h
      · exact .inr h
      · rcases List.mem_cons.1 h with h | h
        · rw [h]; exact .inr (by simp)
        · rcases insA_sub p r q h with h | h
          · exact .inl h
          · exact .inr (List.mem_cons_of_mem _ h)
theorem insA_asc (p : Pt) : ∀ (l : List Pt), Asc M0 l → Asc M0 (insA p l)
  | [], _ => List.pairwise_singleton _ _
  | a :: r, h => by
    have h1 := (List.pairwise_cons.1 h).1
    have h2 := (List.pairwise_cons.1 h).2
    unfold insA
    split
    · rename_i c
      refine List.pairwise_cons.2 ⟨fun q hq => ?_, h⟩
      rcases List.mem_cons.1 hq with e | hq
      · rw [e]; exact c
      · exact Int.lt_trans c (h1 q hq)
    · split
      · exact h
      · rename_i c1 c2
        refine List.pairwise_cons.2 ⟨fun q hq => ?_, insA_asc p r h2⟩
        rcases insA_sub p r q hq with e | hq
        · rw [e]; omega
        · exact h1 q hq
theorem insA_mem {p : Pt} : ∀ {l : List Pt}, (∀ q ∈ l, lv M0 q = lv M0 p → q = p) → ∀ q, (q = p ∨ q ∈ l) → q ∈ insA p l
  | [], _, q, h => by simpa [insA] using h
  | a :: r, hi, q, h => by
    unfold insA
    split
    · rcases h with h | h
      · rw [h]; simp
      · exact List.mem_cons_of_mem _ h
    · split
      · rename_i c
        rcases h with h | h
        · rw [h, ← hi a (by simp) c.symm]; simp
        · exact h
      · rcases h with h | h
        · exact List.mem_cons_of_mem _ (insA_mem (fun q hq => hi q (List.mem_cons_of_mem _ hq)) q (.inl h))
        · rcases List.mem_cons.1 h with h | h
          · rw [h]; simp
          · exact List.mem_cons_of_mem _ (insA_mem (fun q hq => hi q (List.mem_cons_of_mem _ hq)) q (.inr h))
theorem srt_sub : ∀ (l : List Pt), ∀ q ∈ srt l, q ∈ l
  | [], _, h => by cases h
  | p :: l, q, h => by
    rcases insA_sub p (srt l) q h with h | h
    · rw [h]; simp
    · exact List.mem_cons_of_mem _ (srt_sub l q h)
theorem srt_asc : ∀ (l : List Pt), Asc M0 (srt l)
  | [] => List.Pairwise.nil
  | p :: l => insA_asc p (srt l) (srt_asc l)
theorem srt_mem : ∀ {l : List Pt}, Bd l → ∀ q, q ∈ srt l ↔ q ∈ l
  | [], _, _ => Iff.rfl
  | p :: l, hb, q => by
    constructor
    · exact srt_sub (p :: l) q
    · intro h
      have hb' : Bd l := fun q hq => hb q (List.mem_cons_of_mem _ hq)
      refine insA_mem (fun q hq e => inj_lv (hb' q (srt_sub l q hq)) (hb p (by simp)) e) q ?_
      rcases List.mem_cons.1 h with h | h
      · exact .inl h
      · exact .inr ((srt_mem hb' q).2 h)
theorem hull1_of {l h : List Pt} (hb : Bd l) (H : IsHull M0 l h) : hull1 l = h := by
  have hm := srt_mem hb
  have hS := srt_asc l
  have hcS : ¬ Col (srt l) := fun hc => H.notCol (hc.same hm)
  have hl : 2 ≤ (srt l).length := by
    by_cases h : 2 ≤ (srt l).length
    · exact h
    · exact absurd (col_few (by omega)) hcS
  have K := hullP_ok hS hl hcS
  have h3 := K.len
  have h4 := K.round.le
  unfold hull1
  rw [if_neg (by omega)]
  exact Round.same (K.same hm).round H.round (fun _ => Iff.rfl) hb.inj
theorem hull1_ok {l : List Pt} (hb : Bd l) (hc : ¬ Col l) : IsHull M0 l (hull1 l) := by
  obtain ⟨S, hS, hm⟩ := asc_exists (M := M0) hb.inj
  have hcS : ¬ Col S := fun h => hc (h.same hm)
  have hl : 2 ≤ S.length := by
    by_cases h : 2 ≤ S.length
    · exact h
    · exact absurd (col_few (by omega)) hcS
  have H := (hullP_ok hS hl hcS).same hm
  rw [hull1_of hb H]
  exact H
theorem hull1_flat {l : List Pt} (hc : Col l) : hull1 l = [] := by
  have hcS : Col (srt l) := fun x hx y hy z hz => hc x (srt_sub l x hx) y (srt_sub l y hy) z (srt_sub l z hz)
  unfold hull1
  by_cases hl : (srt l).length < 3
  · rw [if_pos (.inl hl)]
  · rw [if_pos (.inr (by rw [hullP_flat (srt_asc l) (by omega) hcS]; omega))]
theorem hull1_nil {l : List Pt} (hb : Bd l) : hull1 l = [] ↔ Col l := by
  constructor
  · intro e
    by_cases hc : Col l
    · exact hc
    · have := (hull1_ok hb hc).len
      rw [e] at this
      simp at this
  · exact hull1_flat
theorem hull1_is {l : List Pt} (hb : Bd l) (h : hull1 l ≠ []) : IsHull M0 l (hull1 l) := hull1_ok hb fun hc => h (hull1_flat hc)
theorem Bd.same {l l' : List Pt} (h : Bd l) (hs : ∀ q, q ∈ l ↔ q ∈ l') : Bd l' := fun q hq => h q ((hs q).2 hq)
theorem hull1_same {l l' : List Pt} (hb : Bd l) (hs : ∀ q, q ∈ l ↔ q ∈ l') : hull1 l = hull1 l' := by
  by_cases hc : Col l
  · rw [hull1_flat hc, hull1_flat (hc.same hs)]
  · exact (hull1_of (hb.same hs) ((hull1_ok hb hc).same hs)).symm
/-- What the program makes of the sorted list. -/
theorem hull1_prog {l S : List Pt} (hb : Bd l) (hS : Asc M0 S) (hm : ∀ q, q ∈ S ↔ q ∈ l) : hull1 l = if S.length < 3 ∨ (hullP S).length < 3 then [] else hullP S := by
  by_cases hl : S.length < 2
  · rw [if_pos (.inl (by omega)), hull1_flat ((col_few (by omega)).same hm)]
  · by_cases hc : Col S
    · rw [if_pos (.inr (by rw [hullP_flat hS (by omega) hc]; omega)), hull1_flat (hc.same hm)]
    · have H := hullP_ok hS (by omega) hc
      have h3 := H.len
      have h4 := H.round.le
      rw [if_neg (by omega)]
      exact hull1_of hb (H.same hm)
theorem hull1_mem {l : List Pt} (hb : Bd l) {q : Pt} (hq : q ∈ hull1 l) : q ∈ l := by
  have H := hull1_is hb (by intro e; rw [e] at hq; cases hq)
  obtain ⟨i, hi, rfl⟩ := List.getElem_of_mem hq
  rw [← rd_get hi]
  exact H.mem i
theorem hull1_len {l : List Pt} (hb : Bd l) : (hull1 l).length ≤ l.length := by
  by_cases e : hull1 l = []
  · rw [e]; simp
  · exact (hull1_is hb e).round.le

/-! ## The reference's wrapping -/
theorem scan_one {a : Pt} : ∀ {l : List Pt}, (∀ q ∈ l, q = a) → scan a l a = a
  | [], _ => rfl
  | q :: l, h => by
    have e := h q (by simp)
    subst e
    have e1 : scan1 q q q = q := by unfold scan1; split <;> rfl
    unfold scan
    rw [List.foldl_cons, e1]
    exact scan_one fun q hq => h q (List.mem_cons_of_mem _ hq)
theorem wrap_flat {l : List Pt} {s : Pt} (hb : Bd l) (hs : s ∈ l) (h0 : ∀ q ∈ l, lv M0 s ≤ lv M0 q) (hc : Col l) : (wrapF l s l.length [s] s).length < 3 := by
  obtain ⟨S, hS, hm⟩ := asc_exists (M := M0) hb.inj
  match S, hS, hm with
  | [], _, hm => exact absurd ((hm s).2 hs) (by simp)
  | [a], _, hm =>
    have ha : ∀ q ∈ l, q = s := by
      intro q hq
      have h1 := (hm q).2 hq
      have h2 := (hm s).2 hs
      simp at h1 h2
      rw [h1, h2]
    have hp : 0 < l.length := List.length_pos_of_mem hs
    obtain ⟨n, hn⟩ : ∃ n, l.length = n + 1 := ⟨l.length - 1, by omega⟩
    rw [hn]
    unfold wrapF
    rw [if_pos (.inl (scan_one ha))]
    simp
  | a :: b :: r, hS, hm =>
    obtain ⟨g, hg⟩ : ∃ g, (a :: b :: r).getLast? = some g := ⟨_, List.getLast?_eq_some_getLast (by simp)⟩
    have hgm : g ∈ b :: r := by rw [List.getLast?_cons_cons] at hg; exact List.mem_of_getLast? hg
    have hmax : ∀ q ∈ l, lv M0 q ≤ lv M0 g := by
      intro q hq
      have hq' := (hm q).2 hq
      rcases snoc_or (a :: b :: r) with e | ⟨l', p, e⟩
      · cases e
      · rw [e] at hg hq' hS
        simp at hg
        subst hg
        rcases List.mem_append.1 hq' with h | h
        · exact Int.le_of_lt ((List.pairwise_append.1 hS).2.2 q h p (by simp))
        · simp at h; rw [h]; exact Int.le_refl _
    have hsa : s = a := by
      have h1 := (hm s).2 hs
      rcases List.mem_cons.1 h1 with h | h
      · exact h
      · have h2 := (List.pairwise_cons.1 hS).1 s h
        have h3 := h0 a ((hm a).1 (by simp))
        omega
    subst hsa
    have hsg : lv M0 s < lv M0 g := (List.pairwise_cons.1 hS).1 g hgm
    have R := flat_round (M := M0) hs ((hm g).1 (List.mem_cons_of_mem _ hgm)) hsg hc h0 hmax
    have e := wrap_round R
    rw [show rd [s, g] 0 = s from rfl] at e
    rw [e]
    simp
theorem wrap_full {l : List Pt} {s : Pt} (hb : Bd l) (hs : s ∈ l) (h0 : ∀ q ∈ l, lv M0 s ≤ lv M0 q) (hc : ¬ Col l) : wrapF l s l.length [s] s = hull1 l := by
  have H := hull1_ok hb hc
  have e : rd (hull1 l) 0 = s := by
    have k1 := H.low s hs
    have k2 := h0 _ (H.mem 0)
    exact hb.inj _ (H.mem 0) _ hs (by omega)
  have := wrap_round H.round
  rw [e] at this
  exact this
end Go.Proofs.Ytopmolpnmpchoaa
