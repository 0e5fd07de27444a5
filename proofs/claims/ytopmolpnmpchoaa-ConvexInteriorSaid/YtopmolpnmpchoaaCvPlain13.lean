/- Plain laws of convex hulls: what Hull, Sum, Support and Inside return, and the laws about them. No program in sight. -/
import Derived.Test.YtopmolpnmpchoaaCvPlain12
namespace Go.Proofs.Ytopmolpnmpchoaa

/-! ## Support -/
def lim (m n : Int) : Int := min (max n (-m)) m
def dotL (d p : Pt) : Int := lim 4194304 p.x * lim 1000 d.x + lim 4194304 p.y * lim 1000 d.y
theorem dotL_lv {d p : Pt} (hd : In 1000 d) (hp : In 4194304 p) : dotL d p = lv d p := by
  unfold In at hd hp
  unfold dotL lv
  have e1 : lim 4194304 p.x = p.x := by unfold lim; omega
  have e2 : lim 4194304 p.y = p.y := by unfold lim; omega
  have e3 : lim 1000 d.x = d.x := by unfold lim; omega
  have e4 : lim 1000 d.y = d.y := by unfold lim; omega
  rw [e1, e2, e3, e4, Int.mul_comm, Int.mul_comm p.y]
def supF (f : Pt → Int) : List Pt → Int
  | [] => 0
  | a :: r => r.foldl (fun g s => if g < f s then f s else g) (f a)
theorem supF_snoc (f : Pt → Int) (l : List Pt) (s : Pt) : supF f (l ++ [s]) = if l = [] ∨ supF f l < f s then f s else supF f l := by
  cases l with
  | nil => rfl
  | cons a r =>
    show (r ++ [s]).foldl _ _ = _
    rw [List.foldl_append]
    show (if supF f (a :: r) < f s then f s else supF f (a :: r)) = _
    simp
theorem supF_max (f : Pt → Int) : ∀ {l : List Pt}, l ≠ [] → (∃ p ∈ l, supF f l = f p) ∧ ∀ p ∈ l, f p ≤ supF f l := by
  intro l
  have key : ∀ (n : Nat) (l : List Pt), l.length = n → l ≠ [] → (∃ p ∈ l, supF f l = f p) ∧ ∀ p ∈ l, f p ≤ supF f l := by
    intro n
    induction n with
    | zero => intro l h1 h2; exact absurd (List.eq_nil_of_length_eq_zero h1) h2
    | succ n ih =>
      intro l h1 h2
      rcases snoc_or l with e | ⟨l', s, e⟩
      · exact absurd e h2
      · subst e
        rw [supF_snoc]
        by_cases hl : l' = []
        · subst hl
          rw [if_pos (.inl rfl)]
          exact ⟨⟨s, by simp, rfl⟩, fun p hp => by simp at hp; rw [hp]; exact Int.le_refl _⟩
        · obtain ⟨⟨p, hp, e⟩, h3⟩ := ih l' (by simpa using h1) hl
          by_cases c : supF f l' < f s
          · rw [if_pos (.inr c)]
            refine ⟨⟨s, by simp, rfl⟩, fun q hq => ?_⟩
            rcases List.mem_append.1 hq with hq | hq
            · have := h3 q hq; omega
            · simp at hq; rw [hq]; exact Int.le_refl _
          · rw [if_neg (by rintro (h | h); exact hl h; exact c h)]
            refine ⟨⟨p, List.mem_append_left _ hp, e⟩, fun q hq => ?_⟩
            rcases List.mem_append.1 hq with hq | hq
            · exact h3 q hq
            · simp at hq; rw [hq]; omega
  exact key _ l rfl
theorem supF_is {f : Pt → Int} {l : List Pt} {m : Int} (h1 : ∃ p ∈ l, m = f p) (h2 : ∀ p ∈ l, f p ≤ m) : supF f l = m := by
  obtain ⟨p, hp, e⟩ := h1
  obtain ⟨⟨q, hq, e2⟩, h3⟩ := supF_max f (l := l) (by intro e; rw [e] at hp; cases hp)
  have := h3 p hp
  have := h2 q hq
  omega
theorem supF_congr {f g : Pt → Int} {l : List Pt} (h : ∀ p ∈ l, f p = g p) : supF f l = supF g l := by
  by_cases e : l = []
  · rw [e]; rfl
  · obtain ⟨⟨p, hp, e1⟩, h1⟩ := supF_max g e
    exact supF_is ⟨p, hp, by rw [h p hp]; exact e1⟩ fun q hq => by rw [h q hq]; exact h1 q hq
theorem supF_map (f : Pt → Int) (k : Pt → Pt) (l : List Pt) : supF f (l.map k) = supF (fun p => f (k p)) l := by
  by_cases e : l = []
  · rw [e]; rfl
  · obtain ⟨⟨p, hp, e1⟩, h1⟩ := supF_max (fun p => f (k p)) e
    refine supF_is ⟨k p, List.mem_map_of_mem hp, e1⟩ fun q hq => ?_
    obtain ⟨r, hr, rfl⟩ := List.mem_map.1 hq
    exact h1 r hr
/-- The support of a hull is that of the list. -/
theorem supF_hull {M : Pt} {l h : List Pt} (H : IsHull M l h) (d : Pt) : supF (lv d) h = supF (lv d) l := by
  obtain ⟨i, hi, h1, h2, _⟩ := H.best d
  have hp : 0 < h.length := by omega
  have e1 : supF (lv d) h = lv d (rd h i) := by
    refine supF_is ⟨_, gt_mem (Nat.mod_lt _ hp), rfl⟩ fun q hq => ?_
    obtain ⟨j, hj, rfl⟩ := List.getElem_of_mem hq
    rw [← rd_get hj]
    exact h1 j
  have e2 : supF (lv d) l = lv d (rd h i) := supF_is ⟨_, H.mem i, rfl⟩ fun q hq => h2 q fun j => H.left j q hq
  rw [e1, e2]
theorem supF_sums {h k : List Pt} (d : Pt) (h0 : h ≠ []) (k0 : k ≠ []) : supF (lv d) (sumsP h k) = supF (lv d) h + supF (lv d) k := by
  obtain ⟨⟨p, hp, e1⟩, h1⟩ := supF_max (lv d) h0
  obtain ⟨⟨q, hq, e2⟩, h2⟩ := supF_max (lv d) k0
  refine supF_is ⟨addP q p, mem_sumsP.2 ⟨p, hp, q, hq, rfl⟩, by rw [lv_addP]; omega⟩ fun r hr => ?_
  obtain ⟨a, ha, b, hb, rfl⟩ := mem_sumsP.1 hr
  rw [lv_addP]
  have := h1 a ha
  have := h2 b hb
  omega

/-! ## Hull and Sum -/
def allIn (l : List Pt) : Bool := l.all fun p => decide (In 4194304 p)
theorem allIn_iff {l : List Pt} : allIn l = true ↔ ∀ p ∈ l, In 4194304 p := by unfold allIn; simp
def hullE (l : List Pt) : Int := if 160 < l.length then 5 else if allIn l = false then 3 else if (hull1 l).length = 0 then 11 else 0
def hullV (l : List Pt) : List Pt := if hullE l = 0 then hull1 l else []
theorem bd_of {l : List Pt} (h : allIn l = true) : Bd l := fun p hp => (allIn_iff.1 h p hp).more (by decide)
theorem hullE_ok {l : List Pt} (h : hullE l = 0) : l.length ≤ 160 ∧ allIn l = true ∧ hullV l = hull1 l ∧ IsHull M0 l (hull1 l) := by
  have hv : hullV l = hull1 l := by unfold hullV; rw [if_pos h]
  unfold hullE at h
  split at h
  · cases h
  · split at h
    · cases h
    · rename_i h1 h2
      have h2' : allIn l = true := by cases e : allIn l; exact absurd e h2; rfl
      split at h
      · cases h
      · rename_i h3
        exact ⟨by omega, h2', hv, hull1_is (bd_of h2') (by intro e; rw [e] at h3; exact h3 rfl)⟩
theorem hullE_of {l : List Pt} (h1 : l.length ≤ 160) (h2 : allIn l = true) (h3 : hull1 l ≠ []) : hullE l = 0 := by
  unfold hullE
  rw [if_neg (by omega), if_neg (by rw [h2]; decide), if_neg (by intro e; exact h3 (List.eq_nil_of_length_eq_zero e))]
theorem hullV_no {l : List Pt} (h : hullE l ≠ 0) : hullV l = [] := by unfold hullV; rw [if_neg h]
theorem hullV_in {l : List Pt} : allIn (hullV l) = true := by
  by_cases h : hullE l = 0
  · obtain ⟨_, h2, h3, H⟩ := hullE_ok h
    rw [h3]
    exact allIn_iff.2 fun p hp => allIn_iff.1 h2 p (hull1_mem (bd_of h2) hp)
  · rw [hullV_no h]; rfl
theorem hullV_len {l : List Pt} : (hullV l).length ≤ l.length ∧ (hullV l).length ≤ 160 := by
  by_cases h : hullE l = 0
  · obtain ⟨h1, h2, h3, H⟩ := hullE_ok h
    rw [h3]
    have := hull1_len (bd_of h2)
    omega
  · rw [hullV_no h]; simp
def sm (a b : List Pt) : List Pt := hull1 (sumsP (hullV a) (hullV b))
def sumE (a b : List Pt) : Int := if hullE a ≠ 0 then hullE a else if hullE b ≠ 0 then hullE b else if allIn (sm a b) = false then 3 else if 160 < (sm a b).length then 5 else 0
def sumV (a b : List Pt) : List Pt := if sumE a b = 0 then sm a b else []
theorem sums_bd {h k : List Pt} (h1 : allIn h = true) (h2 : allIn k = true) : Bd (sumsP h k) := by
  intro q hq
  obtain ⟨a, ha, b, hb, rfl⟩ := mem_sumsP.1 hq
  have k1 := allIn_iff.1 h1 a ha
  have k2 := allIn_iff.1 h2 b hb
  unfold In addP at *
  simp only
  omega
theorem sm_is {a b : List Pt} (ha : hullE a = 0) (hb : hullE b = 0) : IsHull M0 (sumsP (hullV a) (hullV b)) (sm a b) := by
  obtain ⟨_, _, e1, H1⟩ := hullE_ok ha
  obtain ⟨_, _, e2, H2⟩ := hullE_ok hb
  refine hull1_ok (sums_bd hullV_in hullV_in) ?_
  rw [e1, e2]
  exact sums_notCol H1.self (by intro e; have := H2.len; rw [e] at this; simp at this)
theorem sumE_ok {a b : List Pt} (h : sumE a b = 0) : hullE a = 0 ∧ hullE b = 0 ∧ allIn (sm a b) = true ∧ (sm a b).length ≤ 160 ∧ sumV a b = sm a b ∧ IsHull M0 (sumsP (hullV a) (hullV b)) (sm a b) := by
  have hv : sumV a b = sm a b := by unfold sumV; rw [if_pos h]
  unfold sumE at h
  split at h
  · rename_i h1; exact absurd h h1
  · rename_i h1
    split at h
    · rename_i h2; exact absurd h h2
    · rename_i h2
      split at h
      · cases h
      · rename_i h3
        split at h
        · cases h
        · rename_i h4
          have h1' : hullE a = 0 := by omega
          have h2' : hullE b = 0 := by omega
          exact ⟨h1', h2', by cases e : allIn (sm a b); exact absurd e h3; rfl, by omega, hv, sm_is h1' h2'⟩
theorem sumE_of {a b : List Pt} (h1 : hullE a = 0) (h2 : hullE b = 0) (h3 : allIn (sm a b) = true) (h4 : (sm a b).length ≤ 160) : sumE a b = 0 := by
  unfold sumE
  rw [if_neg (by omega), if_neg (by omega), if_neg (by rw [h3]; decide), if_neg (by omega)]
theorem sumV_no {a b : List Pt} (h : sumE a b ≠ 0) : sumV a b = [] := by unfold sumV; rw [if_neg h]
theorem sm_comm (a b : List Pt) : sm a b = sm b a := hull1_same (sums_bd hullV_in hullV_in) (sumsP_comm _ _)
theorem sumE_comm {a b : List Pt} (h : sumE a b = 0) : sumE b a = 0 ∧ sumV b a = sumV a b := by
  obtain ⟨h1, h2, h3, h4, h5, _⟩ := sumE_ok h
  have e := sumE_of h2 h1 (by rw [sm_comm]; exact h3) (by rw [sm_comm]; exact h4)
  exact ⟨e, by rw [h5, (sumE_ok e).2.2.2.2.1, sm_comm]⟩

/-! ## The laws -/
theorem law_support_hull {a d : _} (hd : In 1000 d) (h : hullE a = 0) : supF (dotL d) (hullV a) = supF (dotL d) a := by
  obtain ⟨_, h2, h3, H⟩ := hullE_ok h
  rw [supF_congr (g := lv d) fun p hp => dotL_lv hd (allIn_iff.1 hullV_in p hp), supF_congr (l := a) (g := lv d) fun p hp => dotL_lv hd (allIn_iff.1 h2 p hp), h3]
  exact supF_hull H d
def neg (p : Pt) : Pt := ⟨-p.x, -p.y⟩
theorem law_support_neg {a : List Pt} {d : Pt} : supF (dotL d) (a.map neg) = supF (dotL (neg d)) a := by
  rw [supF_map]
  refine supF_congr fun p _ => ?_
  unfold dotL neg
  have e : ∀ m n : Int, 0 ≤ m → lim m (-n) = - lim m n := fun m n hm => by unfold lim; omega
  simp only
  rw [e _ _ (by decide), e _ _ (by decide), e _ _ (by decide), e _ _ (by decide)]
  grind
theorem law_support_sum {a b : List Pt} {d : Pt} (hd : In 1000 d) (h : sumE a b = 0) : hullE a = 0 ∧ supF (dotL d) (sumV a b) = supF (dotL d) a + supF (dotL d) b := by
  obtain ⟨h1, h2, h3, _, h5, H⟩ := sumE_ok h
  refine ⟨h1, ?_⟩
  rw [← law_support_hull hd h1, ← law_support_hull hd h2]
  rw [supF_congr (l := sumV a b) (g := lv d) fun p hp => dotL_lv hd (allIn_iff.1 h3 p (by rw [h5] at hp; exact hp))]
  rw [supF_congr (l := hullV a) (g := lv d) fun p hp => dotL_lv hd (allIn_iff.1 hullV_in p hp)]
  rw [supF_congr (l := hullV b) (g := lv d) fun p hp => dotL_lv hd (allIn_iff.1 hullV_in p hp)]
  have n1 : hullV a ≠ [] := by
    obtain ⟨_, _, e, K⟩ := hullE_ok h1
    rw [e]; intro e'; have := K.len; rw [e'] at this; simp at this
  have n2 : hullV b ≠ [] := by
    obtain ⟨_, _, e, K⟩ := hullE_ok h2
    rw [e]; intro e'; have := K.len; rw [e'] at this; simp at this
  rw [h5, supF_hull H d, supF_sums d n1 n2]
theorem law_again {l : List Pt} (h : hullE l = 0) : hullE (hullV l) = 0 ∧ hullV (hullV l) = hullV l := by
  obtain ⟨h1, h2, h3, H⟩ := hullE_ok h
  have hin := hullV_in (l := l)
  have hl := hullV_len (l := l)
  have e : hull1 (hullV l) = hullV l := by rw [h3]; rw [h3] at hin; exact hull1_of (bd_of hin) H.self
  have hz : hullE (hullV l) = 0 := hullE_of (by omega) hin (by rw [e, h3]; intro e'; have := H.len; rw [e'] at this; simp at this)
  exact ⟨hz, by rw [(hullE_ok hz).2.2.1, e]⟩
theorem law_order {l m : List Pt} (hl : l.length ≤ 160) (hm : m.length ≤ 160) (hs : ∀ q, q ∈ l ↔ q ∈ m) : hullE l = hullE m ∧ hullV l = hullV m := by
  have e1 : allIn l = allIn m := by
    rw [Bool.eq_iff_iff, allIn_iff, allIn_iff]
    exact ⟨fun h p hp => h p ((hs p).2 hp), fun h p hp => h p ((hs p).1 hp)⟩
  have e2 : hullE l = hullE m := by
    unfold hullE
    rw [if_neg (show ¬ 160 < l.length by omega), if_neg (show ¬ 160 < m.length by omega), e1]
    cases hx : allIn m
    · rfl
    · rw [hull1_same (bd_of (e1.trans hx)) hs]
  refine ⟨e2, ?_⟩
  unfold hullV
  rw [e2]
  by_cases h : hullE m = 0
  · rw [if_pos h, if_pos h]
    exact hull1_same (bd_of (e1.trans (hullE_ok h).2.1)) hs
  · rw [if_neg h, if_neg h]
theorem law_double {a : List Pt} (hn : ∀ p ∈ a, In 1048576 p) : sumE a a = hullE a ∧ (hullE a = 0 → (sumV a a).length = (hullV a).length ∧ tw (sumV a a) = 4 * tw (hullV a)) := by
  by_cases h : hullE a = 0
  · obtain ⟨h1, h2, h3, H⟩ := hullE_ok h
    have e : sm a a = (hullV a).map dbl := by
      unfold sm
      refine hull1_of (sums_bd hullV_in hullV_in) ?_
      rw [h3]
      exact H.self.double
    have hlen := hullV_len (l := a)
    have hz : sumE a a = 0 := by
      refine sumE_of h h ?_ ?_
      · rw [e]
        refine allIn_iff.2 fun p hp => ?_
        obtain ⟨q, hq, rfl⟩ := List.mem_map.1 hp
        rw [h3] at hq
        have := hn q (hull1_mem (bd_of h2) hq)
        unfold In dbl at *
        simp only
        omega
      · rw [e, List.length_map]; omega
    refine ⟨by rw [hz, h], fun _ => ?_⟩
    rw [(sumE_ok hz).2.2.2.2.1, e, List.length_map]
    exact ⟨rfl, tw_double (by rw [h3]; have := H.len; omega)⟩
  · refine ⟨?_, fun h' => absurd h' h⟩
    unfold sumE
    rw [if_pos h]
theorem law_area {a b : List Pt} (h : sumE a b = 0) : tw (hullV a) + tw (hullV b) ≤ tw (sumV a b) := by
  obtain ⟨h1, h2, h3, _, h5, H⟩ := sumE_ok h
  obtain ⟨_, _, e1, K1⟩ := hullE_ok h1
  obtain ⟨_, _, e2, K2⟩ := hullE_ok h2
  rw [h5]
  refine tw_sum (bd_of hullV_in) (bd_of hullV_in) (sums_bd hullV_in hullV_in) ?_ ?_ H
  · rw [e1]; exact K1.self
  · rw [e2]; exact K2.self

/-! ## Inside -/
def leftOf (h : List Pt) (q : Pt) : Prop := ∀ i, i < h.length → 0 < crs (rd h i) (rd h (i + 1)) q
instance (h : List Pt) (q : Pt) : Decidable (leftOf h q) := by unfold leftOf; infer_instance
def insB (h : List Pt) (q : Pt) : Bool := decide (In 4194304 q) && decide (leftOf h q)
theorem leftOf_all {h : List Pt} (hp : 0 < h.length) {q : Pt} (hl : leftOf h q) (i : Nat) : 0 < crs (rd h i) (rd h (i + 1)) q := by
  have e1 := rd_mod h i 0
  have e2 := rd_mod h i 1
  rw [Nat.add_zero, Nat.add_zero] at e1
  rw [e1, e2]
  exact hl _ (Nat.mod_lt _ hp)
def betw (a b q : Pt) : Prop := crs a b q = 0 ∧ min a.x b.x ≤ q.x ∧ q.x ≤ max a.x b.x ∧ min a.y b.y ≤ q.y ∧ q.y ≤ max a.y b.y
instance (a b q : Pt) : Decidable (betw a b q) := by unfold betw; infer_instance
def onB (h : List Pt) (q : Pt) : Prop := ∃ i, i < h.length ∧ betw (rd h i) (rd h (i + 1)) q
theorem scale_between {n t w u : Int} (hn : 0 < n) (h0 : 0 ≤ t) (h1 : t ≤ n) (h : n * w = t * u) : (0 ≤ u → 0 ≤ w ∧ w ≤ u) ∧ (u ≤ 0 → u ≤ w ∧ w ≤ 0) := by
  constructor
  · intro hu
    have a := Int.mul_nonneg h0 hu
    have b := Int.mul_nonneg (show 0 ≤ n - t by omega) hu
    rw [Int.sub_mul] at b
    have c := pos_of_mul hn (show 0 ≤ n * w by omega)
    have d := pos_of_mul hn (show 0 ≤ n * (u - w) by rw [Int.mul_sub]; omega)
    omega
  · intro hu
    have a := Int.mul_nonneg h0 (show 0 ≤ -u by omega)
    have b := Int.mul_nonneg (show 0 ≤ n - t by omega) (show 0 ≤ -u by omega)
    rw [Int.sub_mul, Int.mul_neg, Int.mul_neg] at b
    rw [Int.mul_neg] at a
    have c := pos_of_mul hn (show 0 ≤ n * (-w) by rw [Int.mul_neg]; omega)
    have d := pos_of_mul hn (show 0 ≤ n * (w - u) by rw [Int.mul_sub]; omega)
    omega
theorem OnSide.betw {a b q : Pt} (h : OnSide a b q) (hz : crs a b q = 0) : betw a b q := by
  obtain ⟨x1, x2⟩ := scale_between h.pos h.lo h.hi h.x
  obtain ⟨y1, y2⟩ := scale_between h.pos h.lo h.hi h.y
  refine ⟨hz, ?_⟩
  rcases Int.le_total 0 (b.x - a.x) with c | c <;> rcases Int.le_total 0 (b.y - a.y) with c' | c'
  · have := x1 c; have := y1 c'; omega
  · have := x1 c; have := y2 c'; omega
  · have := x2 c; have := y1 c'; omega
  · have := x2 c; have := y2 c'; omega
/-- A point is inside exactly if it adds nothing to the hull and is on no side. -/
theorem law_interior {l : List Pt} {q : Pt} (hl : l.length ≤ 60) (hq : In 1048576 q) (h : hullE l = 0) :
    hullE (l ++ [q]) = 0 ∧ (leftOf (hullV l) q ↔ hullV (l ++ [q]) = hullV l ∧ ¬ onB (hullV l) q) := by
  obtain ⟨_, h2, h3, H⟩ := hullE_ok h
  have hin : allIn (l ++ [q]) = true := allIn_iff.2 fun p hp => by
    rcases List.mem_append.1 hp with hp | hp
    · exact allIn_iff.1 h2 p hp
    · simp at hp; rw [hp]; exact hq.more (by decide)
  have hc : ¬ Col (l ++ [q]) := fun hc => H.notCol fun x hx y hy z hz => hc x (List.mem_append_left _ hx) y (List.mem_append_left _ hy) z (List.mem_append_left _ hz)
  have H2 := hull1_ok (bd_of hin) hc
  have hz : hullE (l ++ [q]) = 0 := hullE_of (by simp; omega) hin (by intro e; have := H2.len; rw [e] at this; simp at this)
  refine ⟨hz, ?_⟩
  rw [(hullE_ok hz).2.2.1, h3]
  have hp : 0 < (hull1 l).length := by have := H.len; omega
  constructor
  · intro hlf
    have hall := leftOf_all hp hlf
    refine ⟨hull1_of (bd_of hin) ⟨H.len, fun i => List.mem_append_left _ (H.mem i), fun i p hp' => ?_, H.turn, fun p hp' => ?_, H.lt⟩, ?_⟩
    · rcases List.mem_append.1 hp' with hp' | hp'
      · exact H.left i p hp'
      · simp at hp'; rw [hp']; exact Int.le_of_lt (hall i)
    · rcases List.mem_append.1 hp' with hp' | hp'
      · exact H.low p hp'
      · simp at hp'
        rw [hp']
        obtain ⟨i, _, _, hb, _⟩ := H.best (ng M0)
        have k1 := hb q fun j => Int.le_of_lt (hall j)
        have k2 := H.low _ (H.mem i)
        rw [lv_ng, lv_ng] at k1
        omega
    · rintro ⟨i, _, hb⟩
      have := hall i
      rw [hb.1] at this
      omega
  · rintro ⟨e, hno⟩ i hi
    rw [e] at H2
    have k := fun j => H2.left j q (List.mem_append_right _ (by simp))
    by_cases c : crs (rd (hull1 l) i) (rd (hull1 l) (i + 1)) q = 0
    · exact absurd ⟨i, hi, (H.side k c).betw c⟩ hno
    · have := k i; omega
theorem law_interior_dot {l : List Pt} {q d : Pt} (hd : In 1000 d) (hd0 : d ≠ ⟨0, 0⟩) (h : hullE l = 0) (hlf : leftOf (hullV l) q) : lv d q < supF (dotL d) l := by
  obtain ⟨_, h2, h3, H⟩ := hullE_ok h
  rw [h3] at hlf
  have hp : 0 < (hull1 l).length := by have := H.len; omega
  rw [supF_congr (g := lv d) fun p hp => dotL_lv hd (allIn_iff.1 h2 p hp)]
  obtain ⟨i, _, _, _, hb⟩ := H.best d
  have k1 := hb q (leftOf_all hp hlf) (by
    by_cases hx : d.x = 0
    · right; intro hy; exact hd0 (Pt.same hx hy)
    · exact .inl hx)
  have k2 := (supF_max (lv d) (l := l) (by intro e; have := H.mem 0; rw [e] at this; cases this)).2 _ (H.mem i)
  omega
end Go.Proofs.Ytopmolpnmpchoaa
