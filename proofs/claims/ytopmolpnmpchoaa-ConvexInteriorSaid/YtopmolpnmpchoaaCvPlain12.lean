/- Plain laws of convex hulls: areas of hulls and of their sums. No program in sight. -/
import Derived.Test.YtopmolpnmpchoaaCvPlain11
namespace Go.Proofs.Ytopmolpnmpchoaa

def sumTo (f : Nat → Int) : Nat → Int
  | 0 => 0
  | n + 1 => sumTo f n + f n
def tw (h : List Pt) : Int := sumTo (fun i => cv (rd h i) (rd h (i + 1))) h.length
theorem sumTo_congr {f g : Nat → Int} : ∀ {n : Nat}, (∀ i, i < n → f i = g i) → sumTo f n = sumTo g n
  | 0, _ => rfl
  | n + 1, h => by
    unfold sumTo
    rw [sumTo_congr (n := n) fun i hi => h i (by omega), h n (by omega)]
theorem sumTo_add (f : Nat → Int) (m : Nat) : ∀ n, sumTo f (m + n) = sumTo f m + sumTo (fun i => f (m + i)) n
  | 0 => by simp [sumTo]
  | n + 1 => by
    show sumTo f (m + n) + f (m + n) = _
    rw [sumTo_add f m n]
    show _ = sumTo f m + (sumTo (fun i => f (m + i)) n + f (m + n))
    omega
theorem sumTo_first (f : Nat → Int) (n : Nat) : sumTo f (n + 1) = f 0 + sumTo (fun i => f (i + 1)) n := by
  rw [Nat.add_comm n 1, sumTo_add f 1 n]
  have : sumTo f 1 = f 0 := by simp [sumTo]
  rw [this]
  congr 1
  exact sumTo_congr fun i _ => by rw [Nat.add_comm]
theorem sumTo_rev (f : Nat → Int) : ∀ n, sumTo f n = sumTo (fun i => f (n - 1 - i)) n
  | 0 => rfl
  | n + 1 => by
    rw [sumTo_first (fun i => f (n + 1 - 1 - i)) n]
    show sumTo f n + f n = _
    rw [sumTo_rev f n]
    simp only [Nat.add_sub_cancel, Nat.sub_zero]
    rw [Int.add_comm]
    congr 1
    exact sumTo_congr fun i hi => by congr 1; omega
theorem sumTo_mul (c : Int) (f : Nat → Int) : ∀ n, sumTo (fun i => c * f i) n = c * sumTo f n
  | 0 => by simp [sumTo]
  | n + 1 => by unfold sumTo; rw [sumTo_mul c f n, Int.mul_add]
theorem G_sum : ∀ s : List Pt, G s = sumTo (fun j => cv (gt s (j + 1)) (gt s j)) (s.length - 1)
  | [] => rfl
  | [_] => rfl
  | b :: a :: r => by
    have h := G_sum (a :: r)
    simp only [G, h]
    simp only [List.length_cons, Nat.add_sub_cancel]
    rw [sumTo_first]
    rfl
theorem Halves.tw {M : Pt} {l Lo U : List Pt} {s g : Pt} (H : Halves M l Lo U s g) : tw (Lo.tail.reverse ++ U.tail.reverse) = G Lo + G U := by
  have h1 := H.lo2
  have h2 := H.up2
  unfold Go.Proofs.Ytopmolpnmpchoaa.tw
  rw [H.len, sumTo_add, G_sum Lo, G_sum U]
  congr 1
  · rw [sumTo_rev]
    refine sumTo_congr fun i hi => ?_
    rw [H.rdA (by omega), H.rdA (by omega)]
    congr 2 <;> omega
  · rw [sumTo_rev]
    refine sumTo_congr fun i hi => ?_
    rw [H.rdB (by omega) (by omega), H.rdB (by omega) (by omega)]
    congr 2 <;> omega

/-! ## Moved spots -/
def addP (p t : Pt) : Pt := ⟨p.x + t.x, p.y + t.y⟩
theorem addP_comm (p t : Pt) : addP p t = addP t p := by unfold addP; rw [Int.add_comm p.x, Int.add_comm p.y]
theorem lv_addP (M p t : Pt) : lv M (addP p t) = lv M p + lv M t := by unfold lv addP; grind
def moved (t : Pt) (l : List Pt) : List Pt := l.map fun p => addP p t
def sumsP (h k : List Pt) : List Pt := h.flatMap fun p => moved p k
theorem mem_sumsP {h k : List Pt} {q : Pt} : q ∈ sumsP h k ↔ ∃ a ∈ h, ∃ b ∈ k, q = addP b a := by
  unfold sumsP moved
  simp only [List.mem_flatMap, List.mem_map]
  constructor
  · rintro ⟨a, ha, b, hb, rfl⟩; exact ⟨a, ha, b, hb, rfl⟩
  · rintro ⟨a, ha, b, hb, rfl⟩; exact ⟨a, ha, b, hb, rfl⟩
theorem sumsP_comm (h k : List Pt) (q : Pt) : q ∈ sumsP h k ↔ q ∈ sumsP k h := by
  rw [mem_sumsP, mem_sumsP]
  constructor
  · rintro ⟨a, ha, b, hb, rfl⟩; exact ⟨b, hb, a, ha, addP_comm _ _⟩
  · rintro ⟨a, ha, b, hb, rfl⟩; exact ⟨b, hb, a, ha, addP_comm _ _⟩
theorem moved_head {t : Pt} {l : List Pt} {g : Pt} (h : l.head? = some g) : (moved t l).head? = some (addP g t) := by unfold moved; rw [List.head?_map, h]; rfl
theorem moved_last {t : Pt} {l : List Pt} {g : Pt} (h : l.getLast? = some g) : (moved t l).getLast? = some (addP g t) := by unfold moved; rw [List.getLast?_map, h]; rfl
theorem moved_edges {M t : Pt} : ∀ {l : List Pt}, Edges (fun a b => lv M a < lv M b) l → Edges (fun a b => lv M a ≤ lv M b) (moved t l)
  | [], _ => trivial
  | [_], _ => trivial
  | b :: a :: r, h => ⟨by show lv M (addP a t) ≤ lv M (addP b t); rw [lv_addP, lv_addP]; have := h.1; omega, moved_edges (l := a :: r) h.2⟩
theorem G_moved (t : Pt) : ∀ {l : List Pt} {g a : Pt}, l.head? = some g → l.getLast? = some a → G (moved t l) = G l + cv t (dv a g)
  | [], _, _, h, _ => by cases h
  | [x], g, a, h1, h2 => by
    simp at h1 h2
    subst h1; subst h2
    have : cv t (dv x x) = 0 := by unfold cv dv; grind
    simp [moved, G, this]
  | b :: c :: r, g, a, h1, h2 => by
    simp at h1
    subst h1
    rw [List.getLast?_cons_cons] at h2
    have ih := G_moved t (l := c :: r) (g := c) (a := a) rfl h2
    simp only [moved, List.map_cons, G] at ih ⊢
    rw [ih]
    have e1 : cv (addP c t) (addP b t) = cv c b + cv t (dv c b) := by unfold cv addP dv; grind
    have e2 : cv t (dv a b) = cv t (dv a c) + cv t (dv c b) := cv_add t a c b
    omega
theorem Edges.join {P : Pt → Pt → Prop} {x : Pt} {B : List Pt} : ∀ {A : List Pt}, A.getLast? = some x → Edges P A → Edges P (x :: B) → Edges P (A ++ B)
  | [], h, _, _ => by cases h
  | [a], h, _, hb => by simp at h; subst h; exact hb
  | b :: a :: r, h, he, hb => ⟨he.1, Edges.join (A := a :: r) (by rw [List.getLast?_cons_cons] at h; exact h) he.2 hb⟩
theorem G_join {x : Pt} {A B : List Pt} (h : A.getLast? = some x) : G (A ++ B) = G A + G (x :: B) := by
  rcases snoc_or A with e | ⟨A', y, e⟩
  · subst e; cases h
  · subst e
    simp at h
    subst h
    rw [List.append_assoc]
    exact G_app y B A'
/-- Two paths, moved so that the one ends where the other begins, as one. -/
theorem joined {M : Pt} {L1 L2 : List Pt} {t1 t2 g1 a1 b2 s2 : Pt} (h1 : L1.head? = some g1) (h2 : L1.getLast? = some a1) (h3 : L2.head? = some b2) (h4 : L2.getLast? = some s2) (h5 : 2 ≤ L2.length)
    (e : addP a1 t1 = addP b2 t2) (k1 : Edges (fun a b => lv M a < lv M b) L1) (k2 : Edges (fun a b => lv M a < lv M b) L2) :
    ∃ P, P.head? = some (addP g1 t1) ∧ P.getLast? = some (addP s2 t2) ∧ Edges (fun a b => lv M a ≤ lv M b) P ∧ (∀ q ∈ P, (∃ p ∈ L1, q = addP p t1) ∨ ∃ p ∈ L2, q = addP p t2) ∧ G P = G (moved t1 L1) + G (moved t2 L2) := by
  match L2, h3, h4, h5, k2 with
  | b :: c :: r, h3, h4, _, k2 =>
    simp at h3
    subst h3
    have hl := moved_last (t := t1) h2
    have hh := moved_head (t := t1) h1
    rw [e] at hl
    have ht : moved t2 (b :: c :: r) = addP b t2 :: moved t2 (c :: r) := rfl
    refine ⟨moved t1 L1 ++ moved t2 (c :: r), ?_, ?_, ?_, fun q hq => ?_, ?_⟩
    · rw [List.head?_append, hh]; rfl
    · rw [List.getLast?_cons_cons] at h4
      rw [List.getLast?_append, moved_last h4]; rfl
    · exact Edges.join hl (moved_edges k1) (by rw [← ht]; exact moved_edges k2)
    · rcases List.mem_append.1 hq with hq | hq
      · obtain ⟨p, hp, rfl⟩ := List.mem_map.1 hq
        exact .inl ⟨p, hp, rfl⟩
      · obtain ⟨p, hp, rfl⟩ := List.mem_map.1 hq
        exact .inr ⟨p, List.mem_cons_of_mem _ hp, rfl⟩
    · rw [G_join hl, ← ht]
theorem gt_head' {s : List Pt} (h : 2 ≤ s.length) : s.head? = some (gt s 0) := by
  cases s with
  | nil => simp at h
  | cons a r => rfl
theorem gt_last' {s : List Pt} (h : 2 ≤ s.length) : s.getLast? = some (gt s (s.length - 1)) := by
  rw [List.getLast?_eq_getElem?]
  unfold gt
  rw [List.getD_eq_getElem?_getD, List.getElem?_eq_getElem (by omega)]
  rfl
theorem Halves.high {M : Pt} {l Lo U : List Pt} {s g : Pt} (H : Halves M l Lo U s g) : ∀ q ∈ l, lv M q ≤ lv M g := by
  intro q hq
  have := H.up.low g (by rw [gt_last' H.up2, H.upg]) q hq
  rw [lv_ng, lv_ng] at this
  omega
theorem Halves.smem {M : Pt} {l Lo U : List Pt} {s g : Pt} (H : Halves M l Lo U s g) : s ∈ l := by
  rw [← H.los]; exact H.lo.mem _ (gt_mem (by have := H.lo2; omega))
theorem Halves.gmem {M : Pt} {l Lo U : List Pt} {s g : Pt} (H : Halves M l Lo U s g) : g ∈ l := by
  rw [← H.log]; exact H.lo.mem _ (gt_mem (by have := H.lo2; omega))
/-- A hull as two halves. -/
theorem IsHull.halves {l h : List Pt} (hb : Bd l) (H : IsHull M0 l h) : ∃ S Lo U s g, (∀ q, q ∈ S ↔ q ∈ l) ∧ Halves M0 S Lo U s g ∧ tw h = G Lo + G U := by
  obtain ⟨S, hS, hm⟩ := asc_exists (M := M0) hb.inj
  have hcS : ¬ Col S := fun hc => H.notCol (hc.same hm)
  have hl : 2 ≤ S.length := by
    by_cases h : 2 ≤ S.length
    · exact h
    · exact absurd (col_few (by omega)) hcS
  obtain ⟨s, g, K⟩ := Go.Proofs.Ytopmolpnmpchoaa.halves hS hl
  have K2 := (K.hull hcS).same hm
  have e : h = (chain S).tail.reverse ++ (chain S.reverse).tail.reverse := Round.same H.round K2.round (fun _ => Iff.rfl) hb.inj
  refine ⟨S, _, _, s, g, hm, K, ?_⟩
  rw [e]
  exact K.tw
/-- A sum has at least the area of both. -/
theorem tw_sum {h k s : List Pt} (bh : Bd h) (bk : Bd k) (bs : Bd (sumsP h k)) (Hh : IsHull M0 h h) (Hk : IsHull M0 k k) (Hs : IsHull M0 (sumsP h k) s) : tw h + tw k ≤ tw s := by
  obtain ⟨Sh, Lh, Uh, sh, gh, mh, Kh, eh⟩ := Hh.halves bh
  obtain ⟨Sk, Lk, Uk, sk, gk, mk, Kk, ek⟩ := Hk.halves bk
  obtain ⟨Ss, Ls, Us, ss, gs, ms, Ks, es⟩ := Hs.halves bs
  have inS : ∀ a ∈ Sh, ∀ b ∈ Sk, addP a b ∈ Ss := fun a ha b hb => (ms _).2 (mem_sumsP.2 ⟨a, (mh a).1 ha, b, (mk b).1 hb, addP_comm a b⟩)
  have ofS : ∀ q ∈ Ss, ∃ a ∈ Sh, ∃ b ∈ Sk, q = addP b a := fun q hq => by
    obtain ⟨a, ha, b, hb, e⟩ := mem_sumsP.1 ((ms q).1 hq)
    exact ⟨a, (mh a).2 ha, b, (mk b).2 hb, e⟩
  have eg : gs = addP gh gk := by
    obtain ⟨a, ha, b, hb, e⟩ := ofS gs Ks.gmem
    have k1 := Ks.high _ (inS gh Kh.gmem gk Kk.gmem)
    have k2 := Kh.high a ha
    have k3 := Kk.high b hb
    rw [e] at k1
    refine Ks.inj _ Ks.gmem _ (inS gh Kh.gmem gk Kk.gmem) ?_
    rw [e]
    rw [lv_addP, lv_addP] at *
    omega
  have el : ss = addP sh sk := by
    obtain ⟨a, ha, b, hb, e⟩ := ofS ss Ks.smem
    have k1 := Ks.lows _ (inS sh Kh.smem sk Kk.smem)
    have k2 := Kh.lows a ha
    have k3 := Kk.lows b hb
    rw [e] at k1
    refine Ks.inj _ Ks.smem _ (inS sh Kh.smem sk Kk.smem) ?_
    rw [e]
    rw [lv_addP, lv_addP] at *
    omega
  have f1 : Lh.head? = some gh := by rw [gt_head' Kh.lo2, Kh.log]
  have f2 : Lh.getLast? = some sh := by rw [gt_last' Kh.lo2, Kh.los]
  have f3 : Uh.head? = some sh := by rw [gt_head' Kh.up2, Kh.ups]
  have f4 : Uh.getLast? = some gh := by rw [gt_last' Kh.up2, Kh.upg]
  have j1 : Lk.head? = some gk := by rw [gt_head' Kk.lo2, Kk.log]
  have j2 : Lk.getLast? = some sk := by rw [gt_last' Kk.lo2, Kk.los]
  have j3 : Uk.head? = some sk := by rw [gt_head' Kk.up2, Kk.ups]
  have j4 : Uk.getLast? = some gk := by rw [gt_last' Kk.up2, Kk.upg]
  have i1 : Ls.head? = some gs := by rw [gt_head' Ks.lo2, Ks.log]
  have i2 : Ls.getLast? = some ss := by rw [gt_last' Ks.lo2, Ks.los]
  have i3 : Us.head? = some ss := by rw [gt_head' Ks.up2, Ks.ups]
  have i4 : Us.getLast? = some gs := by rw [gt_last' Ks.up2, Ks.upg]
  obtain ⟨P, p1, p2, p3, p4, p5⟩ := joined (M := M0) (t1 := gh) (t2 := sk) j1 j2 f1 f2 Kh.lo2 (addP_comm _ _) Kk.lo.asc Kh.lo.asc
  obtain ⟨Q, q1, q2, q3, q4, q5⟩ := joined (M := ng M0) (t1 := sk) (t2 := gh) f3 f4 j3 j4 Kk.up2 (addP_comm _ _) Kh.up.asc Kk.up.asc
  have hP : G P ≤ G Ls := G_le (M := M0) (seen := Ss) Ks.inj Ks.lo.asc Ks.lo.left Ks.lo.mem i1 i2 (by rw [p1, eg, addP_comm]) (by rw [p2, el]) p3 (fun q hq => by
    rcases p4 q hq with ⟨p, hp, rfl⟩ | ⟨p, hp, rfl⟩
    · rw [addP_comm]; exact inS gh Kh.gmem p (Kk.lo.mem p hp)
    · exact inS p (Kh.lo.mem p hp) sk Kk.smem)
  have hQ : G Q ≤ G Us := G_le (M := ng M0) (seen := Ss) (fun q hq q' hq' e => Ks.inj q hq q' hq' (by rw [lv_ng, lv_ng] at e; omega)) Ks.up.asc Ks.up.left Ks.up.mem i3 i4 (by rw [q1, el]) (by rw [q2, eg, addP_comm]) q3 (fun q hq => by
    rcases q4 q hq with ⟨p, hp, rfl⟩ | ⟨p, hp, rfl⟩
    · exact inS p (Kh.up.mem p hp) sk Kk.smem
    · rw [addP_comm]; exact inS gh Kh.gmem p (Kk.up.mem p hp))
  have m1 := G_moved gh j1 j2
  have m2 := G_moved sk f1 f2
  have m3 := G_moved sk f3 f4
  have m4 := G_moved gh j3 j4
  have c1 : cv gh (dv sk gk) + cv gh (dv gk sk) = 0 := by unfold cv dv; grind
  have c2 : cv sk (dv sh gh) + cv sk (dv gh sh) = 0 := by unfold cv dv; grind
  omega

/-! ## A list twice -/
def dbl (p : Pt) : Pt := ⟨2 * p.x, 2 * p.y⟩
theorem rd_map (f : Pt → Pt) {h : List Pt} (hp : 0 < h.length) (i : Nat) : rd (h.map f) i = f (rd h i) := by
  unfold rd gt
  rw [List.length_map, List.getD_eq_getElem?_getD, List.getD_eq_getElem?_getD, List.getElem?_map, List.getElem?_eq_getElem (Nat.mod_lt _ hp)]
  rfl
theorem IsHull.self {M : Pt} {l h : List Pt} (H : IsHull M l h) : IsHull M h h := by
  have hp : 0 < h.length := by have := H.len; omega
  have hs : ∀ q ∈ h, q ∈ l := by
    intro q hq
    obtain ⟨i, hi, rfl⟩ := List.getElem_of_mem hq
    rw [← rd_get hi]
    exact H.mem i
  exact ⟨H.len, fun i => gt_mem (Nat.mod_lt _ hp), fun i q hq => H.left i q (hs q hq), H.turn, fun q hq => H.low q (hs q hq), H.lt⟩
theorem IsHull.double {M : Pt} {h : List Pt} (H : IsHull M h h) : IsHull M (sumsP h h) (h.map dbl) := by
  have hp : 0 < h.length := by have := H.len; omega
  have el : ∀ p, lv M (dbl p) = 2 * lv M p := fun p => by unfold lv dbl; grind
  refine ⟨by rw [List.length_map]; exact H.len, fun i => ?_, fun i q hq => ?_, fun i => ?_, fun q hq => ?_, fun i h0 hi => ?_⟩
  · rw [rd_map _ hp]
    refine mem_sumsP.2 ⟨_, H.mem i, _, H.mem i, ?_⟩
    unfold dbl addP
    congr 1 <;> omega
  · obtain ⟨a, ha, b, hb, rfl⟩ := mem_sumsP.1 hq
    rw [rd_map _ hp, rd_map _ hp]
    have e : crs (dbl (rd h i)) (dbl (rd h (i + 1))) (addP b a) = 2 * (crs (rd h i) (rd h (i + 1)) a + crs (rd h i) (rd h (i + 1)) b) := by unfold crs dbl addP; grind
    rw [e]
    have := H.left i a ha
    have := H.left i b hb
    omega
  · rw [rd_map _ hp, rd_map _ hp, rd_map _ hp]
    have e : crs (dbl (rd h i)) (dbl (rd h (i + 1))) (dbl (rd h (i + 2))) = 4 * crs (rd h i) (rd h (i + 1)) (rd h (i + 2)) := by unfold crs dbl; grind
    rw [e]
    have := H.turn i
    omega
  · obtain ⟨a, ha, b, hb, rfl⟩ := mem_sumsP.1 hq
    rw [rd_map _ hp, el, lv_addP]
    have := H.low a ha
    have := H.low b hb
    omega
  · rw [List.length_map] at hi
    rw [rd_map _ hp, rd_map _ hp, el, el]
    have := H.lt i h0 hi
    omega
theorem tw_double {h : List Pt} (hp : 0 < h.length) : tw (h.map dbl) = 4 * tw h := by
  unfold tw
  rw [List.length_map, ← sumTo_mul]
  refine sumTo_congr fun i _ => ?_
  rw [rd_map _ hp, rd_map _ hp]
  unfold cv dbl
  grind
theorem sums_notCol {h k : List Pt} {M : Pt} (H : IsHull M h h) (hk : k ≠ []) : ¬ Col (sumsP h k) := by
  intro hc
  cases k with
  | nil => exact hk rfl
  | cons b r =>
    have hm : ∀ i, addP b (rd h i) ∈ sumsP h (b :: r) := fun i => mem_sumsP.2 ⟨_, H.mem i, b, by simp, rfl⟩
    have := hc _ (hm 0) _ (hm 1) _ (hm 2)
    have e : crs (addP b (rd h 0)) (addP b (rd h 1)) (addP b (rd h 2)) = crs (rd h 0) (rd h 1) (rd h 2) := by unfold crs addP; grind
    have t := H.turn 0
    simp only [Nat.zero_add] at t
    omega
end Go.Proofs.Ytopmolpnmpchoaa
