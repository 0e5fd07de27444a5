/- Plain laws of convex hulls: one hull only; the best vertex. No program in sight. -/
import Derived.Test.YtopmolpnmpchoaaCvPlain6
namespace Go.Proofs.Ytopmolpnmpchoaa

/-- A round of next vertices from the least spot. -/
structure Round (M : Pt) (l h : List Pt) : Prop where
  pos : 0 < h.length
  mem : ∀ i, rd h i ∈ l
  next : ∀ i, NextIs l (rd h i) (rd h (i + 1))
  low : ∀ q ∈ l, lv M (rd h 0) ≤ lv M q
  lt : ∀ i, 0 < i → i < h.length → lv M (rd h 0) < lv M (rd h i)
theorem IsHull.round {M : Pt} {l h : List Pt} (H : IsHull M l h) : Round M l h :=
  ⟨by have := H.len; omega, H.mem, H.next, H.low, H.lt⟩
theorem Round.same {M : Pt} {l l' h h' : List Pt} (H : Round M l h) (H' : Round M l' h') (hs : ∀ q, q ∈ l ↔ q ∈ l') (hinj : ∀ q ∈ l, ∀ q' ∈ l, lv M q = lv M q' → q = q') : h = h' := by
  have e0 : rd h 0 = rd h' 0 := by
    have k1 := H.low _ ((hs _).2 (H'.mem 0))
    have k2 := H'.low _ ((hs _).1 (H.mem 0))
    exact hinj _ (H.mem 0) _ ((hs _).2 (H'.mem 0)) (by omega)
  have e : ∀ i, rd h i = rd h' i := by
    intro i
    induction i with
    | zero => exact e0
    | succ i ih =>
      have k := H.next i
      rw [ih] at k
      exact k.one (H'.next i) hs
  have hp := H.pos
  have hp' := H'.pos
  have wrap : ∀ (g : List Pt), rd g g.length = rd g 0 := fun g => by unfold rd; rw [Nat.mod_self, Nat.zero_mod]
  have hlen : h.length = h'.length := by
    rcases Nat.lt_trichotomy h.length h'.length with c | c | c
    · exfalso
      have := H'.lt h.length hp c
      rw [← e, ← e, wrap] at this
      omega
    · exact c
    · exfalso
      have := H.lt h'.length hp' c
      rw [e, e, wrap] at this
      omega
  refine List.ext_getElem hlen fun i h1 h2 => ?_
  have := e i
  unfold rd gt at this
  rw [Nat.mod_eq_of_lt h1, Nat.mod_eq_of_lt h2, List.getD_eq_getElem?_getD, List.getD_eq_getElem?_getD, List.getElem?_eq_getElem h1, List.getElem?_eq_getElem h2] at this
  exact this
theorem cone_eq (d p a b q : Pt) : crs p a b * (lv d a - lv d q) = crs p a q * (lv d a - lv d b) + crs a b q * (lv d a - lv d p) := by unfold lv crs; grind
theorem cone {d p a b q : Pt} (t : 0 < crs p a b) (k1 : 0 ≤ crs p a q) (k2 : 0 ≤ crs a b q) (hp : lv d p ≤ lv d a) (hb : lv d b ≤ lv d a) : lv d q ≤ lv d a := by
  have e := cone_eq d p a b q
  have f1 := Int.mul_nonneg k1 (show 0 ≤ lv d a - lv d b by omega)
  have f2 := Int.mul_nonneg k2 (show 0 ≤ lv d a - lv d p by omega)
  have := pos_of_mul t (show 0 ≤ crs p a b * (lv d a - lv d q) by omega)
  omega
theorem cone_lt {d p a b q : Pt} (t : 0 < crs p a b) (k1 : 0 < crs p a q) (k2 : 0 < crs a b q) (hp : lv d p ≤ lv d a) (hb : lv d b ≤ lv d a) (hd : d.x ≠ 0 ∨ d.y ≠ 0) : lv d q < lv d a := by
  have h1 := cone t (Int.le_of_lt k1) (Int.le_of_lt k2) hp hb
  by_cases he : lv d q = lv d a
  · exfalso
    have e := cone_eq d p a b q
    rw [he, Int.sub_self, Int.mul_zero] at e
    have f1 := Int.mul_nonneg (Int.le_of_lt k1) (show 0 ≤ lv d a - lv d b by omega)
    have f2 := Int.mul_nonneg (Int.le_of_lt k2) (show 0 ≤ lv d a - lv d p by omega)
    have g1 : crs p a q * (lv d a - lv d b) = 0 := by omega
    have g2 : crs a b q * (lv d a - lv d p) = 0 := by omega
    have i1 : lv d a - lv d b = 0 := by rcases Int.mul_eq_zero.1 g1 with g | g; omega; exact g
    have i2 : lv d a - lv d p = 0 := by rcases Int.mul_eq_zero.1 g2 with g | g; omega; exact g
    have ex : d.x * crs p a b = (lv d a - lv d p) * (b.y - a.y) - (lv d b - lv d a) * (a.y - p.y) := by unfold lv crs; grind
    have ey : d.y * crs p a b = (lv d b - lv d a) * (a.x - p.x) - (lv d a - lv d p) * (b.x - a.x) := by unfold lv crs; grind
    rw [show lv d b - lv d a = 0 by omega, i2] at ex ey
    rw [Int.zero_mul, Int.zero_mul, Int.sub_zero] at ex ey
    rcases Int.mul_eq_zero.1 ex with g | g <;> rcases Int.mul_eq_zero.1 ey with g' | g' <;> omega
  · omega
theorem best_to (f : Nat → Int) : ∀ n, ∃ i, i ≤ n ∧ ∀ j, j ≤ n → f j ≤ f i := by
  intro n
  induction n with
  | zero => exact ⟨0, Nat.le_refl _, fun j hj => by rw [Nat.le_zero.1 hj]; exact Int.le_refl _⟩
  | succ n ih =>
    obtain ⟨i, hi, h⟩ := ih
    by_cases c : f i ≤ f (n + 1)
    · refine ⟨n + 1, Nat.le_refl _, fun j hj => ?_⟩
      by_cases e : j = n + 1
      · rw [e]; exact Int.le_refl _
      · exact Int.le_trans (h j (by omega)) c
    · refine ⟨i, by omega, fun j hj => ?_⟩
      by_cases e : j = n + 1
      · rw [e]; omega
      · exact h j (by omega)
theorem best_rd (d : Pt) (h : List Pt) (hp : 0 < h.length) : ∃ i, i < h.length ∧ ∀ j, lv d (rd h j) ≤ lv d (rd h i) := by
  obtain ⟨i, hi, hb⟩ := best_to (fun j => lv d (rd h j)) (h.length - 1)
  refine ⟨i, by omega, fun j => ?_⟩
  have e := rd_mod h j 0
  rw [Nat.add_zero, Nat.add_zero] at e
  rw [e]
  exact hb _ (by have := Nat.mod_lt j hp; omega)
theorem IsHull.best {M : Pt} {l h : List Pt} (H : IsHull M l h) (d : Pt) : ∃ i, i < h.length ∧ (∀ j, lv d (rd h j) ≤ lv d (rd h i)) ∧
    (∀ q, (∀ j, 0 ≤ crs (rd h j) (rd h (j + 1)) q) → lv d q ≤ lv d (rd h i)) ∧
    (∀ q, (∀ j, 0 < crs (rd h j) (rd h (j + 1)) q) → (d.x ≠ 0 ∨ d.y ≠ 0) → lv d q < lv d (rd h i)) := by
  obtain ⟨i, hi, hb⟩ := best_rd d h (by have := H.len; omega)
  obtain ⟨j, e1, e2⟩ := H.before i
  have t := H.turn j
  rw [e1, e2] at t
  refine ⟨i, hi, hb, fun q hq => ?_, fun q hq hd => ?_⟩
  · have k := hq j
    rw [e1] at k
    exact cone t k (hq i) (hb j) (hb (i + 1))
  · have k := hq j
    rw [e1] at k
    exact cone_lt t k (hq i) (hb j) (hb (i + 1)) hd
end Go.Proofs.Ytopmolpnmpchoaa
