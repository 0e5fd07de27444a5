/- Plain laws of convex hulls: the next vertex, one hull only, the best vertex. No program in sight. -/
import Derived.Test.YtopmolpnmpchoaaCvPlain5
namespace Go.Proofs.Ytopmolpnmpchoaa

def dist (a b : Pt) : Int := max (a.x - b.x) (b.x - a.x) + max (a.y - b.y) (b.y - a.y)
structure NextIs (l : List Pt) (a b : Pt) : Prop where
  mem : b ∈ l
  ne : b ≠ a
  left : ∀ q ∈ l, 0 ≤ crs a b q
  far : ∀ q ∈ l, crs a b q = 0 → q = b ∨ dist a q < dist a b
theorem NextIs.one {l l' : List Pt} {a b b' : Pt} (h : NextIs l a b) (h' : NextIs l' a b') (hs : ∀ q, q ∈ l ↔ q ∈ l') : b = b' := by
  have k1 := h.left b' ((hs b').2 h'.mem)
  have k2 := h'.left b ((hs b).1 h.mem)
  have e : crs a b' b = - crs a b b' := by unfold crs; grind
  have z1 : crs a b b' = 0 := by omega
  have z2 : crs a b' b = 0 := by omega
  rcases h.far b' ((hs b').2 h'.mem) z1 with k | k
  · exact k.symm
  · rcases h'.far b ((hs b).1 h.mem) z2 with k' | k'
    · exact k'
    · omega
theorem sq_pos {u : Pt} (h : u.x ≠ 0 ∨ u.y ≠ 0) : 0 < lv u u := by
  unfold lv
  have h1 : 0 ≤ u.x * u.x := by rcases Int.le_total 0 u.x with h | h; exact Int.mul_nonneg h h; exact Int.mul_nonneg_of_nonpos_of_nonpos h h
  have h2 : 0 ≤ u.y * u.y := by rcases Int.le_total 0 u.y with h | h; exact Int.mul_nonneg h h; exact Int.mul_nonneg_of_nonpos_of_nonpos h h
  rcases h with h | h
  · have : u.x * u.x ≠ 0 := Int.mul_ne_zero h h
    omega
  · have : u.y * u.y ≠ 0 := Int.mul_ne_zero h h
    omega
/-- A spot on the line of a side lies on the side. -/
structure OnSide (a b q : Pt) : Prop where
  x : lv (dv a b) (dv a b) * (q.x - a.x) = lv (dv a b) (dv a q) * (b.x - a.x)
  y : lv (dv a b) (dv a b) * (q.y - a.y) = lv (dv a b) (dv a q) * (b.y - a.y)
  lo : 0 ≤ lv (dv a b) (dv a q)
  hi : lv (dv a b) (dv a q) ≤ lv (dv a b) (dv a b)
  pos : 0 < lv (dv a b) (dv a b)
theorem onSide {p a b c q : Pt} (h1 : 0 < crs p a b) (h2 : 0 < crs a b c) (k1 : 0 ≤ crs p a q) (k2 : crs a b q = 0) (k3 : 0 ≤ crs b c q) : OnSide a b q := by
  have hp : 0 < lv (dv a b) (dv a b) := by
    apply sq_pos
    by_cases hx : (dv a b).x = 0
    · right
      intro hy
      unfold crs at h2
      unfold dv at hx hy
      simp only at hx hy
      rw [hx, hy] at h2
      simp at h2
    · exact .inl hx
  have ex : lv (dv a b) (dv a b) * (q.x - a.x) = lv (dv a b) (dv a q) * (b.x - a.x) - (b.y - a.y) * crs a b q := by unfold lv dv crs; grind
  have ey : lv (dv a b) (dv a b) * (q.y - a.y) = lv (dv a b) (dv a q) * (b.y - a.y) + (b.x - a.x) * crs a b q := by unfold lv dv crs; grind
  have e1 : lv (dv a b) (dv a b) * crs p a q = lv (dv a b) (dv a q) * crs p a b + lv (dv a b) (dv p a) * crs a b q := by unfold lv dv crs; grind
  have e2 : lv (dv a b) (dv a b) * crs b c q = (lv (dv a b) (dv a b) - lv (dv a b) (dv a q)) * crs a b c + lv (dv a b) (dv b c) * crs a b q := by unfold lv dv crs; grind
  rw [k2, Int.mul_zero] at ex ey e1 e2
  have f1 := Int.mul_nonneg (Int.le_of_lt hp) k1
  have f2 := Int.mul_nonneg (Int.le_of_lt hp) k3
  rw [e1, Int.add_zero, Int.mul_comm] at f1
  rw [e2, Int.add_zero, Int.mul_comm] at f2
  have g1 := pos_of_mul h1 f1
  have g2 := pos_of_mul h2 f2
  exact ⟨by omega, by omega, g1, by omega, hp⟩
theorem max_scale {n t w u : Int} (hn : 0 < n) (ht : 0 ≤ t) (h : n * w = t * u) : n * max (-w) w = t * max (-u) u := by
  have h' : n * (-w) = t * (-u) := by rw [Int.mul_neg, Int.mul_neg, h]
  by_cases h0 : t = 0
  · subst h0
    have : w = 0 := by
      rw [Int.zero_mul] at h
      rcases Int.mul_eq_zero.1 h with h | h
      · omega
      · exact h
    subst this
    simp
  · rcases Int.le_total 0 u with hu | hu
    · have : 0 ≤ w := pos_of_mul hn (by rw [h]; exact Int.mul_nonneg ht hu)
      rw [Int.max_eq_right (by omega), Int.max_eq_right (by omega), h]
    · have : 0 ≤ -w := pos_of_mul hn (by rw [h']; exact Int.mul_nonneg ht (by omega))
      rw [Int.max_eq_left (by omega), Int.max_eq_left (by omega), h']
theorem dist_dv (a b : Pt) : dist a b = max (-(b.x - a.x)) (b.x - a.x) + max (-(b.y - a.y)) (b.y - a.y) := by
  unfold dist
  rw [show a.x - b.x = -(b.x - a.x) by omega, show a.y - b.y = -(b.y - a.y) by omega]
theorem dist_pos {a b : Pt} (h : b ≠ a) : 0 < dist a b := by
  unfold dist
  by_cases hx : b.x = a.x
  · by_cases hy : b.y = a.y
    · exact absurd (Pt.same hx hy) h
    · omega
  · omega
theorem OnSide.far {a b q : Pt} (h : OnSide a b q) (hne : b ≠ a) : q = b ∨ dist a q < dist a b := by
  have hd : lv (dv a b) (dv a b) * dist a q = lv (dv a b) (dv a q) * dist a b := by
    rw [dist_dv, dist_dv, Int.mul_add, Int.mul_add, max_scale h.pos h.lo h.x, max_scale h.pos h.lo h.y]
  have hp := h.pos
  by_cases e : lv (dv a b) (dv a q) = lv (dv a b) (dv a b)
  · left
    have hx := h.x
    have hy := h.y
    rw [e] at hx hy
    have x1 := Int.eq_of_mul_eq_mul_left (by omega) hx
    have y1 := Int.eq_of_mul_eq_mul_left (by omega) hy
    exact Pt.same (by omega) (by omega)
  · right
    have h1 := h.hi
    have h2 := Int.mul_lt_mul_of_pos_right (show lv (dv a b) (dv a q) < lv (dv a b) (dv a b) by omega) (dist_pos hne)
    rw [← hd] at h2
    exact Int.lt_of_mul_lt_mul_left h2 (Int.le_of_lt hp)
theorem rd_zero_of (h : List Pt) (i : Nat) : rd h (i + h.length) = rd h i := by
  unfold rd; rw [Nat.add_mod_right]
theorem IsHull.before {M : Pt} {l h : List Pt} (H : IsHull M l h) (i : Nat) : ∃ j, rd h (j + 1) = rd h i ∧ rd h (j + 2) = rd h (i + 1) := by
  have := H.len
  refine ⟨i + (h.length - 1), ?_, ?_⟩
  · rw [show i + (h.length - 1) + 1 = i + h.length by omega, rd_zero_of]
  · rw [show i + (h.length - 1) + 2 = (i + 1) + h.length by omega, rd_zero_of]
theorem IsHull.ne {M : Pt} {l h : List Pt} (H : IsHull M l h) (i : Nat) : rd h (i + 1) ≠ rd h i := by
  intro e
  have := H.turn i
  rw [e] at this
  have e2 : crs (rd h i) (rd h i) (rd h (i + 2)) = 0 := by unfold crs; grind
  omega
theorem IsHull.side {M : Pt} {l h : List Pt} (H : IsHull M l h) {q : Pt} (hq : ∀ i, 0 ≤ crs (rd h i) (rd h (i + 1)) q) {i : Nat} (hz : crs (rd h i) (rd h (i + 1)) q = 0) : OnSide (rd h i) (rd h (i + 1)) q := by
  obtain ⟨j, e1, e2⟩ := H.before i
  have t1 := H.turn j
  have t2 := H.turn i
  have k1 := hq j
  have k3 := hq (i + 1)
  rw [e1, e2] at t1
  rw [e1] at k1
  exact onSide t1 t2 k1 hz k3
theorem IsHull.next {M : Pt} {l h : List Pt} (H : IsHull M l h) (i : Nat) : NextIs l (rd h i) (rd h (i + 1)) :=
  ⟨H.mem _, H.ne i, H.left i, fun q hq hz => (H.side (fun j => H.left j q hq) hz).far (H.ne i)⟩
end Go.Proofs.Ytopmolpnmpchoaa
