/- Plain laws of convex hulls: the area under a chain. No program in sight. -/
import Derived.Test.YtopmolpnmpchoaaCvPlain10
namespace Go.Proofs.Ytopmolpnmpchoaa

/-! ## Sums of cross products along a path, its latest spot first -/
def G : List Pt → Int
  | b :: a :: r => cv a b + G (a :: r)
  | _ => 0
theorem G_app (x : Pt) (B : List Pt) : ∀ A : List Pt, G (A ++ x :: B) = G (A ++ [x]) + G (x :: B)
  | [] => by simp [G]
  | [a] => by simp [G]
  | a :: b :: r => by
    have h := G_app x B (b :: r)
    simp only [List.cons_append, G] at h ⊢
    rw [h]; omega
theorem asc_le {M : Pt} : ∀ {P : List Pt} {g : Pt}, P.head? = some g → Edges (fun a b => lv M a ≤ lv M b) P → ∀ q ∈ P, lv M q ≤ lv M g
  | [], _, h, _, _, _ => by cases h
  | [a], g, h, _, q, hq => by simp at h hq; subst h; rw [hq]; exact Int.le_refl _
  | b :: a :: r, g, h, he, q, hq => by
    simp at h; subst h
    rcases List.mem_cons.1 hq with rfl | hq
    · exact Int.le_refl _
    · exact Int.le_trans (asc_le (g := a) rfl he.2 q hq) he.1
theorem asc_ge {M : Pt} : ∀ {P : List Pt} {s : Pt}, P.getLast? = some s → Edges (fun a b => lv M a ≤ lv M b) P → ∀ q ∈ P, lv M s ≤ lv M q
  | [], _, h, _, _, _ => by cases h
  | [a], s, h, _, q, hq => by simp at h hq; subst h; rw [hq]; exact Int.le_refl _
  | b :: a :: r, s, h, he, q, hq => by
    rw [List.getLast?_cons_cons] at h
    have ih := asc_ge h he.2
    rcases List.mem_cons.1 hq with rfl | hq
    · exact Int.le_trans (ih a (by simp)) he.1
    · exact ih q hq
theorem asc_split {M : Pt} (t : Int) : ∀ {P : List Pt}, Edges (fun a b => lv M a ≤ lv M b) P → ∃ P1 P2, P = P1 ++ P2 ∧ (∀ q ∈ P1, t < lv M q) ∧ (∀ q ∈ P2, lv M q ≤ t)
  | [], _ => ⟨[], [], rfl, fun q hq => (by cases hq), fun q hq => (by cases hq)⟩
  | h :: r, he => by
    by_cases c : lv M h ≤ t
    · exact ⟨[], h :: r, rfl, fun q hq => (by cases hq), fun q hq => Int.le_trans (asc_le (g := h) rfl he q hq) c⟩
    · obtain ⟨P1, P2, e, h1, h2⟩ := asc_split t he.tail
      refine ⟨h :: P1, P2, by rw [e]; rfl, fun q hq => ?_, h2⟩
      rcases List.mem_cons.1 hq with rfl | hq
      · omega
      · exact h1 q hq
theorem Edges.right {P : Pt → Pt → Prop} : ∀ {A B : List Pt}, Edges P (A ++ B) → Edges P B
  | [], _, h => h
  | _ :: A, _, h => Edges.right (A := A) (Edges.tail h)
theorem Edges.left_ {P : Pt → Pt → Prop} : ∀ {A B : List Pt}, Edges P (A ++ B) → Edges P A
  | [], _, _ => trivial
  | [_], _, _ => trivial
  | _ :: b :: A, B, h => ⟨h.1, Edges.left_ (A := b :: A) (B := B) h.2⟩
theorem Edges.snoc {P : Pt → Pt → Prop} {x a : Pt} : ∀ {A : List Pt}, Edges P (A ++ [x]) → P a x → Edges P (A ++ [x, a])
  | [], _, h => ⟨h, trivial⟩
  | [_], he, h => ⟨he.1, h, trivial⟩
  | _ :: b :: A, he, h => ⟨he.1, Edges.snoc (A := b :: A) he.2 h⟩
/-- A path that keeps to the left of a side has at most the side's product. -/
theorem G_seg {M a b : Pt} (hab : lv M a < lv M b) : ∀ {P : List Pt} {c : Pt}, P.head? = some c → P.getLast? = some a → Edges (fun a b => lv M a ≤ lv M b) P → (∀ q ∈ P, 0 ≤ crs a b q) →
    (lv M b - lv M a) * (G P - cv a c) ≤ (lv M c - lv M a) * crs a b c
  | [], _, h, _, _, _ => by cases h
  | [d], c, h1, h2, _, _ => by
    simp at h1 h2
    subst h1; subst h2
    have e : cv d d = 0 := by unfold cv; grind
    simp [G, e]
  | c' :: c :: r, x, h1, h2, he, hl => by
    simp at h1
    subst h1
    rw [List.getLast?_cons_cons] at h2
    have ih := G_seg hab (P := c :: r) (c := c) rfl h2 he.2 fun q hq => hl q (List.mem_cons_of_mem _ hq)
    have g1 := hl c (by simp)
    have g2 := hl c' (by simp)
    have l1 := asc_ge h2 he.2 c (by simp)
    have l2 : lv M c ≤ lv M c' := he.1
    have e : (lv M b - lv M a) * (G (c' :: c :: r) - cv a c') = (lv M b - lv M a) * (G (c :: r) - cv a c) + ((lv M c - lv M a) * crs a b c' - (lv M c' - lv M a) * crs a b c) := by
      simp only [G]
      have e1 := lv_pl M (dv a c) (dv a b) (dv a c')
      rw [lv_dv, lv_dv, lv_dv] at e1
      have e2 : cv (dv a c) (dv a c') = cv c c' + cv a c - cv a c' := by unfold cv dv; grind
      have e3 : cv (dv a b) (dv a c') = crs a b c' := by rw [crs_cv']
      have e4 : cv (dv a c) (dv a b) = - crs a b c := by rw [crs_cv']; rw [cv_anti]
      rw [e2, e3, e4] at e1
      have e5 : (lv M b - lv M a) * (cv c c' + G (c :: r) - cv a c') = (lv M b - lv M a) * (G (c :: r) - cv a c) + (lv M b - lv M a) * (cv c c' + cv a c - cv a c') := by
        rw [← Int.mul_add]; congr 1; omega
      rw [e5, e1, Int.mul_neg]
      omega
    rw [e]
    have f1 := Int.mul_nonneg (show 0 ≤ lv M c' - lv M c by omega) (show 0 ≤ crs a b c + crs a b c' by omega)
    have e6 : (lv M c' - lv M c) * (crs a b c + crs a b c') = (lv M c' - lv M a) * crs a b c' + (lv M c' - lv M a) * crs a b c - (lv M c - lv M a) * crs a b c - (lv M c - lv M a) * crs a b c' := by grind
    omega
theorem G_const {s : Pt} : ∀ {P : List Pt}, (∀ q ∈ P, q = s) → G P = 0
  | [], _ => rfl
  | [_], _ => rfl
  | b :: a :: r, h => by
    have ih := G_const (P := a :: r) fun q hq => h q (List.mem_cons_of_mem _ hq)
    have e1 := h b (by simp)
    have e2 := h a (by simp)
    simp only [G]
    rw [ih, e1, e2]
    unfold cv; grind
/-- A path within what the chain has to its left has at most the chain's product. -/
theorem G_le {M : Pt} {seen : List Pt} (hinj : ∀ q ∈ seen, ∀ q' ∈ seen, lv M q = lv M q' → q = q') : ∀ {Lo P : List Pt} {g s : Pt},
    Edges (fun a b => lv M a < lv M b) Lo → Edges (fun a b => ∀ q ∈ seen, 0 ≤ crs a b q) Lo → (∀ q ∈ Lo, q ∈ seen) → Lo.head? = some g → Lo.getLast? = some s →
    P.head? = some g → P.getLast? = some s → Edges (fun a b => lv M a ≤ lv M b) P → (∀ q ∈ P, q ∈ seen) → G P ≤ G Lo
  | [], _, _, _, _, _, _, h, _, _, _, _, _ => by cases h
  | [x], P, g, s, _, _, _, h1, h2, h3, h4, he, hm => by
    simp at h1 h2
    subst h1; subst h2
    refine Int.le_of_eq ?_
    rw [G_const (s := x) fun q hq => ?_]
    · rfl
    · have k1 := asc_le h3 he q hq
      have k2 := asc_ge h4 he q hq
      exact hinj q (hm q hq) x (hm x (List.mem_of_mem_head? (by rw [h3]; rfl))) (by omega)
  | b :: a :: r, P, g, s, hasc, hleft, hmem, h1, h2, h3, h4, he, hm => by
    simp at h1
    subst h1
    rw [List.getLast?_cons_cons] at h2
    have hab : lv M a < lv M b := hasc.1
    obtain ⟨P1, P2, e, k1, k2⟩ := asc_split (M := M) (lv M a) he
    have hsa : lv M s ≤ lv M a := asc_ge h2 (Edges.imp (fun _ _ h => Int.le_of_lt h) hasc.2) a (by simp)
    have hne1 : P1 ≠ [] := by
      intro e1
      rw [e1] at e
      simp at e
      have := k2 b (by rw [← e]; exact List.mem_of_mem_head? (by rw [h3]; rfl))
      omega
    have hne2 : P2 ≠ [] := by
      intro e2
      rw [e2, List.append_nil] at e
      have := k1 s (by rw [← e]; exact List.mem_of_getLast? h4)
      omega
    rcases snoc_or P1 with e1 | ⟨A, x, e1⟩
    · exact absurd e1 hne1
    · cases P2 with
      | nil => exact absurd rfl hne2
      | cons y B =>
        subst e1
        subst e
        rw [List.append_assoc] at *
        simp only [List.cons_append, List.nil_append] at *
        have hx := k1 x (by simp)
        have hy := k2 y (by simp)
        have hxl := hleft.1 x (hm x (by simp))
        have hyl := hleft.1 y (hm y (by simp))
        have e2 : crs a b y = cv (dv y a) (dv a b) := by unfold crs cv dv; grind
        rw [e2] at hyl
        rw [crs_cv'] at hxl
        have key := tr_le (M := M) (u := dv y a) (v := dv a b) (w := dv a x) (by rw [lv_dv]; omega) (by rw [lv_dv]; omega) (by rw [lv_dv]; omega) hyl hxl
        have e3 : cv (dv y a) (dv a x) = cv a x + cv y a - cv y x := by unfold cv dv; grind
        rw [e3] at key
        have heA : Edges (fun a b => lv M a ≤ lv M b) (A ++ [x]) := Edges.left_ (A := A ++ [x]) (B := y :: B) (by simpa using he)
        have heB : Edges (fun a b => lv M a ≤ lv M b) (y :: B) := Edges.right (A := A ++ [x]) (B := y :: B) (by simpa using he)
        have hh : (A ++ [x, a]).head? = some b := by
          cases A with
          | nil => simpa using h3
          | cons c A => simpa using h3
        have hseg := G_seg (M := M) (a := a) (b := b) hab (P := A ++ [x, a]) (c := b) hh (by simp) (Edges.snoc heA (show lv M a ≤ lv M x by omega)) (fun q hq => by
          refine hleft.1 q ?_
          rcases List.mem_append.1 hq with hq | hq
          · exact hm q (List.mem_append_left _ hq)
          · simp at hq
            rcases hq with rfl | rfl
            · exact hm q (by simp)
            · exact hmem q (by simp))
        have ez : crs a b b = 0 := by unfold crs; grind
        rw [ez, Int.mul_zero] at hseg
        have hseg' : G (A ++ [x, a]) ≤ cv a b := by
          by_cases c : G (A ++ [x, a]) ≤ cv a b
          · exact c
          · exfalso
            have := Int.mul_pos (show 0 < lv M b - lv M a by omega) (show 0 < G (A ++ [x, a]) - cv a b by omega)
            omega
        have ih := G_le hinj (Lo := a :: r) (P := a :: y :: B) (g := a) (s := s) hasc.2 hleft.2 (fun q hq => hmem q (List.mem_cons_of_mem _ hq)) rfl h2 rfl
          (by rw [List.getLast?_cons_cons, ← h4]; obtain ⟨z, hz⟩ : ∃ z, (y :: B).getLast? = some z := ⟨_, List.getLast?_eq_some_getLast (by simp)⟩; simp [hz]) ⟨hy, heB⟩ (fun q hq => by
            rcases List.mem_cons.1 hq with rfl | hq
            · exact hmem q (by simp)
            · exact hm q (List.mem_append_right _ (List.mem_cons_of_mem _ hq)))
        have g1 := G_app x (y :: B) A
        have g2 := G_app x [a] A
        simp only [G] at g1 g2 ih ⊢
        rw [g1]
        rw [g2] at hseg'
        omega
end Go.Proofs.Ytopmolpnmpchoaa
