/- Plain laws of convex hulls: spots, turns, the chain of one side. No program in sight. -/
namespace Go.Proofs.Ytopmolpnmpchoaa

structure Pt where
  x : Int
  y : Int
theorem Pt.same {a b : Pt} (h1 : a.x = b.x) (h2 : a.y = b.y) : a = b := by cases a; cases b; simp only at h1 h2; rw [h1, h2]
def dv (a b : Pt) : Pt := ⟨b.x - a.x, b.y - a.y⟩
def cv (u v : Pt) : Int := u.x * v.y - u.y * v.x
def lv (M u : Pt) : Int := M.x * u.x + M.y * u.y
def crs (a b c : Pt) : Int := (b.x - a.x) * (c.y - a.y) - (b.y - a.y) * (c.x - a.x)
theorem crs_cv (a b c : Pt) : crs a b c = cv (dv a b) (dv b c) := by unfold crs cv dv; grind
theorem crs_cv' (a b c : Pt) : crs a b c = cv (dv a b) (dv a c) := by unfold crs cv dv; grind
theorem cv_anti (u v : Pt) : cv u v = - cv v u := by unfold cv; grind
theorem cv_back (a b c : Pt) : cv (dv a b) (dv a c) = - cv (dv a b) (dv c a) := by unfold cv dv; grind
theorem cv_add (u : Pt) (a b c : Pt) : cv u (dv a c) = cv u (dv a b) + cv u (dv b c) := by unfold cv dv; grind
theorem lv_dv (M : Pt) (a b : Pt) : lv M (dv a b) = lv M b - lv M a := by unfold lv dv; grind
theorem lv_pl (M : Pt) (u v w : Pt) : lv M v * cv u w = lv M u * cv v w + lv M w * cv u v := by unfold lv cv; grind
theorem pos_of_mul {a b : Int} (ha : 0 < a) (h : 0 ≤ a * b) : 0 ≤ b := by
  by_cases hb : 0 ≤ b
  · exact hb
  · exfalso
    have := Int.mul_neg_of_pos_of_neg ha (show b < 0 by omega)
    omega
theorem pos_of_mul' {a b : Int} (ha : 0 < a) (h : 0 < a * b) : 0 < b := by
  by_cases hb : 0 < b
  · exact hb
  · exfalso
    have := Int.mul_nonpos_of_nonneg_of_nonpos (show 0 ≤ a by omega) (show b ≤ 0 by omega)
    omega
/-- Turns in one half of the plane are transitive. -/
theorem tr_le {M : Pt} {u v w : Pt} (hu : 0 ≤ lv M u) (hv : 0 < lv M v) (hw : 0 ≤ lv M w) (h1 : 0 ≤ cv u v) (h2 : 0 ≤ cv v w) : 0 ≤ cv u w := by
  have h := lv_pl M u v w
  have a := Int.mul_nonneg hu h2
  have b := Int.mul_nonneg hw h1
  exact pos_of_mul hv (by omega)
theorem tr_lt {M : Pt} {u v w : Pt} (hu : 0 < lv M u) (hv : 0 < lv M v) (hw : 0 < lv M w) (h1 : 0 ≤ cv u v) (h2 : 0 ≤ cv v w) (h3 : 0 < cv u v ∨ 0 < cv v w) : 0 < cv u w := by
  have h := lv_pl M u v w
  have a := Int.mul_nonneg (Int.le_of_lt hu) h2
  have b := Int.mul_nonneg (Int.le_of_lt hw) h1
  refine pos_of_mul' hv ?_
  rcases h3 with h3 | h3
  · have := Int.mul_pos hw h3; omega
  · have := Int.mul_pos hu h3; omega

/-! ## A chain, its latest spot first -/
def Edges (P : Pt → Pt → Prop) : List Pt → Prop
  | b :: a :: r => P a b ∧ Edges P (a :: r)
  | _ => True
def Turns : List Pt → Prop
  | c :: b :: a :: r => 0 < crs a b c ∧ Turns (b :: a :: r)
  | _ => True
theorem Edges.tail {P : Pt → Pt → Prop} {b : Pt} {r : List Pt} (h : Edges P (b :: r)) : Edges P r := by
  cases r with
  | nil => trivial
  | cons a r => exact h.2
theorem Turns.tail {b : Pt} {r : List Pt} (h : Turns (b :: r)) : Turns r := by
  cases r with
  | nil => trivial
  | cons a r =>
    cases r with
    | nil => trivial
    | cons c r => exact h.2
theorem Edges.imp {P Q : Pt → Pt → Prop} (h : ∀ a b, P a b → Q a b) : ∀ {s : List Pt}, Edges P s → Edges Q s
  | [], _ => trivial
  | [_], _ => trivial
  | b :: a :: _, hs => ⟨h a b hs.1, Edges.imp h hs.2⟩
theorem Edges.and {P Q : Pt → Pt → Prop} : ∀ {s : List Pt}, Edges P s → Edges Q s → Edges (fun a b => P a b ∧ Q a b) s
  | [], _, _ => trivial
  | [_], _, _ => trivial
  | _ :: _ :: _, h1, h2 => ⟨⟨h1.1, h2.1⟩, Edges.and h1.2 h2.2⟩
/-- The chain as the program keeps it. -/
def pop (p : Pt) : List Pt → List Pt
  | b :: a :: r => if crs a b p ≤ 0 then pop p (a :: r) else b :: a :: r
  | s => s
def push (s : List Pt) (p : Pt) : List Pt := p :: pop p s
def chain (l : List Pt) : List Pt := l.foldl push []
theorem chain_snoc (l : List Pt) (p : Pt) : chain (l ++ [p]) = push (chain l) p := by unfold chain; rw [List.foldl_append]; rfl
/-- What a chain over the spots seen is. -/
structure ChOk (M : Pt) (seen s : List Pt) : Prop where
  asc : Edges (fun a b => lv M a < lv M b) s
  left : Edges (fun a b => ∀ q ∈ seen, 0 ≤ crs a b q) s
  turn : Turns s
  mem : ∀ q ∈ s, q ∈ seen
  low : ∀ a, s.getLast? = some a → ∀ q ∈ seen, lv M a ≤ lv M q
theorem ChOk.tail {M : Pt} {seen r : List Pt} {b a : Pt} (h : ChOk M seen (b :: a :: r)) : ChOk M seen (a :: r) :=
  ⟨h.asc.tail, h.left.tail, h.turn.tail, fun q hq => h.mem q (List.mem_cons_of_mem _ hq), fun c hc => h.low c (by rw [List.getLast?_cons_cons]; exact hc)⟩
/-- What is known of the top of a chain from which spots were dropped for p. -/
def TopOk (M : Pt) (seen : List Pt) (p b : Pt) : Prop := (∀ q ∈ seen, lv M q ≤ lv M b) ∨ ∃ b', lv M b < lv M b' ∧ (∀ q ∈ seen, 0 ≤ crs b b' q) ∧ crs b b' p ≤ 0
theorem pop_ok {M : Pt} {seen : List Pt} {p : Pt} : ∀ (n : Nat) (s : List Pt), s.length ≤ n → ∀ {b : Pt} {r : List Pt}, s = b :: r → ChOk M seen s → TopOk M seen p b →
    ∃ b' r', pop p s = b' :: r' ∧ ChOk M seen (b' :: r') ∧ TopOk M seen p b' ∧ ∀ a, r'.head? = some a → 0 < crs a b' p := by
  intro n
  induction n with
  | zero => intro s hl b r hs; subst hs; simp at hl
  | succ n ih =>
    intro s hl b r hs h ht
    subst hs
    cases r with
    | nil => exact ⟨b, [], rfl, h, ht, fun a ha => (by cases ha)⟩
    | cons a r =>
      unfold pop
      by_cases hc : crs a b p ≤ 0
      · rw [if_pos hc]
        exact ih (a :: r) (by simp at hl ⊢; omega) rfl h.tail (.inr ⟨b, h.asc.1, h.left.1, hc⟩)
      · rw [if_neg hc]
        exact ⟨b, a :: r, rfl, h, ht, fun a' ha => by simp at ha; subst ha; omega⟩
/-- All sides of a chain have a later spot to the left, if the last one has. -/
theorem chain_left {M : Pt} {p : Pt} : ∀ (r : List Pt) (b : Pt), Edges (fun a b => lv M a < lv M b) (b :: r) → Turns (b :: r) → lv M b < lv M p → (∀ a, r.head? = some a → 0 < crs a b p) → Edges (fun a b => 0 < crs a b p) (b :: r) := by
  intro r
  induction r with
  | nil => intro b _ _ _ _; trivial
  | cons a r ih =>
    intro b hasc ht hp h
    have hab := h a rfl
    refine ⟨hab, ih a hasc.2 ht.tail (by have := hasc.1; omega) fun c hc => ?_⟩
    cases r with
    | nil => cases hc
    | cons c' r =>
      simp at hc
      subst hc
      have h1 : 0 < crs c' a b := ht.1
      have l1 : lv M c' < lv M a := hasc.2.1
      have l2 : lv M a < lv M b := hasc.1
      rw [crs_cv] at h1 hab
      have h3 := tr_lt (M := M) (u := dv c' a) (v := dv a b) (w := dv b p) (by rw [lv_dv]; omega) (by rw [lv_dv]; omega) (by rw [lv_dv]; omega) (by omega) (by omega) (.inl h1)
      rw [crs_cv, cv_add (dv c' a) a b p]
      omega
theorem push_ok {M : Pt} {seen s : List Pt} {p : Pt} (h : ChOk M seen s) (hne : s ≠ []) (hmax : ∀ b, s.head? = some b → ∀ q ∈ seen, lv M q ≤ lv M b) (hp : ∀ q ∈ seen, lv M q < lv M p) (hinj : ∀ q ∈ seen, ∀ q' ∈ seen, lv M q = lv M q' → q = q') : ChOk M (seen ++ [p]) (push s p) := by
  cases s with
  | nil => exact absurd rfl hne
  | cons b0 r0 =>
    obtain ⟨b, r, e, hc, ht, hl⟩ := pop_ok (M := M) (p := p) _ _ (Nat.le_refl _) rfl h (.inl (hmax b0 rfl))
    unfold push
    rw [e]
    have hbs : b ∈ seen := hc.mem b (by simp)
    have hbp := hp b hbs
    have key : ∀ q ∈ seen, 0 ≤ crs b p q := by
      intro q hq
      have hqp := hp q hq
      by_cases hlt : lv M q < lv M b
      · cases r with
        | nil => have := hc.low b rfl q hq; omega
        | cons a r =>
          have h1 := hl a rfl
          have h2 := hc.left.1 q hq
          have l1 : lv M a < lv M b := hc.asc.1
          rw [crs_cv] at h1
          have e2 : crs a b q = cv (dv q b) (dv a b) := by unfold crs cv dv; grind
          rw [e2] at h2
          have h3 := tr_le (M := M) (u := dv q b) (v := dv a b) (w := dv b p) (by rw [lv_dv]; omega) (by rw [lv_dv]; omega) (by rw [lv_dv]; omega) h2 (by omega)
          have e3 : crs b p q = cv (dv q b) (dv b p) := by unfold crs cv dv; grind
          rw [e3]; exact h3
      · rcases ht with ht | ⟨b', l1, h1, h2⟩
        · have hqb := hinj q hq b hbs (by have := ht q hq; omega)
          subst hqb
          have : crs q p q = 0 := by unfold crs; grind
          omega
        · have h3 := h1 q hq
          rw [crs_cv'] at h2 h3
          have h4 := tr_le (M := M) (u := dv b p) (v := dv b b') (w := dv b q) (by rw [lv_dv]; omega) (by rw [lv_dv]; omega) (by rw [lv_dv]; omega) (by rw [cv_anti]; omega) h3
          rw [crs_cv']; exact h4
    have hleft := chain_left r b hc.asc hc.turn hbp hl
    refine ⟨⟨hbp, hc.asc⟩, ⟨fun q hq => ?_, ?_⟩, ?_, fun q hq => ?_, fun a ha q hq => ?_⟩
    · rcases List.mem_append.1 hq with hq | hq
      · exact key q hq
      · simp at hq; subst hq
        have : crs b q q = 0 := by unfold crs; grind
        omega
    · refine Edges.imp ?_ (Edges.and hc.left hleft)
      intro a c hac q hq
      rcases List.mem_append.1 hq with hq | hq
      · exact hac.1 q hq
      · simp at hq; subst hq; have := hac.2; omega
    · cases r with
      | nil => trivial
      | cons a r => exact ⟨hl a rfl, hc.turn⟩
    · rcases List.mem_cons.1 hq with rfl | hq
      · simp
      · exact List.mem_append_left _ (hc.mem q hq)
    · rw [List.getLast?_cons_cons] at ha
      rcases List.mem_append.1 hq with hq | hq
      · exact hc.low a ha q hq
      · simp at hq; subst hq
        have := hc.low a ha b hbs
        omega
end Go.Proofs.Ytopmolpnmpchoaa
