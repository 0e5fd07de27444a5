/- Several texts as one: MachPlain, Mach1, Mach2. -/
import Derived.Test.YtelgkangojmhdaaRows
import Derived.WalkKit
import Derived.WalkSpells
import Derived.WalkLawsBesides
import Derived.Lib.Hide
/- Plain laws of stops of machines: how many times are lost, when work is done. No program in sight. -/
namespace Go.Proofs.Ytelgkangojmhdaa.M

structure Dn where
  m : Int
  f : Int
  t : Int

def dn0 : Dn := ⟨0, 0, 0⟩
def covers (d : Dn) (m t : Int) : Bool := decide (d.m = m ∧ d.f ≤ t ∧ t < d.t)
def isUp (l : List Dn) (m t : Int) : Bool := l.all fun d => !covers d m t
def okDn (d : Dn) : Bool := decide (0 ≤ d.m ∧ d.m < 8 ∧ 0 ≤ d.f ∧ d.f < d.t ∧ d.t ≤ 1073741824)
def chk (l : List Dn) : Int := if 20 < l.length then 5 else if l.all okDn then 0 else 3
def lim (t : Int) : Int := min (max t 0) 1073741824

theorem chk_zero {l : List Dn} (h : chk l = 0) : l.length ≤ 20 ∧ ∀ d ∈ l, okDn d = true := by
  unfold chk at h
  by_cases h1 : 20 < l.length
  · simp [h1] at h
  · by_cases h2 : l.all okDn = true
    · exact ⟨by omega, by simpa using h2⟩
    · simp [h1, h2] at h
theorem chk_mk {l : List Dn} (h1 : l.length ≤ 20) (h2 : ∀ d ∈ l, okDn d = true) : chk l = 0 := by
  unfold chk
  rw [if_neg (by omega), if_pos (by simpa using h2)]
theorem chk_cases (l : List Dn) : chk l = 0 ∨ chk l = 3 ∨ chk l = 5 := by
  unfold chk; split
  · simp
  · split <;> simp

/-- How many of the n times from a on are not up. -/
def dcount (p : Int → Bool) : Nat → Int → Int
  | 0, _ => 0
  | n + 1, a => (if p a then 0 else 1) + dcount p n (a + 1)
def down (p : Int → Bool) (a b : Int) : Int := dcount p (b - a).toNat a

theorem dcount_bd (p : Int → Bool) (n : Nat) (a : Int) : 0 ≤ dcount p n a ∧ dcount p n a ≤ n := by
  induction n generalizing a with
  | zero => simp [dcount]
  | succ n ih => have := ih (a + 1); unfold dcount; split <;> omega
theorem dcount_add (p : Int → Bool) (n k : Nat) (a : Int) : dcount p (n + k) a = dcount p n a + dcount p k (a + n) := by
  induction n generalizing a with
  | zero => simp [dcount]
  | succ n ih =>
    rw [show n + 1 + k = (n + k) + 1 from by omega]
    have e : dcount p (n + k + 1) a = (if p a then 0 else 1) + dcount p (n + k) (a + 1) := rfl
    have e' : dcount p (n + 1) a = (if p a then 0 else 1) + dcount p n (a + 1) := rfl
    rw [e, e', ih, show a + 1 + (n : Int) = a + ((n + 1 : Nat) : Int) from by omega]
    omega
theorem dcount_congr {p q : Int → Bool} (n : Nat) (a : Int) (h : ∀ t, a ≤ t → t < a + n → p t = q t) : dcount p n a = dcount q n a := by
  induction n generalizing a with
  | zero => rfl
  | succ n ih =>
    unfold dcount
    rw [h a (by omega) (by omega), ih (a + 1) (fun t h1 h2 => h t (by omega) (by omega))]
theorem dcount_le {p q : Int → Bool} (n : Nat) (a : Int) (h : ∀ t, a ≤ t → t < a + n → q t = true → p t = true) : dcount p n a ≤ dcount q n a := by
  induction n generalizing a with
  | zero => exact Int.le_refl _
  | succ n ih =>
    unfold dcount
    have h1 := ih (a + 1) (fun t h1 h2 => h t (by omega) (by omega))
    have h2 := h a (by omega) (by omega)
    by_cases hq : q a = true
    · rw [if_pos hq, if_pos (h2 hq)]; omega
    · rw [if_neg hq]; split <;> omega

theorem down_none (p : Int → Bool) {a b : Int} (h : b ≤ a) : down p a b = 0 := by
  unfold down; rw [show (b - a).toNat = 0 from by omega]; rfl
theorem down_bd (p : Int → Bool) (a b : Int) (h : a ≤ b) : 0 ≤ down p a b ∧ down p a b ≤ b - a := by
  have := dcount_bd p (b - a).toNat a; unfold down; omega
theorem down_nonneg (p : Int → Bool) (a b : Int) : 0 ≤ down p a b := (dcount_bd p (b - a).toNat a).1
theorem down_add (p : Int → Bool) {a b c : Int} (h1 : a ≤ b) (h2 : b ≤ c) : down p a c = down p a b + down p b c := by
  unfold down
  rw [show (c - a).toNat = (b - a).toNat + (c - b).toNat from by omega, dcount_add]
  rw [show a + ((b - a).toNat : Int) = b from by omega]
theorem down_congr {p q : Int → Bool} {a b : Int} (h : ∀ t, a ≤ t → t < b → p t = q t) : down p a b = down q a b :=
  dcount_congr _ _ fun t h1 h2 => h t h1 (by omega)
theorem down_le {p q : Int → Bool} {a b : Int} (h : ∀ t, a ≤ t → t < b → q t = true → p t = true) : down p a b ≤ down q a b :=
  dcount_le _ _ fun t h1 h2 => h t h1 (by omega)
theorem dcount_true (n : Nat) (a : Int) : dcount (fun _ => true) n a = 0 := by
  induction n generalizing a with
  | zero => rfl
  | succ n ih => unfold dcount; rw [ih]; rfl
theorem dcount_false (n : Nat) (a : Int) : dcount (fun _ => false) n a = n := by
  induction n generalizing a with
  | zero => rfl
  | succ n ih => unfold dcount; rw [ih]; simp; omega
theorem down_up {p : Int → Bool} {a b : Int} (h : ∀ t, a ≤ t → t < b → p t = true) : down p a b = 0 := by
  rw [down_congr (q := fun _ => true) h]; exact dcount_true _ _
theorem down_down {p : Int → Bool} {a b : Int} (hab : a ≤ b) (h : ∀ t, a ≤ t → t < b → p t = false) : down p a b = b - a := by
  rw [down_congr (q := fun _ => false) h]; unfold down; rw [dcount_false]; omega
theorem down_one (p : Int → Bool) (a : Int) : down p a (a + 1) = if p a then 0 else 1 := by
  unfold down; rw [show (a + 1 - a).toNat = 1 from by omega]; simp [dcount]

/-- Work of n that begins at s is done at t. -/
def Fin (p : Int → Bool) (s n t : Int) : Prop := s ≤ t ∧ t - s - down p s t = n ∧ (n = 0 → t = s) ∧ (0 < n → p (t - 1) = true)

theorem Fin.lt {p : Int → Bool} {s n t : Int} (h : Fin p s n t) (hn : 0 < n) : s < t := by
  obtain ⟨h1, h2, _, _⟩ := h
  have := down_bd p s t h1
  omega
/-- Before t less than n is done. -/
theorem Fin.less {p : Int → Bool} {s n t u : Int} (h : Fin p s n t) (h1 : s ≤ u) (h2 : u < t) : u - s - down p s u < n := by
  obtain ⟨a1, a2, a3, a4⟩ := h
  have hn : n ≠ 0 := fun e => by have := a3 e; omega
  have e1 := down_add p (a := s) (b := u) (c := t) (by omega) (by omega)
  have e2 := down_add p (a := u) (b := t - 1) (c := t) (by omega) (by omega)
  have b1 := down_bd p u (t - 1) (by omega)
  have b0 := down_bd p s t (by omega)
  have e3 := down_one p (t - 1)
  rw [show t - 1 + 1 = t from by omega, a4 (by omega)] at e3
  simp at e3
  omega
theorem Fin.done {p : Int → Bool} {s n t u : Int} (h : Fin p s n t) (h2 : t ≤ u) : n ≤ u - s - down p s u := by
  obtain ⟨a1, a2, a3, a4⟩ := h
  have e1 := down_add p (a := s) (b := t) (c := u) (by omega) (by omega)
  have b1 := down_bd p t u (by omega)
  omega
theorem Fin.uniq {p : Int → Bool} {s n t t' : Int} (h : Fin p s n t) (h' : Fin p s n t') : t = t' := by
  rcases Int.lt_trichotomy t t' with hlt | he | hlt
  · have := h'.less h.1 hlt; have := h.2.1; omega
  · exact he
  · have := h.less h'.1 hlt; have := h'.2.1; omega
theorem Fin.nonneg {p : Int → Bool} {s n t : Int} (h : Fin p s n t) : 0 ≤ n := by
  obtain ⟨h1, h2, _, _⟩ := h
  have := down_bd p s t h1
  omega
theorem Fin.trans {p : Int → Bool} {s n t k u : Int} (h : Fin p s n t) (h' : Fin p t k u) : Fin p s (n + k) u := by
  have n0 := h.nonneg
  have k0 := h'.nonneg
  obtain ⟨a1, a2, a3, a4⟩ := h
  obtain ⟨b1, b2, b3, b4⟩ := h'
  have e1 := down_add p (a := s) (b := t) (c := u) (by omega) (by omega)
  refine ⟨by omega, by omega, fun e => ?_, fun e => ?_⟩
  · have := a3 (by omega); have := b3 (by omega); omega
  · by_cases hk : 0 < k
    · exact b4 hk
    · rw [b3 (by omega)]; exact a4 (by omega)
theorem Fin.zero (p : Int → Bool) (s : Int) : Fin p s 0 s := ⟨Int.le_refl _, by rw [down_none p (Int.le_refl _)]; omega, fun _ => rfl, fun h => by omega⟩
theorem Fin.upto {p : Int → Bool} {s n : Int} (hn : 0 ≤ n) (h : ∀ t, s ≤ t → t < s + n → p t = true) : Fin p s n (s + n) :=
  ⟨by omega, by rw [down_up h]; omega, fun e => by omega, fun e => h _ (by omega) (by omega)⟩
/-- More time, more of it down, a later beginning: not done earlier. -/
theorem Fin.later {p q : Int → Bool} {s n t s' n' t' : Int} (h : Fin p s n t) (h' : Fin q s' n' t') (hs : s ≤ s') (hn : n ≤ n') (hpq : ∀ u, s ≤ u → q u = true → p u = true) : t ≤ t' := by
  rcases Int.lt_or_le t' t with hlt | hle
  · exfalso
    have h1 := h.less (u := t') (by have := h'.1; omega) hlt
    have h2 := h'.2.1
    have e1 := down_add p (a := s) (b := s') (c := t') hs h'.1
    have b1 := down_bd p s s' hs
    have b2 := down_le (p := p) (q := q) (a := s') (b := t') (fun u hu _ hq => hpq u (by omega) hq)
    omega
  · exact hle
theorem Fin.longer {p : Int → Bool} {s n t n' t' : Int} (h : Fin p s n t) (h' : Fin p s n' t') (hn : n < n') : t < t' := by
  rcases Int.lt_or_le t t' with hlt | hle
  · exact hlt
  · have := h'.done hle; have := h.2.1; omega


/-! ## Stops, joined -/
structure Sp where
  a : Int
  b : Int
def sp0 : Sp := ⟨0, 0⟩

def clip1 (m lo hi : Int) (d : Dn) : Option Sp := if d.m = m ∧ max d.f lo < min d.t hi then some ⟨max d.f lo, min d.t hi⟩ else none
def clip (l : List Dn) (m lo hi : Int) : List Sp := l.filterMap (clip1 m lo hi)
def joinStep (J : List Sp) (s : Sp) : List Sp :=
  match J.getLast? with
  | none => [s]
  | some x => if s.a ≤ x.b then J.dropLast ++ [⟨x.a, max x.b s.b⟩] else J ++ [s]
def join (l : List Sp) : List Sp := l.foldl joinStep []

def inSp (s : Sp) (t : Int) : Prop := s.a ≤ t ∧ t < s.b
def inSome (l : List Sp) (t : Int) : Prop := ∃ s ∈ l, inSp s t

/-- Disjoint, ascending, none empty, not even two that touch. -/
def Apart (l : List Sp) : Prop := (∀ s ∈ l, s.a < s.b) ∧ l.Pairwise fun x y => x.b < y.a

theorem getLast_split {l : List Sp} {x : Sp} (h : l.getLast? = some x) : l = l.dropLast ++ [x] := by
  induction l with
  | nil => cases h
  | cons a l ih =>
    cases l with
    | nil => simp at h; subst h; rfl
    | cons b l => rw [List.getLast?_cons_cons] at h; rw [List.dropLast_cons_cons, List.cons_append, ← ih h]
theorem Apart.nil : Apart [] := ⟨fun _ h => (by cases h), List.Pairwise.nil⟩
theorem Apart.one {s : Sp} (h : s.a < s.b) : Apart [s] := ⟨fun x hx => by simp at hx; subst hx; exact h, List.pairwise_singleton _ _⟩
theorem Apart.dropLast {l : List Sp} (h : Apart l) : Apart l.dropLast :=
  ⟨fun s hs => h.1 s (List.dropLast_subset l hs), h.2.sublist (List.dropLast_sublist l)⟩
theorem Apart.last_before {l : List Sp} (h : Apart l) {x : Sp} (hx : l.getLast? = some x) : ∀ y ∈ l.dropLast, y.b < x.a := by
  have h2 := h.2
  rw [getLast_split hx, List.pairwise_append] at h2
  exact fun y hy => h2.2.2 y hy x (by simp)
theorem Apart.append_one {l : List Sp} {s : Sp} (h : Apart l) (hs : s.a < s.b) (hl : ∀ x ∈ l, x.b < s.a) : Apart (l ++ [s]) := by
  refine ⟨fun x hx => ?_, List.pairwise_append.2 ⟨h.2, List.pairwise_singleton _ _, fun x hx y hy => ?_⟩⟩
  · rcases List.mem_append.1 hx with hx | hx
    · exact h.1 x hx
    · simp at hx; subst hx; exact hs
  · simp at hy; subst hy; exact hl x hx
theorem Apart.last_ok {l : List Sp} (h : Apart l) {x : Sp} (hx : l.getLast? = some x) : x.a < x.b :=
  h.1 x (by rw [getLast_split hx]; simp)
theorem Apart.all_le {l : List Sp} (h : Apart l) {x : Sp} (hx : l.getLast? = some x) : ∀ y ∈ l, y.b ≤ x.b := by
  intro y hy
  rw [getLast_split hx] at hy
  rcases List.mem_append.1 hy with hy | hy
  · have := h.last_before hx y hy; have := h.last_ok hx; omega
  · simp at hy; subst hy; exact Int.le_refl _

/-- One step: what J covers and what s covers; J ends with the greatest beginning so far. -/
theorem joinStep_ok {J : List Sp} {s : Sp} (h : Apart J) (hs : s.a < s.b) (hmax : ∀ x, J.getLast? = some x → x.a ≤ s.a) :
    Apart (joinStep J s) ∧ (∀ t, inSome (joinStep J s) t ↔ inSome J t ∨ inSp s t) ∧ (∀ x, (joinStep J s).getLast? = some x → x.a ≤ s.a) := by
  unfold joinStep
  cases hJ : J.getLast? with
  | none =>
    have : J = [] := List.getLast?_eq_none_iff.1 hJ
    subst this
    refine ⟨.one hs, fun t => ?_, fun x hx => ?_⟩
    · simp [inSome]
    · simp at hx; subst hx; exact Int.le_refl _
  | some x =>
    have hm := hmax x hJ
    have hsp := getLast_split hJ
    have hxx := h.last_ok hJ
    by_cases hle : s.a ≤ x.b
    · simp only [if_pos hle]
      refine ⟨h.dropLast.append_one (by show x.a < max x.b s.b; omega) fun y hy => h.last_before hJ y hy, fun t => ?_, fun y hy => ?_⟩
      · rw [show inSome J t ↔ inSome (J.dropLast ++ [x]) t from by rw [← hsp]]
        simp only [inSome, List.mem_append, List.mem_singleton]
        constructor
        · rintro ⟨y, hy | rfl, h1⟩
          · exact .inl ⟨y, .inl hy, h1⟩
          · unfold inSp at h1 ⊢
            by_cases ht : t < x.b
            · exact .inl ⟨x, .inr rfl, by show x.a ≤ t ∧ t < x.b; simp at h1; omega⟩
            · exact .inr (by simp at h1; omega)
        · rintro (⟨y, hy | rfl, h1⟩ | h1)
          · exact ⟨y, .inl hy, h1⟩
          · exact ⟨_, .inr rfl, by unfold inSp at h1 ⊢; show y.a ≤ t ∧ t < max y.b s.b; omega⟩
          · exact ⟨_, .inr rfl, by unfold inSp at h1 ⊢; show x.a ≤ t ∧ t < max x.b s.b; omega⟩
      · simp at hy; subst hy; exact hm
    · simp only [if_neg hle]
      refine ⟨h.append_one hs fun y hy => by have := h.all_le hJ y hy; omega, fun t => ?_, fun y hy => ?_⟩
      · simp only [inSome, List.mem_append, List.mem_singleton]
        constructor
        · rintro ⟨y, hy | rfl, h1⟩
          · exact .inl ⟨y, hy, h1⟩
          · exact .inr h1
        · rintro (⟨y, hy, h1⟩ | h1)
          · exact ⟨y, .inl hy, h1⟩
          · exact ⟨s, .inr rfl, h1⟩
      · simp at hy; subst hy; exact Int.le_refl _

theorem join_from (l : List Sp) : ∀ J : List Sp, Apart J → (∀ s ∈ l, s.a < s.b) → l.Pairwise (fun x y => x.a ≤ y.a) → (∀ x, J.getLast? = some x → ∀ s ∈ l, x.a ≤ s.a) →
    Apart (l.foldl joinStep J) ∧ (∀ t, inSome (l.foldl joinStep J) t ↔ inSome J t ∨ inSome l t) := by
  induction l with
  | nil => intro J h _ _ _; exact ⟨h, fun t => by simp [inSome]⟩
  | cons s l ih =>
    intro J h hne hso hmax
    obtain ⟨h1, h2, h3⟩ := joinStep_ok h (hne s (by simp)) fun x hx => hmax x hx s (by simp)
    rw [List.pairwise_cons] at hso
    obtain ⟨i1, i2⟩ := ih (joinStep J s) h1 (fun x hx => hne x (by simp [hx])) hso.2 fun x hx y hy => Int.le_trans (h3 x hx) (hso.1 y hy)
    refine ⟨i1, fun t => ?_⟩
    rw [List.foldl_cons, i2, h2]
    simp only [inSome, List.mem_cons]
    constructor
    · rintro ((h | h) | ⟨y, hy, h⟩)
      · exact .inl h
      · exact .inr ⟨s, .inl rfl, h⟩
      · exact .inr ⟨y, .inr hy, h⟩
    · rintro (h | ⟨y, rfl | hy, h⟩)
      · exact .inl (.inl h)
      · exact .inl (.inr h)
      · exact .inr ⟨y, hy, h⟩

/-- What stops returns: the times from lo to hi at which the machine is down. -/
def Stops (p : Int → Bool) (lo hi : Int) (J : List Sp) : Prop :=
  Apart J ∧ (∀ s ∈ J, lo ≤ s.a ∧ s.b ≤ hi) ∧ ∀ t, lo ≤ t → t < hi → (p t = false ↔ inSome J t)

theorem apart_mem {J : List Sp} (h : Apart J) {s : Sp} (hs : s ∈ J) : s.a < s.b := h.1 s hs

theorem clip_mem {l : List Dn} {m lo hi : Int} {s : Sp} : s ∈ clip l m lo hi ↔ ∃ d ∈ l, d.m = m ∧ s = ⟨max d.f lo, min d.t hi⟩ ∧ s.a < s.b := by
  unfold clip
  rw [List.mem_filterMap]
  constructor
  · rintro ⟨d, hd, h⟩
    unfold clip1 at h
    by_cases hc : d.m = m ∧ max d.f lo < min d.t hi
    · rw [if_pos hc] at h; cases h
      exact ⟨d, hd, hc.1, rfl, hc.2⟩
    · rw [if_neg hc] at h; cases h
  · rintro ⟨d, hd, h1, rfl, h2⟩
    exact ⟨d, hd, by unfold clip1; rw [if_pos ⟨h1, h2⟩]⟩

theorem isUp_false {l : List Dn} {m t : Int} : isUp l m t = false ↔ ∃ d ∈ l, d.m = m ∧ d.f ≤ t ∧ t < d.t := by
  unfold isUp covers
  rw [List.all_eq_false]
  simp
theorem isUp_true {l : List Dn} {m t : Int} : isUp l m t = true ↔ ∀ d ∈ l, ¬ (d.m = m ∧ d.f ≤ t ∧ t < d.t) := by
  unfold isUp covers
  rw [List.all_eq_true]
  constructor
  · intro h d hd; have := h d hd; simp at this; omega
  · intro h d hd; have := h d hd; simp; omega

theorem stops_ok {l : List Dn} {m lo hi : Int} {c : List Sp} (hp : c.Perm (clip l m lo hi)) (hso : c.Pairwise (fun x y => x.a ≤ y.a)) : Stops (isUp l m) lo hi (join c) := by
  have hm : ∀ s, s ∈ c ↔ s ∈ clip l m lo hi := fun s => hp.mem_iff
  have hne : ∀ s ∈ c, s.a < s.b := fun s hs => by
    obtain ⟨d, _, _, _, h⟩ := clip_mem.1 ((hm s).1 hs); exact h
  obtain ⟨h1, h2⟩ := join_from c [] .nil hne hso (fun x hx => by cases hx)
  have h2 : ∀ t, inSome (join c) t ↔ inSome c t := fun t => by
    refine (h2 t).trans ⟨fun h => ?_, .inr⟩
    rcases h with ⟨_, h, _⟩ | h
    · cases h
    · exact h
  have hin : ∀ t, inSome c t → lo ≤ t ∧ t < hi := by
    rintro t ⟨s, hs, ha, hb⟩
    obtain ⟨d, _, _, rfl, _⟩ := clip_mem.1 ((hm s).1 hs)
    simp at ha hb; omega
  refine ⟨h1, fun s hs => ?_, fun t hl hh => ?_⟩
  · have hlt := apart_mem h1 hs
    have ha := hin s.a ((h2 _).1 ⟨s, hs, by unfold inSp; omega⟩)
    have hb := hin (s.b - 1) ((h2 _).1 ⟨s, hs, by unfold inSp; omega⟩)
    omega
  · rw [h2, isUp_false]
    constructor
    · rintro ⟨d, hd, h3, h4, h5⟩
      refine ⟨⟨max d.f lo, min d.t hi⟩, (hm _).2 (clip_mem.2 ⟨d, hd, h3, rfl, ?_⟩), ?_⟩
      · show max d.f lo < min d.t hi; omega
      · show max d.f lo ≤ t ∧ t < min d.t hi; omega
    · rintro ⟨s, hs, ha, hb⟩
      obtain ⟨d, hd, h3, rfl, _⟩ := clip_mem.1 ((hm s).1 hs)
      simp at ha hb
      exact ⟨d, hd, h3, by omega, by omega⟩

/-- The stops from a place on: their whole length is what is down. -/
def lens (J : List Sp) : Int := (J.map fun s => s.b - s.a).sum
theorem stops_tail {p : Int → Bool} {lo hi : Int} {s : Sp} {J : List Sp} (h : Stops p lo hi (s :: J)) :
    lo ≤ s.a ∧ s.a < s.b ∧ s.b ≤ hi ∧ (∀ t, lo ≤ t → t < s.a → p t = true) ∧ (∀ t, s.a ≤ t → t < s.b → p t = false) ∧ Stops p s.b hi J := by
  obtain ⟨h1, h2, h3⟩ := h
  have hs := h2 s (by simp)
  have hlt := apart_mem h1 (List.mem_cons_self)
  have hrest : ∀ x ∈ J, s.b < x.a := (List.pairwise_cons.1 h1.2).1
  have hJ : Apart J := ⟨fun x hx => h1.1 x (by simp [hx]), (List.pairwise_cons.1 h1.2).2⟩
  refine ⟨hs.1, hlt, hs.2, fun t a b => ?_, fun t a b => ?_, hJ, fun x hx => ⟨by have := hrest x hx; omega, (h2 x (by simp [hx])).2⟩, fun t a b => ?_⟩
  · cases hp : p t with
    | true => rfl
    | false =>
      obtain ⟨x, hx, ha, hb⟩ := (h3 t a (by omega)).1 hp
      rcases List.mem_cons.1 hx with rfl | hx
      · omega
      · have := hrest x hx; omega
  · exact (h3 t (by omega) (by omega)).2 ⟨s, by simp, a, b⟩
  · rw [h3 t (by omega) b]
    constructor
    · rintro ⟨x, hx, ha, hb⟩
      rcases List.mem_cons.1 hx with rfl | hx
      · omega
      · exact ⟨x, hx, ha, hb⟩
    · rintro ⟨x, hx, h⟩; exact ⟨x, by simp [hx], h⟩
theorem stops_nil {p : Int → Bool} {lo hi : Int} (h : Stops p lo hi []) (t : Int) (a : lo ≤ t) (b : t < hi) : p t = true := by
  cases hp : p t with
  | true => rfl
  | false => obtain ⟨x, hx, _⟩ := (h.2.2 t a b).1 hp; cases hx
theorem lens_ok {p : Int → Bool} {hi : Int} (J : List Sp) : ∀ lo : Int, Stops p lo hi J → lens J = down p lo hi := by
  induction J with
  | nil =>
    intro lo h
    rw [down_up (fun t a b => stops_nil h t a b)]; rfl
  | cons s J ih =>
    intro lo h
    obtain ⟨h1, h2, h3, h4, h5, h6⟩ := stops_tail h
    rw [down_add p (b := s.a) h1 (by omega), down_add p (a := s.a) (b := s.b) (by omega) h3, down_up h4, down_down (by omega) h5, ← ih _ h6]
    show (s.b - s.a) + lens J = _
    omega
theorem stops_len {p : Int → Bool} {lo hi : Int} {J : List Sp} (h : Stops p lo hi J) : (∀ s ∈ J, lo ≤ s.a ∧ s.a < s.b ∧ s.b ≤ hi) :=
  fun s hs => ⟨(h.2.1 s hs).1, apart_mem h.1 hs, (h.2.1 s hs).2⟩

/-- The loop of Finish. -/
def work : List Sp → Int → Int → Int
  | [], at_, left => at_ + left
  | s :: J, at_, left => if left ≤ s.a - at_ then at_ + left else work J s.b (left - (s.a - at_))
theorem work_ok {p : Int → Bool} {hi : Int} (hup : ∀ t, hi ≤ t → p t = true) (J : List Sp) : ∀ at_ left : Int, 0 ≤ left → Stops p at_ hi J → Fin p at_ left (work J at_ left) := by
  induction J with
  | nil =>
    intro at_ left h0 h
    refine Fin.upto h0 fun t a b => ?_
    by_cases ht : t < hi
    · exact stops_nil h t a ht
    · exact hup t (by omega)
  | cons s J ih =>
    intro at_ left h0 h
    obtain ⟨h1, h2, h3, h4, h5, h6⟩ := stops_tail h
    unfold work
    by_cases hle : left ≤ s.a - at_
    · rw [if_pos hle]
      exact Fin.upto h0 fun t a b => h4 t a (by omega)
    · rw [if_neg hle]
      have i := ih s.b (left - (s.a - at_)) (by omega) h6
      have n0 := i.lt (by omega)
      obtain ⟨i1, i2, i3, i4⟩ := i
      generalize work J s.b (left - (s.a - at_)) = t at *
      have e1 := down_add p (a := at_) (b := s.a) (c := t) (by omega) (by omega)
      have e2 := down_add p (a := s.a) (b := s.b) (c := t) (by omega) (by omega)
      rw [down_up h4] at e1
      rw [down_down (by omega) h5] at e2
      exact ⟨by omega, by omega, fun e => by omega, fun e => i4 (by omega)⟩

theorem up_late {l : List Dn} (h : ∀ d ∈ l, okDn d = true) (m t : Int) (ht : 1073741824 ≤ t) : isUp l m t = true := by
  rw [isUp_true]
  intro d hd ⟨_, _, h2⟩
  have := h d hd
  unfold okDn at this
  simp at this
  omega
theorem fin_le {p : Int → Bool} {s n t : Int} (hup : ∀ t, 1073741824 ≤ t → p t = true) (h : Fin p s n t) (hs : s ≤ 1073741824) (hn : n ≤ 1073741824) : t ≤ 2147483648 := by
  have h' : Fin p 1073741824 1073741824 2147483648 := Fin.upto (s := 1073741824) (n := 1073741824) (by omega) fun t a _ => hup t a
  exact h.later h' hs hn fun _ _ h => h

/-! ## The reference's next boundary -/
def nx1 (m at_ lm : Int) (d : Dn) : Int := if d.m = m ∧ at_ < d.f then min lm d.f else lm
def nx2 (m at_ lm : Int) (d : Dn) : Int := if d.m = m ∧ at_ < d.t then min lm d.t else lm
def nextB (l : List Dn) (m at_ lm : Int) : Int := l.foldl (fun x d => nx2 m at_ (nx1 m at_ x d) d) lm

theorem nextB_bd (l : List Dn) (m at_ : Int) : ∀ lm : Int, at_ < lm → at_ < nextB l m at_ lm ∧ nextB l m at_ lm ≤ lm ∧
    (∀ d ∈ l, d.m = m → (at_ < d.f → nextB l m at_ lm ≤ d.f) ∧ (at_ < d.t → nextB l m at_ lm ≤ d.t)) := by
  induction l with
  | nil => intro lm h; exact ⟨h, Int.le_refl _, fun d hd => (by cases hd)⟩
  | cons d l ih =>
    intro lm h
    have h1 : at_ < nx2 m at_ (nx1 m at_ lm d) d ∧ nx2 m at_ (nx1 m at_ lm d) d ≤ lm ∧ (d.m = m → (at_ < d.f → nx2 m at_ (nx1 m at_ lm d) d ≤ d.f) ∧ (at_ < d.t → nx2 m at_ (nx1 m at_ lm d) d ≤ d.t)) := by
      unfold nx2 nx1
      repeat' split
      all_goals omega
    obtain ⟨i1, i2, i3⟩ := ih _ h1.1
    show at_ < nextB l m at_ (nx2 m at_ (nx1 m at_ lm d) d) ∧ _
    refine ⟨i1, Int.le_trans i2 h1.2.1, fun x hx => ?_⟩
    show _ → (_ → nextB l m at_ (nx2 m at_ (nx1 m at_ lm d) d) ≤ _) ∧ (_ → nextB l m at_ (nx2 m at_ (nx1 m at_ lm d) d) ≤ _)
    rcases List.mem_cons.1 hx with rfl | hx
    · intro hm
      have := h1.2.2 hm
      exact ⟨fun h => by have := this.1 h; omega, fun h => by have := this.2 h; omega⟩
    · exact i3 x hx
/-- Between two boundaries the machine is up throughout or down throughout. -/
theorem nextB_same {l : List Dn} {m at_ lm : Int} (h : at_ < lm) {t : Int} (h1 : at_ ≤ t) (h2 : t < nextB l m at_ lm) : isUp l m t = isUp l m at_ := by
  obtain ⟨_, _, hb⟩ := nextB_bd l m at_ lm h
  rw [Bool.eq_iff_iff, isUp_true, isUp_true]
  constructor
  · rintro hu d hd ⟨e, ha, hb'⟩
    have := hb d hd e
    refine hu d hd ⟨e, by omega, ?_⟩
    have := this.2 hb'; omega
  · rintro hu d hd ⟨e, ha, hb'⟩
    have hbd := hb d hd e
    by_cases hf : d.f ≤ at_
    · exact hu d hd ⟨e, hf, by omega⟩
    · have := hbd.1 (by omega); omega
theorem nextB_down {l : List Dn} {m at_ lm : Int} (h : at_ < lm) (hu : isUp l m at_ = false) : down (isUp l m) at_ (nextB l m at_ lm) = nextB l m at_ lm - at_ :=
  down_down (by have := (nextB_bd l m at_ lm h).1; omega) fun t a b => by rw [nextB_same h a b, hu]
theorem nextB_up {l : List Dn} {m at_ lm : Int} (h : at_ < lm) (hu : isUp l m at_ = true) : down (isUp l m) at_ (nextB l m at_ lm) = 0 :=
  down_up fun t a b => by rw [nextB_same h a b, hu]

theorem isUp_take_succ {l : List Dn} {k : Nat} {d : Dn} (h : l[k]? = some d) (m t : Int) : isUp (l.take (k + 1)) m t = (isUp (l.take k) m t && !covers d m t) := by
  unfold isUp; rw [List.take_add_one, h]; simp [List.all_append]
theorem all_take_succ {l : List Dn} {k : Nat} {d : Dn} (h : l[k]? = some d) (p : Dn → Bool) : (l.take (k + 1)).all p = ((l.take k).all p && p d) := by
  rw [List.take_add_one, h]; simp [List.all_append]
theorem nextB_take_succ {l : List Dn} {k : Nat} {d : Dn} (h : l[k]? = some d) (m at_ lm : Int) : nextB (l.take (k + 1)) m at_ lm = nx2 m at_ (nx1 m at_ (nextB (l.take k) m at_ lm) d) d := by
  unfold nextB; rw [List.take_add_one, h]; simp [List.foldl_append]
theorem isUp_found {l : List Dn} {k : Nat} {d : Dn} (h : l[k]? = some d) {m t : Int} (h1 : d.m = m) (h2 : d.f ≤ t) (h3 : t < d.t) : isUp l m t = false :=
  isUp_false.2 ⟨d, List.mem_of_getElem? h, h1, h2, h3⟩
theorem isUp_pass {l : List Dn} {k : Nat} {d : Dn} (h : l[k]? = some d) {m t : Int} (hu : isUp (l.take k) m t = true) (hn : ¬ (d.m = m ∧ d.f ≤ t ∧ t < d.t)) : isUp (l.take (k + 1)) m t = true := by
  rw [isUp_take_succ h, hu]; simp [covers]; omega
theorem chk_long {l : List Dn} (h : 20 < l.length) : chk l = 5 := by unfold chk; rw [if_pos h]
theorem chk_bad {l : List Dn} {k : Nat} {d : Dn} (hl : l.length ≤ 20) (h : l[k]? = some d) (hn : okDn d = false) : chk l = 3 := by
  unfold chk; rw [if_neg (by omega), if_neg]
  intro ha; rw [List.all_eq_true] at ha
  rw [ha d (List.mem_of_getElem? h)] at hn; cases hn
theorem chk_good {l : List Dn} (hl : l.length ≤ 20) (h : (l.take l.length).all okDn = true) : chk l = 0 := by
  rw [List.take_length] at h; unfold chk; rw [if_neg (by omega), if_pos h]
theorem okDn_no {d : Dn} (h : d.m < 0 ∨ 8 ≤ d.m ∨ d.f < 0 ∨ d.t ≤ d.f ∨ 1073741824 < d.t) : okDn d = false := by
  unfold okDn; simp; omega
theorem okDn_pass {l : List Dn} {k : Nat} {d : Dn} (h : l[k]? = some d) (hp : (l.take k).all okDn = true) (h1 : 0 ≤ d.m) (h2 : d.m < 8) (h3 : 0 ≤ d.f) (h4 : d.f < d.t) (h5 : d.t ≤ 1073741824) : (l.take (k + 1)).all okDn = true := by
  rw [all_take_succ h, hp]; simp [okDn]; omega

/-! ## What the functions compute -/
def insSp (s : Sp) : List Sp → List Sp
  | [] => [s]
  | x :: l => if s.a ≤ x.a then s :: x :: l else x :: insSp s l
def sortSp (l : List Sp) : List Sp := l.foldr insSp []
theorem insSp_perm (s : Sp) (l : List Sp) : (insSp s l).Perm (s :: l) := by
  induction l with
  | nil => exact List.Perm.refl _
  | cons x l ih =>
    unfold insSp
    split
    · exact List.Perm.refl _
    · exact (List.Perm.cons x ih).trans (List.Perm.swap s x l)
theorem insSp_sorted {s : Sp} {l : List Sp} (h : l.Pairwise fun x y => x.a ≤ y.a) : (insSp s l).Pairwise fun x y => x.a ≤ y.a := by
  induction l with
  | nil => exact List.pairwise_singleton _ _
  | cons x l ih =>
    rw [List.pairwise_cons] at h
    unfold insSp
    split
    · rename_i hle
      rw [List.pairwise_cons]
      refine ⟨fun y hy => ?_, List.pairwise_cons.2 h⟩
      rcases List.mem_cons.1 hy with rfl | hy
      · exact hle
      · exact Int.le_trans hle (h.1 y hy)
    · rename_i hle
      rw [List.pairwise_cons]
      refine ⟨fun y hy => ?_, ih h.2⟩
      rcases List.mem_cons.1 ((insSp_perm s l).mem_iff.1 hy) with rfl | hy
      · omega
      · exact h.1 y hy
theorem sortSp_perm (l : List Sp) : (sortSp l).Perm l := by
  induction l with
  | nil => exact List.Perm.refl _
  | cons x l ih => exact (insSp_perm x _).trans (List.Perm.cons x ih)
theorem sortSp_sorted (l : List Sp) : (sortSp l).Pairwise fun x y => x.a ≤ y.a := by
  induction l with
  | nil => exact List.Pairwise.nil
  | cons x l ih => exact insSp_sorted ih

def lostT (l : List Dn) (m a b : Int) : Int := down (isUp l m) (lim a) (lim b)
def finErr (l : List Dn) (s n : Int) : Int := if chk l ≠ 0 then chk l else if s < 0 ∨ 1073741824 < s ∨ n < 0 ∨ 1073741824 < n then 3 else 0
def finT (l : List Dn) (m s n : Int) : Int := if finErr l s n = 0 then work (join (sortSp (clip l m s 1073741824))) s n else 0

theorem finErr_zero {l : List Dn} {s n : Int} (h : finErr l s n = 0) : chk l = 0 ∧ 0 ≤ s ∧ s ≤ 1073741824 ∧ 0 ≤ n ∧ n ≤ 1073741824 := by
  unfold finErr at h
  by_cases h1 : chk l ≠ 0
  · rw [if_pos h1] at h; exact absurd h h1
  · rw [if_neg h1] at h
    by_cases h2 : s < 0 ∨ 1073741824 < s ∨ n < 0 ∨ 1073741824 < n
    · rw [if_pos h2] at h; cases h
    · exact ⟨by omega, by omega, by omega, by omega, by omega⟩
theorem finErr_mk {l : List Dn} {s n : Int} (h : chk l = 0) (h1 : 0 ≤ s) (h2 : s ≤ 1073741824) (h3 : 0 ≤ n) (h4 : n ≤ 1073741824) : finErr l s n = 0 := by
  unfold finErr; rw [if_neg (by simp [h]), if_neg (by omega)]
theorem finErr_chk {l : List Dn} {s n : Int} (h : chk l ≠ 0) : finErr l s n = chk l := by unfold finErr; rw [if_pos h]
theorem finErr_range {l : List Dn} {s n : Int} (h : chk l = 0) (h1 : s < 0 ∨ 1073741824 < s ∨ n < 0 ∨ 1073741824 < n) : finErr l s n = 3 := by
  unfold finErr; rw [if_neg (by simp [h]), if_pos h1]
theorem finT_ok {l : List Dn} {m s n : Int} (h : finErr l s n = 0) : Fin (isUp l m) s n (finT l m s n) := by
  obtain ⟨h1, h2, h3, h4, h5⟩ := finErr_zero h
  unfold finT
  rw [if_pos h]
  exact work_ok (fun t ht => up_late (chk_zero h1).2 m t ht) _ _ _ h4 (stops_ok (sortSp_perm _) (sortSp_sorted _))
theorem finT_eq {l : List Dn} {m s n t : Int} (h : finErr l s n = 0) (ht : Fin (isUp l m) s n t) : t = finT l m s n := ht.uniq (finT_ok h)
theorem finT_bad {l : List Dn} {m s n : Int} (h : finErr l s n ≠ 0) : finT l m s n = 0 := by unfold finT; rw [if_neg h]
theorem finT_le {l : List Dn} {m s n : Int} (h : finErr l s n = 0) : s ≤ finT l m s n ∧ finT l m s n ≤ 2147483648 := by
  obtain ⟨h1, h2, h3, h4, h5⟩ := finErr_zero h
  exact ⟨(finT_ok h).1, fin_le (fun t ht => up_late (chk_zero h1).2 m t ht) (finT_ok (m := m) h) h3 h5⟩

/-! ## Steps of the reference's loops -/
theorem refLost_step {l : List Dn} {m lo t hi : Int} (h1 : lo ≤ t) (h2 : t < hi) :
    down (isUp l m) lo (nextB l m t hi) = down (isUp l m) lo t + (if isUp l m t then 0 else nextB l m t hi - t) := by
  have hb := (nextB_bd l m t hi h2).1
  rw [down_add (isUp l m) h1 (b := t) (c := nextB l m t hi) (by omega)]
  by_cases hu : isUp l m t = true
  · rw [if_pos hu, nextB_up h2 hu]
  · rw [if_neg hu, nextB_down h2 (by simpa using hu)]
/-- What is left of the work at t. -/
def LeftAt (p : Int → Bool) (s n t left : Int) : Prop := s ≤ t ∧ 0 ≤ left ∧ t - s - down p s t = n - left ∧ ((left = 0) → Fin p s n t)
theorem LeftAt.start (p : Int → Bool) (s n : Int) (hn : 0 ≤ n) : LeftAt p s n s n :=
  ⟨Int.le_refl _, hn, by rw [down_none p (Int.le_refl _)]; omega, fun e => by subst e; exact Fin.zero p s⟩
theorem LeftAt.up {l : List Dn} {m s n t left : Int} (h : LeftAt (isUp l m) s n t left) (h0 : 0 < left) (hu : isUp l m t = true) :
    LeftAt (isUp l m) s n (nextB l m t (t + left)) (left - (nextB l m t (t + left) - t)) := by
  obtain ⟨h1, h2, h3, h4⟩ := h
  have hlt : t < t + left := by omega
  obtain ⟨b1, b2, _⟩ := nextB_bd l m t (t + left) hlt
  have e := refLost_step (l := l) (m := m) h1 hlt
  rw [if_pos hu] at e
  refine ⟨by omega, by omega, by omega, fun e0 => ⟨by omega, by omega, fun en => ?_, fun en => ?_⟩⟩
  · have := down_bd (isUp l m) s t h1; omega
  · rw [nextB_same hlt (t := nextB l m t (t + left) - 1) (by omega) (by omega), hu]
theorem LeftAt.down {l : List Dn} {m s n t left hi : Int} (h : LeftAt (isUp l m) s n t left) (h0 : 0 < left) (hlt : t < hi) (hu : isUp l m t = false) :
    LeftAt (isUp l m) s n (nextB l m t hi) left := by
  obtain ⟨h1, h2, h3, h4⟩ := h
  obtain ⟨b1, b2, _⟩ := nextB_bd l m t hi hlt
  have e := refLost_step (l := l) (m := m) h1 hlt
  rw [hu] at e
  simp at e
  exact ⟨by omega, by omega, by omega, fun e0 => by omega⟩
theorem down_early {l : List Dn} (h : ∀ d ∈ l, okDn d = true) {m t : Int} (hu : isUp l m t = false) : t < 1073741824 := by
  by_cases ht : 1073741824 ≤ t
  · rw [up_late h m t ht] at hu; cases hu
  · omega
/-- Work never lies behind MaxTime by more than what is left. -/
theorem LeftAt.bound {l : List Dn} {m s n t left : Int} (hl : ∀ d ∈ l, okDn d = true) (h : LeftAt (isUp l m) s n t left) (hs : s ≤ 1073741824) (hn : n ≤ 1073741824) : t + left ≤ 2147483648 := by
  obtain ⟨h1, h2, h3, h4⟩ := h
  by_cases ht : t ≤ 1073741824
  · have := down_bd (isUp l m) s t h1; omega
  · have e := down_add (isUp l m) (a := s) (b := 1073741824) (c := t) hs (by omega)
    rw [down_up (a := 1073741824) (fun u hu _ => up_late hl m u hu)] at e
    have := down_bd (isUp l m) s 1073741824 hs
    omega
end Go.Proofs.Ytelgkangojmhdaa.M
/- Walks of machine.Check, machine.Up, machine.limited and of the reference's: each computes its plain function; nothing that lay in memory is changed. -/
namespace Go.Proofs.Ytelgkangojmhdaa.M
open Go.RowKit

/-- The slice at A reads as the stops l; it lies below block B. -/
def DRd (w : World) (B : Nat) (A : Option Addr) (l : List Dn) : Prop :=
  l ≠ [] → ∃ b off, A = some ⟨b, off, none⟩ ∧ b < B ∧ ∀ i d, l[i]? = some d →
    w.cell? ⟨b, off + i * 3, none⟩ = some (.int .i64 d.m) ∧ w.cell? ⟨b, off + i * 3 + 1, none⟩ = some (.int .i64 d.f) ∧ w.cell? ⟨b, off + i * 3 + 2, none⟩ = some (.int .i64 d.t)
theorem DRd.below {w w' : World} {B : Nat} {A : Option Addr} {l : List Dn} (h : DRd w B A l) (hb : Below B w w') : DRd w' B A l := by
  intro hl
  obtain ⟨b, off, e, hB, hc⟩ := h hl
  refine ⟨b, off, e, hB, fun i d hd => ?_⟩
  obtain ⟨c0, c1, c2⟩ := hc i d hd
  exact ⟨(hb.cell (p := ⟨b, _, none⟩) hB).trans c0, (hb.cell (p := ⟨b, _, none⟩) hB).trans c1, (hb.cell (p := ⟨b, _, none⟩) hB).trans c2⟩
theorem DRd.more {w : World} {B B' : Nat} {A : Option Addr} {l : List Dn} (h : DRd w B A l) (hB : B ≤ B') : DRd w B' A l := by
  intro hl
  obtain ⟨b, off, e, hb, hc⟩ := h hl
  exact ⟨b, off, e, by omega, hc⟩
theorem DRd.at_ {w w' : World} {B : Nat} {A : Option Addr} {l : List Dn} (h : DRd w B A l) (hb : Below B w w') {k : Nat} (hk : k < l.length) :
    ∃ b off d, A = some ⟨b, off, none⟩ ∧ b < B ∧ l[k]? = some d ∧ w'.cell? ⟨b, off + k * 3, none⟩ = some (.int .i64 d.m) ∧ w'.cell? ⟨b, off + k * 3 + 1, none⟩ = some (.int .i64 d.f) ∧ w'.cell? ⟨b, off + k * 3 + 2, none⟩ = some (.int .i64 d.t) := by
  obtain ⟨b, off, e, hB, hc⟩ := (h.below hb) (by intro e; subst e; simp at hk)
  have hd : l[k]? = some l[k] := List.getElem?_eq_getElem hk
  obtain ⟨c0, c1, c2⟩ := hc k _ hd
  exact ⟨b, off, l[k], e, hB, hd, c0, c1, c2⟩

theorem ret_int {k : IntKind} {a b : Int} (h : a = b) : Ending.returned (.int k a) = .returned (.int k b) := by rw [h]
theorem int_eq {k : IntKind} {a b : Int} (h : a = b) : Value.int k a = Value.int k b := by rw [h]
theorem ret_bool {a b : Bool} (h : a = b) : Ending.returned (.bool a) = .returned (.bool b) := by rw [h]

set_option maxHeartbeats 400000 in
theorem refUp_any (A : Option Addr) (cap : Nat) (l : List Dn) (m at_ : Int) (w : World) (h : DRd w w.heap.size A l) (hn : l.length ≤ 1000) :
    Calls Try.prog 62 #[.slice A l.length cap, .int .i64 m, .int .i64 at_] w fun e w' => e = .returned (.bool (isUp l m at_)) ∧ Below w.heap.size w w' := by
  have H := Lib.hid h
  clear h
  go_enter Try.func62, Try.ntmps62
  go_wp2
  go_loopw [7] (fun i wr => ∃ k : Nat, k ≤ l.length ∧ i = .int .i64 k ∧ isUp (l.take k) m at_ = true ∧ Below w.heap.size w wr) (fun i _ => l.length - (intOf i).toNat)
  case atStart => exact ⟨0, Nat.zero_le _, rfl, rfl, Below.refl _ _⟩
  case round =>
    obtain ⟨k, hk, rfl, hu, hb⟩ := hrel
    have HU := Lib.hid hu
    clear hu
    have hsz := hb.size
    by_cases hlt : k < l.length
    · obtain ⟨b, off, d, rfl, hB, hd, c0, c1, c2⟩ := H.out.at_ hb hlt
      have HD := Lib.hid hd
      clear hd
      go_wp2
      · go_ret
        exact ⟨ret_bool (isUp_found HD.out ‹_› ‹_› ‹_›).symm, hb⟩
      all_goals
        go_roundw
        case rel => exact ⟨k + 1, by omega, by go_num, isUp_pass HD.out HU.out (by omega), hb⟩
        case measure => simp [intOf]; omega
    · go_wp2
      go_ret
      exact ⟨ret_bool (by rw [← HU.out, List.take_of_length_le (by omega)]), hb⟩

set_option maxHeartbeats 400000 in
theorem check_any (A : Option Addr) (cap : Nat) (l : List Dn) (w : World) (h : DRd w w.heap.size A l) (hn : l.length ≤ 1000) :
    Calls Try.prog 17 #[.slice A l.length cap] w fun e w' => e = .returned (.int .i64 (chk l)) ∧ Below w.heap.size w w' := by
  have H := Lib.hid h
  clear h
  by_cases hlong : 20 < l.length
  · go_enter Try.func17, Try.ntmps17
    go_wp2
    go_ret
    exact ⟨ret_int (chk_long hlong).symm, Below.refl _ _⟩
  · go_enter Try.func17, Try.ntmps17
    go_wp2
    go_loopw [4, 10] (fun _ i wr => ∃ k : Nat, k ≤ l.length ∧ i = .int .i64 k ∧ (l.take k).all okDn = true ∧ Below w.heap.size w wr) (fun _ i _ => l.length - (intOf i).toNat)
    case atStart => exact ⟨0, Nat.zero_le _, rfl, rfl, Below.refl _ _⟩
    case round =>
      obtain ⟨k, hk, rfl, hu, hb⟩ := hrel
      have HU := Lib.hid hu
      clear hu
      have hsz := hb.size
      by_cases hlt : k < l.length
      · obtain ⟨b, off, d, rfl, hB, hd, c0, c1, c2⟩ := H.out.at_ hb hlt
        have HD := Lib.hid hd
        clear hd
        by_cases hok : 0 ≤ d.m ∧ d.m < 8 ∧ 0 ≤ d.f ∧ d.f < d.t ∧ d.t ≤ 1073741824
        · obtain ⟨o1, o2, o3, o4, o5⟩ := hok
          go_wp2
          go_roundw
          case rel => exact ⟨k + 1, by omega, by go_num, okDn_pass HD.out HU.out o1 o2 o3 o4 o5, hb.alloc hsz _⟩
          case measure => simp [intOf]; omega
        · have hbad : okDn d = false := okDn_no (by omega)
          have HB := Lib.hid (chk_bad (by omega) HD.out hbad)
          clear hbad
          go_wp2
          all_goals (go_ret; exact ⟨ret_int HB.out.symm, hb.alloc hsz _⟩)
      · go_wp2
        go_ret
        exact ⟨ret_int (chk_good (by omega) (by rw [← HU.out, show l.length = k from by omega])).symm, hb⟩

set_option maxHeartbeats 400000 in
theorem refCheck_any (A : Option Addr) (cap : Nat) (l : List Dn) (w : World) (h : DRd w w.heap.size A l) (hn : l.length ≤ 1000) :
    Calls Try.prog 59 #[.slice A l.length cap] w fun e w' => e = .returned (.int .i64 (chk l)) ∧ Below w.heap.size w w' := by
  have H := Lib.hid h
  clear h
  by_cases hlong : 20 < l.length
  · go_enter Try.func59, Try.ntmps59
    go_wp2
    go_ret
    exact ⟨ret_int (chk_long hlong).symm, Below.refl _ _⟩
  · go_enter Try.func59, Try.ntmps59
    go_wp2
    go_loopw [3, 4] (fun i _ wr => ∃ k : Nat, k ≤ l.length ∧ i = .int .i64 k ∧ (l.take k).all okDn = true ∧ Below w.heap.size w wr) (fun i _ _ => l.length - (intOf i).toNat)
    case atStart => exact ⟨0, Nat.zero_le _, rfl, rfl, Below.refl _ _⟩
    case round =>
      obtain ⟨k, hk, rfl, hu, hb⟩ := hrel
      have HU := Lib.hid hu
      clear hu
      have hsz := hb.size
      by_cases hlt : k < l.length
      · obtain ⟨b, off, d, rfl, hB, hd, c0, c1, c2⟩ := H.out.at_ hb hlt
        have HD := Lib.hid hd
        clear hd
        by_cases hok : 0 ≤ d.m ∧ d.m < 8 ∧ 0 ≤ d.f ∧ d.f < d.t ∧ d.t ≤ 1073741824
        · obtain ⟨o1, o2, o3, o4, o5⟩ := hok
          go_wp2
          go_roundw
          case rel => exact ⟨k + 1, by omega, by go_num, okDn_pass HD.out HU.out o1 o2 o3 o4 o5, hb.alloc hsz _⟩
          case measure => simp [intOf]; omega
        · have hbad : okDn d = false := okDn_no (by omega)
          have HB := Lib.hid (chk_bad (by omega) HD.out hbad)
          clear hbad
          go_wp2
          all_goals (go_ret; exact ⟨ret_int HB.out.symm, hb.alloc hsz _⟩)
      · go_wp2
        go_ret
        exact ⟨ret_int (chk_good (by omega) (by rw [← HU.out, show l.length = k from by omega])).symm, hb⟩

set_option maxHeartbeats 400000 in
theorem next_any (A : Option Addr) (cap : Nat) (l : List Dn) (m at_ lm : Int) (w : World) (h : DRd w w.heap.size A l) (hn : l.length ≤ 1000) :
    Calls Try.prog 61 #[.slice A l.length cap, .int .i64 m, .int .i64 at_, .int .i64 lm] w fun e w' => e = .returned (.int .i64 (nextB l m at_ lm)) ∧ Below w.heap.size w w' := by
  have H := Lib.hid h
  clear h
  go_enter Try.func61, Try.ntmps61
  go_wp2
  go_loopw [3, 9] (fun x i wr => ∃ k : Nat, k ≤ l.length ∧ i = .int .i64 k ∧ x = .int .i64 (nextB (l.take k) m at_ lm) ∧ Below w.heap.size w wr) (fun _ i _ => l.length - (intOf i).toNat)
  case atStart => exact ⟨0, Nat.zero_le _, rfl, rfl, Below.refl _ _⟩
  case round =>
    obtain ⟨k, hk, rfl, rfl, hb⟩ := hrel
    have hsz := hb.size
    by_cases hlt : k < l.length
    · obtain ⟨b, off, d, rfl, hB, hd, c0, c1, c2⟩ := H.out.at_ hb hlt
      have HN := Lib.hid (nextB_take_succ hd m at_ lm)
      clear hd
      generalize nextB (l.take k) m at_ lm = x at *
      by_cases hm : d.m = m
      · have hmb : ((d.m : Int) == m) = true := by simp [hm]
        by_cases h1 : at_ < d.f <;> by_cases h2 : at_ < d.t
        all_goals
          have HX : Hid (nextB (l.take (k + 1)) m at_ lm = nx2 m at_ (nx1 m at_ x d) d) := HN
          simp only [nx2, nx1, hm, h1, h2, true_and, if_true, if_false] at HX
          have HM := Lib.hid hm
          clear hm
          go_wp2
          go_roundw
          case rel => exact ⟨k + 1, by omega, by go_num, int_eq (by have := HX.out; omega), hb⟩
          case measure => simp [intOf]; omega
      · have hmb : ((d.m : Int) == m) = false := by simp [hm]
        go_wp2
        go_roundw
        case rel => exact ⟨k + 1, by omega, by go_num, by rw [HN.out]; simp [nx1, nx2, hm], hb⟩
        case measure => simp [intOf]; omega
    · go_wp2
      go_ret
      exact ⟨ret_int (by rw [List.take_of_length_le (by omega)]), hb⟩
end Go.Proofs.Ytelgkangojmhdaa.M
/- Walks of the reference's Lost and Finish: each computes its plain function; nothing that lay in memory is changed. -/
namespace Go.Proofs.Ytelgkangojmhdaa.M
open Go.RowKit

theorem lim_bd (t : Int) : 0 ≤ lim t ∧ lim t ≤ 1073741824 := by unfold lim; omega
theorem ret_two {k k' : IntKind} {a b a' b' : Int} (h : a = a') (h' : b = b') : Ending.returned (.tuple #[.int k a, .int k' b]) = .returned (.tuple #[.int k a', .int k' b']) := by rw [h, h']

set_option maxHeartbeats 1000000 in
theorem refFinish_any (A : Option Addr) (cap : Nat) (l : List Dn) (m s n : Int) (w : World) (h : DRd w w.heap.size A l) (hn : l.length ≤ 1000) :
    Calls Try.prog 37 #[.slice A l.length cap, .int .i64 m, .int .i64 s, .int .i64 n] w fun e w' => e = .returned (.tuple #[.int .i64 (finT l m s n), .int .i64 (finErr l s n)]) ∧ Below w.heap.size w w' := by
  have H := Lib.hid h
  clear h
  by_cases hc : chk l = 0
  · by_cases hr : s < 0 ∨ 1073741824 < s ∨ n < 0 ∨ 1073741824 < n
    · have HE := Lib.hid (finErr_range hc hr)
      have HT := Lib.hid (finT_bad (m := m) (show finErr l s n ≠ 0 from by rw [HE.out]; omega))
      have HC := Lib.hid hc
      clear hc
      go_enter Try.func37, Try.ntmps37
      go_wp2_with fail
      ((with_reducible refine (refCheck_any A cap l _ H.out hn).mono ?_); rintro e w1 ⟨rfl, hb1⟩)
      rw [HC.out]
      go_wp2
      all_goals
        go_ret2
        exact ⟨ret_two HT.out.symm HE.out.symm, hb1⟩
    · have HE := Lib.hid (finErr_mk (n := n) (s := s) hc (by omega) (by omega) (by omega) (by omega))
      have HL := Lib.hid (chk_zero hc).2
      have HC := Lib.hid hc
      clear hc
      have r1 : 0 ≤ s := by omega
      have r2 : s ≤ 1073741824 := by omega
      have r3 : 0 ≤ n := by omega
      have r4 : n ≤ 1073741824 := by omega
      clear hr
      go_enter Try.func37, Try.ntmps37
      go_wp2_with fail
      ((with_reducible refine (refCheck_any A cap l _ H.out hn).mono ?_); rintro e w1 ⟨rfl, hb1⟩)
      rw [HC.out]
      go_wp2_with fail
      go_loopw [3, 11, 12] (fun x t _ wr => ∃ left u : Int, LeftAt (isUp l m) s n u left ∧ x = .int .i64 left ∧ t = .int .i64 u ∧ Below w.heap.size w wr) (fun x t _ _ => (intOf x + (4294967296 - intOf t)).toNat)
      case atStart => exact ⟨n, s, LeftAt.start _ _ _ r3, rfl, rfl, hb1⟩
      case round =>
        obtain ⟨left, u, hL, rfl, rfl, hb⟩ := hrel
        have hsz := hb.size
        have hbd := hL.bound HL.out r2 r4
        have hl0 := hL.2.1
        have hu0 := hL.1
        have HLA := Lib.hid hL
        clear hL
        by_cases hlt : 0 < left
        · have HR := Lib.hid ((H.out.below hb).more hsz)
          obtain ⟨n1, n2, _⟩ := nextB_bd l m u (u + left) (by omega)
          go_wp2_with fail
          ((with_reducible refine (next_any A cap l m u (u + left) _ HR.out hn).mono ?_); rintro e w2 ⟨rfl, hb2⟩)
          have hsz2 := hb2.size
          have HR2 := Lib.hid ((HR.out.below hb2).more hsz2)
          have hb3 : Below w.heap.size w w2 := hb.trans (hb2.mono (by omega))
          by_cases hup : isUp l m u = true
          · have HN := Lib.hid (HLA.out.up hlt hup)
            generalize nextB l m u (u + left) = x at *
            go_wp2_with fail
            ((with_reducible refine (refUp_any A cap l m u _ HR2.out hn).mono ?_); rintro e w3 ⟨rfl, hb4⟩)
            have hb5 : Below w.heap.size w w3 := hb3.trans (hb4.mono (by omega))
            go_wp2
            go_roundw
            case rel => exact ⟨_, x, HN.out, rfl, rfl, hb5⟩
            case measure => simp [intOf]; omega
          · have hup' : isUp l m u = false := by simpa using hup
            have hlate := down_early HL.out hup'
            have HN := Lib.hid (HLA.out.down (hi := 2147483648) hlt (by omega) hup')
            obtain ⟨n3, n4, _⟩ := nextB_bd l m u 2147483648 (by omega)
            generalize nextB l m u (u + left) = x at *
            clear hup
            go_wp2_with fail
            ((with_reducible refine (refUp_any A cap l m u _ HR2.out hn).mono ?_); rintro e w3 ⟨rfl, hb4⟩)
            have hb5 : Below w.heap.size w w3 := hb3.trans (hb4.mono (by omega))
            have hsz4 := hb4.size
            have HR3 := Lib.hid ((HR2.out.below hb4).more hsz4)
            go_wp2_with fail
            ((with_reducible refine (next_any A cap l m u 2147483648 _ HR3.out hn).mono ?_); rintro e w4 ⟨rfl, hb6⟩)
            have hb7 : Below w.heap.size w w4 := hb5.trans (hb6.mono (by omega))
            go_wp2
            go_roundw
            case rel => exact ⟨left, _, HN.out, rfl, rfl, hb7⟩
            case measure => simp [intOf]; omega
        · go_wp2
          go_ret2
          refine ⟨ret_two (finT_eq HE.out (HLA.out.2.2.2 (by omega))) HE.out.symm, hb⟩
  · have HE := Lib.hid (finErr_chk (s := s) (n := n) hc)
    have HT := Lib.hid (finT_bad (m := m) (show finErr l s n ≠ 0 from by rw [HE.out]; exact hc))
    have hcb : (chk l != 0) = true := by simpa using hc
    clear hc
    go_enter Try.func37, Try.ntmps37
    go_wp2_with fail
    ((with_reducible refine (refCheck_any A cap l _ H.out hn).mono ?_); rintro e w1 ⟨rfl, hb1⟩)
    go_wp2
    go_ret2
    exact ⟨ret_two HT.out.symm HE.out.symm, hb1⟩
end Go.Proofs.Ytelgkangojmhdaa.M
