/- Plain laws of the flow of bundles: the common errors, the earliest beginning, the next task, the simulation. No program in sight. -/
import Derived.Test.YtelgkangojmhdaaG3
import Derived.Test.YtelgkangojmhdaaG5
namespace Go.Proofs.Ytelgkangojmhdaa

structure Bn where
  tk : Int
  gm : Int
  sz : Int
  lot : Int
  fr : Int
  tp : Int
def bn0 : Bn := ⟨0, 0, 0, 0, 0, 0⟩
structure Tsk where
  tk : Int
  op : Int
  st : Int
  a : Int
  b : Int

/-! ## The common errors -/
def bnBad (b : Bn) : Bool := decide (b.tp ≤ b.fr ∨ 40 < b.tp - b.fr)
def tkEq (k : Int) (b : Bn) : Bool := decide (b.tk = k)
def bnErr (bs : List Bn) (i : Nat) : Int := if bnBad (bs.getD i bn0) = true then 3 else if (bs.take i).any (tkEq (bs.getD i bn0).tk) = true then 7 else 0
def bnUpto (bs : List Bn) : Nat → Int
  | 0 => 0
  | k + 1 => if bnUpto bs k ≠ 0 then bnUpto bs k else bnErr bs k
def comErr (l : List Opn) (ss : List (List Int)) (bs : List Bn) (ds : List M.Dn) : Int :=
  if ordErr l ≠ 0 then ordErr l else if chkErr l 1000000 ss ≠ 0 then chkErr l 1000000 ss
  else if 60 < bs.length then 5 else if bnUpto bs bs.length ≠ 0 then bnUpto bs bs.length else M.chk ds
theorem bnUpto_stop {bs : List Bn} {k : Nat} (h : bnUpto bs k = 0) (he : bnErr bs k ≠ 0) : ∀ n, k < n → bnUpto bs n = bnErr bs k := by
  intro n hn
  induction n with
  | zero => omega
  | succ n ih =>
    by_cases hk : k = n
    · subst hk; unfold bnUpto; rw [if_neg (by simp [h])]
    · have := ih (by omega)
      unfold bnUpto
      rw [if_pos (by rw [this]; exact he), this]
theorem bnUpto_go {bs : List Bn} {k : Nat} (h : bnUpto bs k = 0) (he : bnErr bs k = 0) : bnUpto bs (k + 1) = 0 := by
  unfold bnUpto; rw [if_neg (by simp [h]), he]
theorem bnUpto_zero {bs : List Bn} {n : Nat} (h : bnUpto bs n = 0) : ∀ k, k < n → bnErr bs k = 0 := by
  induction n with
  | zero => intro k hk; omega
  | succ n ih =>
    intro k hk
    unfold bnUpto at h
    by_cases h0 : bnUpto bs n ≠ 0
    · rw [if_pos h0] at h; exact absurd h h0
    · rw [if_neg h0] at h
      by_cases hkn : k = n
      · subst hkn; exact h
      · exact ih (by omega) k (by omega)
theorem bgetD {bs : List Bn} {i : Nat} {b : Bn} (h : bs[i]? = some b) : bs.getD i bn0 = b := by rw [List.getD_eq_getElem?_getD, h]; rfl
theorem bnErr_range {bs : List Bn} {i : Nat} {b : Bn} (h : bs[i]? = some b) (hb : bnBad b = true) : bnErr bs i = 3 := by unfold bnErr; rw [bgetD h, if_pos hb]
theorem bnErr_twice {bs : List Bn} {i : Nat} {b : Bn} (h : bs[i]? = some b) (hb : bnBad b = false) (ht : (bs.take i).any (tkEq b.tk) = true) : bnErr bs i = 7 := by
  unfold bnErr; rw [bgetD h, if_neg (by simp [hb]), if_pos ht]
theorem bnErr_ok {bs : List Bn} {i : Nat} {b : Bn} (h : bs[i]? = some b) (hb : bnBad b = false) (ht : (bs.take i).any (tkEq b.tk) = false) : bnErr bs i = 0 := by
  unfold bnErr; rw [bgetD h, if_neg (by simp [hb]), if_neg (by simp [ht])]
/-- What bundles without an error are. -/
structure BnOk (bs : List Bn) : Prop where
  len : bs.length ≤ 60
  pl : ∀ b ∈ bs, 1 ≤ b.tp - b.fr ∧ b.tp - b.fr ≤ 40
  nd : (bs.map Bn.tk).Nodup
theorem bnOk_of {bs : List Bn} (hl : bs.length ≤ 60) (h : bnUpto bs bs.length = 0) : BnOk bs := by
  have hz := bnUpto_zero h
  have key : ∀ i b, bs[i]? = some b → bnBad b = false ∧ (bs.take i).any (tkEq b.tk) = false := by
    intro i b hb
    have hi := (List.getElem?_eq_some_iff.1 hb).1
    have := hz i hi
    unfold bnErr at this
    rw [bgetD hb] at this
    by_cases h1 : bnBad b = true
    · rw [if_pos h1] at this; cases this
    · rw [if_neg h1] at this
      by_cases h2 : (bs.take i).any (tkEq b.tk) = true
      · rw [if_pos h2] at this; cases this
      · exact ⟨by simpa using h1, by simpa using h2⟩
  refine ⟨hl, fun b hb => ?_, ?_⟩
  · obtain ⟨i, hi, e⟩ := List.getElem_of_mem hb
    have := (key i b (by rw [List.getElem?_eq_getElem hi, e])).1
    unfold bnBad at this
    simp at this
    omega
  · unfold List.Nodup
    rw [List.pairwise_map, List.pairwise_iff_getElem]
    intro i j hi hj hij e
    have := (key j _ (List.getElem?_eq_getElem hj)).2
    rw [List.any_eq_false] at this
    refine this bs[i] ?_ (by unfold tkEq; simpa using e)
    rw [List.mem_take_iff_getElem]
    exact ⟨i, by omega, rfl⟩
theorem com_ord {l : List Opn} {ss : List (List Int)} {bs : List Bn} {ds : List M.Dn} (h : ordErr l ≠ 0) : comErr l ss bs ds = ordErr l := by unfold comErr; rw [if_pos h]
theorem com_chk {l : List Opn} {ss : List (List Int)} {bs : List Bn} {ds : List M.Dn} (h : ordErr l = 0) (h1 : chkErr l 1000000 ss ≠ 0) : comErr l ss bs ds = chkErr l 1000000 ss := by unfold comErr; rw [if_neg (by simp [h]), if_pos h1]
theorem com_long {l : List Opn} {ss : List (List Int)} {bs : List Bn} {ds : List M.Dn} (h : ordErr l = 0) (h1 : chkErr l 1000000 ss = 0) (h2 : 60 < bs.length) : comErr l ss bs ds = 5 := by
  unfold comErr; rw [if_neg (by simp [h]), if_neg (by simp [h1]), if_pos h2]
theorem com_bn {l : List Opn} {ss : List (List Int)} {bs : List Bn} {ds : List M.Dn} {x : Int} (h : ordErr l = 0) (h1 : chkErr l 1000000 ss = 0) (h2 : bs.length ≤ 60) (h3 : bnUpto bs bs.length = x) (hx : x ≠ 0) : comErr l ss bs ds = x := by
  unfold comErr; rw [if_neg (by simp [h]), if_neg (by simp [h1]), if_neg (by omega), h3, if_pos hx]
theorem com_down {l : List Opn} {ss : List (List Int)} {bs : List Bn} {ds : List M.Dn} (h : ordErr l = 0) (h1 : chkErr l 1000000 ss = 0) (h2 : bs.length ≤ 60) (h3 : bnUpto bs bs.length = 0) : comErr l ss bs ds = M.chk ds := by
  unfold comErr; rw [if_neg (by simp [h]), if_neg (by simp [h1]), if_neg (by omega), if_neg (by simp [h3])]
theorem com_zero {l : List Opn} {ss : List (List Int)} {bs : List Bn} {ds : List M.Dn} (h : comErr l ss bs ds = 0) : ordErr l = 0 ∧ chkErr l 1000000 ss = 0 ∧ BnOk bs ∧ M.chk ds = 0 := by
  unfold comErr at h
  by_cases h1 : ordErr l ≠ 0
  · rw [if_pos h1] at h; exact absurd h h1
  · rw [if_neg h1] at h
    by_cases h2 : chkErr l 1000000 ss ≠ 0
    · rw [if_pos h2] at h; exact absurd h h2
    · rw [if_neg h2] at h
      by_cases h3 : 60 < bs.length
      · rw [if_pos h3] at h; cases h
      · rw [if_neg h3] at h
        by_cases h4 : bnUpto bs bs.length ≠ 0
        · rw [if_pos h4] at h; exact absurd h h4
        · rw [if_neg h4] at h
          exact ⟨by simpa using h1, by simpa using h2, bnOk_of (by omega) (by simpa using h4), h⟩

/-! ## The earliest beginning -/
def isTk (k o : Int) (t : Tsk) : Bool := decide (t.tk = k ∧ t.op = o)
def fnd (ts : List Tsk) (k o : Int) : Option Tsk := ts.find? (isTk k o)
/-- The greatest end of the tasks of a station. -/
def busyOf (ts : List Tsk) (s : Int) : Int := ts.foldl (fun m t => if t.st = s then max m t.b else m) 0
/-- The greatest end of the tasks of the operations before, if all have one. -/
def aftMax (ts : List Tsk) (k : Int) : List Int → Int → Option Int
  | [], m => some m
  | a :: r, m => match fnd ts k a with
    | none => none
    | some t => aftMax ts k r (max m t.b)
def erl (l : List Opn) (at_ : List Int) (ts : List Tsk) (k : Int) (o : Nat) : Option Int :=
  match fnd ts k o with
  | some _ => none
  | none => aftMax ts k (af l o) (busyOf ts (at_.getD o 0))
theorem busyOf_snoc (ts : List Tsk) (t : Tsk) (s : Int) : busyOf (ts ++ [t]) s = if t.st = s then max (busyOf ts s) t.b else busyOf ts s := by
  unfold busyOf; rw [List.foldl_append]; rfl
theorem busyOf_nonneg (s : Int) : ∀ ts : List Tsk, 0 ≤ busyOf ts s := by
  refine snoc_ind ?_ ?_
  · exact Int.le_refl _
  · intro ts t ih; rw [busyOf_snoc]; split <;> omega
theorem busyOf_mem {s : Int} : ∀ {ts : List Tsk} {t : Tsk}, t ∈ ts → t.st = s → t.b ≤ busyOf ts s := by
  have key : ∀ ts : List Tsk, ∀ t ∈ ts, t.st = s → t.b ≤ busyOf ts s := by
    refine snoc_ind ?_ ?_
    · intro t h; cases h
    · intro ts u ih t ht hs
      rw [busyOf_snoc]
      rcases List.mem_append.1 ht with h | h
      · have := ih t h hs; split <;> omega
      · simp at h; subst h; rw [if_pos hs]; omega
  exact fun {ts t} => key ts t
theorem busyOf_is (s : Int) : ∀ ts : List Tsk, busyOf ts s = 0 ∨ ∃ t ∈ ts, t.st = s ∧ t.b = busyOf ts s := by
  refine snoc_ind ?_ ?_
  · exact .inl rfl
  · intro ts u ih
    rw [busyOf_snoc]
    by_cases hs : u.st = s
    · rw [if_pos hs]
      by_cases h : busyOf ts s ≤ u.b
      · exact .inr ⟨u, by simp, hs, by omega⟩
      · rw [show max (busyOf ts s) u.b = busyOf ts s from by omega]
        rcases ih with h1 | ⟨t, h1, h2, h3⟩
        · exact .inl h1
        · exact .inr ⟨t, by simp [h1], h2, h3⟩
    · rw [if_neg hs]
      rcases ih with h1 | ⟨t, h1, h2, h3⟩
      · exact .inl h1
      · exact .inr ⟨t, by simp [h1], h2, h3⟩
theorem fnd_some {ts : List Tsk} {k o : Int} {t : Tsk} (h : fnd ts k o = some t) : t ∈ ts ∧ t.tk = k ∧ t.op = o := by
  unfold fnd at h
  have h1 := List.mem_of_find?_eq_some h
  have h2 := List.find?_some h
  unfold isTk at h2
  simp at h2
  exact ⟨h1, h2.1, h2.2⟩
theorem fnd_none {ts : List Tsk} {k o : Int} : fnd ts k o = none ↔ ∀ t ∈ ts, ¬ (t.tk = k ∧ t.op = o) := by
  unfold fnd
  rw [List.find?_eq_none]
  constructor
  · intro h t ht e; have := h t ht; unfold isTk at this; simp at this; exact this e.1 e.2
  · intro h t ht; unfold isTk; simp only [decide_eq_true_eq]; exact h t ht
theorem fnd_snoc (ts : List Tsk) (t : Tsk) (k o : Int) : fnd (ts ++ [t]) k o = match fnd ts k o with | some u => some u | none => if t.tk = k ∧ t.op = o then some t else none := by
  unfold fnd
  rw [List.find?_append]
  cases h : ts.find? (isTk k o) with
  | some u => rfl
  | none =>
    simp only [Option.none_or]
    by_cases e : t.tk = k ∧ t.op = o
    · rw [if_pos e, List.find?_cons_of_pos (by unfold isTk; simpa using e)]
    · rw [if_neg e, List.find?_cons_of_neg (by unfold isTk; simpa using e)]; rfl
theorem aftMax_take {ts : List Tsk} {k : Int} : ∀ {q : List Int} {m v : Int}, aftMax ts k q m = some v → m ≤ v ∧ (∀ a ∈ q, ∃ t, fnd ts k a = some t ∧ t.b ≤ v) ∧ (v = m ∨ ∃ a ∈ q, ∃ t, fnd ts k a = some t ∧ t.b = v) := by
  intro q
  induction q with
  | nil => intro m v h; cases h; exact ⟨Int.le_refl _, fun _ h => (by cases h), .inl rfl⟩
  | cons x q ih =>
    intro m v h
    unfold aftMax at h
    cases hf : fnd ts k x with
    | none => rw [hf] at h; cases h
    | some t =>
      rw [hf] at h
      obtain ⟨h1, h2, h3⟩ := ih h
      refine ⟨by omega, fun a ha => ?_, ?_⟩
      · rcases List.mem_cons.1 ha with rfl | ha
        · exact ⟨t, hf, by omega⟩
        · exact h2 a ha
      · rcases h3 with h3 | ⟨a, ha, u, h4, h5⟩
        · by_cases e : m ≤ t.b
          · exact .inr ⟨x, by simp, t, hf, by omega⟩
          · exact .inl (by omega)
        · exact .inr ⟨a, by simp [ha], u, h4, h5⟩
theorem aftMax_all {ts : List Tsk} {k : Int} : ∀ {q : List Int} {m : Int}, (∀ a ∈ q, fnd ts k a ≠ none) → ∃ v, aftMax ts k q m = some v := by
  intro q
  induction q with
  | nil => intro m _; exact ⟨m, rfl⟩
  | cons x q ih =>
    intro m h
    unfold aftMax
    cases hf : fnd ts k x with
    | none => exact absurd hf (h x (by simp))
    | some t => exact ih fun a ha => h a (by simp [ha])
theorem aftMax_none {ts : List Tsk} {k a : Int} : ∀ {q : List Int} {m : Int}, a ∈ q → fnd ts k a = none → aftMax ts k q m = none := by
  intro q
  induction q with
  | nil => intro m h; cases h
  | cons x q ih =>
    intro m h hn
    unfold aftMax
    cases hf : fnd ts k x with
    | none => rfl
    | some t =>
      rcases List.mem_cons.1 h with rfl | h
      · rw [hn] at hf; cases hf
      · exact ih h hn
theorem aftMax_append {ts : List Tsk} {k : Int} (p q : List Int) (m : Int) : aftMax ts k (p ++ q) m = match aftMax ts k p m with | none => none | some v => aftMax ts k q v := by
  induction p generalizing m with
  | nil => rfl
  | cons x p ih =>
    simp only [List.cons_append, aftMax]
    cases fnd ts k x with
    | none => rfl
    | some t => exact ih _
theorem erl_some {l : List Opn} {at_ : List Int} {ts : List Tsk} {k : Int} {o : Nat} {s : Int} (h : erl l at_ ts k o = some s) :
    fnd ts k o = none ∧ busyOf ts (at_.getD o 0) ≤ s ∧ (∀ a ∈ af l o, ∃ t, fnd ts k a = some t ∧ t.b ≤ s) ∧ (s = busyOf ts (at_.getD o 0) ∨ ∃ a ∈ af l o, ∃ t, fnd ts k a = some t ∧ t.b = s) := by
  unfold erl at h
  cases hf : fnd ts k o with
  | some t => rw [hf] at h; cases h
  | none =>
    rw [hf] at h
    obtain ⟨h1, h2, h3⟩ := aftMax_take h
    exact ⟨rfl, h1, h2, h3⟩

/-! ## The next task -/
/-- One pair more, in the program's order. -/
def upd (x : Option (Nat × Nat × Int)) (b o : Nat) (e : Option Int) : Option (Nat × Nat × Int) :=
  match e with
  | none => x
  | some s => match x with
    | none => some (b, o, s)
    | some y => if s < y.2.2 then some (b, o, s) else x
def scanO (f : Nat → Nat → Option Int) (b : Nat) (x : Option (Nat × Nat × Int)) : Nat → Option (Nat × Nat × Int)
  | 0 => x
  | k + 1 => upd (scanO f b x k) b k (f b k)
def scanB (f : Nat → Nat → Option Int) (n : Nat) : Nat → Option (Nat × Nat × Int)
  | 0 => none
  | b + 1 => scanO f b (scanB f n b) n
/-- The first of the pairs with the least beginning. -/
def IsBest (f : Nat → Nat → Option Int) (P : Nat → Nat → Prop) (x : Option (Nat × Nat × Int)) : Prop :=
  (x = none → ∀ b o, P b o → f b o = none) ∧ ∀ b o s, x = some (b, o, s) → P b o ∧ f b o = some s ∧ ∀ b' o' s', P b' o' → f b' o' = some s' → s < s' ∨ (s = s' ∧ (b < b' ∨ (b = b' ∧ o ≤ o')))
theorem isBest_upd {f : Nat → Nat → Option Int} {P : Nat → Nat → Prop} {x : Option (Nat × Nat × Int)} {b o : Nat} (h : IsBest f P x) (hP : ∀ b' o', P b' o' → b' < b ∨ (b' = b ∧ o' < o)) :
    IsBest f (fun b' o' => P b' o' ∨ (b' = b ∧ o' = o)) (upd x b o (f b o)) := by
  unfold upd
  cases hf : f b o with
  | none =>
    refine ⟨fun hx b' o' hp => ?_, fun b' o' s hx => ?_⟩
    · rcases hp with hp | ⟨rfl, rfl⟩
      · exact h.1 hx b' o' hp
      · exact hf
    · obtain ⟨h1, h2, h3⟩ := h.2 b' o' s hx
      refine ⟨.inl h1, h2, fun b2 o2 s2 hp hs => ?_⟩
      rcases hp with hp | ⟨rfl, rfl⟩
      · exact h3 b2 o2 s2 hp hs
      · rw [hf] at hs; cases hs
  | some s =>
    cases hx : x with
    | none =>
      simp only
      refine ⟨fun h => (by cases h), fun b' o' s' he => ?_⟩
      cases he
      refine ⟨.inr ⟨rfl, rfl⟩, hf, fun b2 o2 s2 hp hs => ?_⟩
      rcases hp with hp | ⟨rfl, rfl⟩
      · rw [h.1 hx b2 o2 hp] at hs; cases hs
      · rw [hf] at hs; cases hs; exact .inr ⟨rfl, .inr ⟨rfl, Nat.le_refl _⟩⟩
    | some y =>
      obtain ⟨yb, yo, ys⟩ := y
      obtain ⟨h1, h2, h3⟩ := h.2 yb yo ys hx
      simp only
      by_cases hlt : s < ys
      · rw [if_pos hlt]
        refine ⟨fun h => (by cases h), fun b' o' s' he => ?_⟩
        cases he
        refine ⟨.inr ⟨rfl, rfl⟩, hf, fun b2 o2 s2 hp hs => ?_⟩
        rcases hp with hp | ⟨rfl, rfl⟩
        · rcases h3 b2 o2 s2 hp hs with h4 | ⟨h4, _⟩ <;> exact .inl (by omega)
        · rw [hf] at hs; cases hs; exact .inr ⟨rfl, .inr ⟨rfl, Nat.le_refl _⟩⟩
      · rw [if_neg hlt]
        refine ⟨fun h => (by cases h), fun b' o' s' he => ?_⟩
        cases he
        refine ⟨.inl h1, h2, fun b2 o2 s2 hp hs => ?_⟩
        rcases hp with hp | ⟨rfl, rfl⟩
        · exact h3 b2 o2 s2 hp hs
        · rw [hf] at hs; cases hs
          by_cases e : ys < s
          · exact .inl e
          · refine .inr ⟨by omega, ?_⟩
            rcases hP yb yo h1 with h4 | ⟨h4, h5⟩
            · exact .inl h4
            · exact .inr ⟨h4, by omega⟩
theorem isBest_ext {f : Nat → Nat → Option Int} {P Q : Nat → Nat → Prop} {x : Option (Nat × Nat × Int)} (h : IsBest f P x) (e : ∀ b o, Q b o ↔ P b o) : IsBest f Q x :=
  ⟨fun hx b o hp => h.1 hx b o ((e b o).1 hp), fun b o s hx => by
    obtain ⟨h1, h2, h3⟩ := h.2 b o s hx
    exact ⟨(e b o).2 h1, h2, fun b' o' s' hp hs => h3 b' o' s' ((e b' o').1 hp) hs⟩⟩
theorem scan_best (f : Nat → Nat → Option Int) (n : Nat) : ∀ m, IsBest f (fun b o => b < m ∧ o < n) (scanB f n m) := by
  intro m
  induction m with
  | zero => exact ⟨fun _ b o h => absurd h.1 (by omega), fun b o s h => (by cases h)⟩
  | succ m ih =>
    have key : ∀ k, k ≤ n → IsBest f (fun b o => (b < m ∧ o < n) ∨ (b = m ∧ o < k)) (scanO f m (scanB f n m) k) := by
      intro k
      induction k with
      | zero => intro _; exact isBest_ext ih fun b o => ⟨fun h => h.elim id fun h => absurd h.2 (by omega), .inl⟩
      | succ k ihk =>
        intro hk
        refine isBest_ext (isBest_upd (ihk (by omega)) fun b' o' h => ?_) fun b o => ?_
        · rcases h with h | h
          · exact .inl h.1
          · exact .inr h
        · constructor
          · rintro (h | ⟨h1, h2⟩)
            · exact .inl (.inl h)
            · by_cases e : o = k
              · exact .inr ⟨h1, e⟩
              · exact .inl (.inr ⟨h1, by omega⟩)
          · rintro ((h | h) | h)
            · exact .inl h
            · exact .inr ⟨h.1, by omega⟩
            · exact .inr ⟨h.1, by omega⟩
    refine isBest_ext (key n (Nat.le_refl _)) fun b o => ⟨fun h => ?_, fun h => ?_⟩
    · by_cases e : b = m
      · exact .inr ⟨e, h.2⟩
      · exact .inl ⟨by omega, h.2⟩
    · rcases h with h | h
      · exact ⟨by omega, h.2⟩
      · exact ⟨by omega, h.2⟩
/-- The next pair of the simulation over the bundles sb, which are in order. -/
def pickP (l : List Opn) (at_ : List Int) (sb : List Bn) (ts : List Tsk) : Option (Nat × Nat × Int) := scanB (fun b o => erl l at_ ts (sb.getD b bn0).tk o) l.length sb.length

/-! ## The simulation -/
def wk (l : List Opn) (b : Bn) (o : Nat) : Int := mn l o * (b.tp - b.fr)
def mc (l : List Opn) (o : Nat) : Int := (l.getD o op0).mach
def tskOf (l : List Opn) (at_ : List Int) (ds : List M.Dn) (b : Bn) (o : Nat) (s : Int) : Tsk := ⟨b.tk, o, at_.getD o 0, s, M.finT ds (mc l o) s (wk l b o)⟩
def simR (l : List Opn) (at_ : List Int) (ds : List M.Dn) (sb : List Bn) : Nat → List Tsk → Int × List Tsk
  | 0, ts => (0, ts)
  | f + 1, ts => match pickP l at_ sb ts with
    | none => (0, ts)
    | some (b, o, s) =>
      if M.finErr ds s (wk l (sb.getD b bn0) o) ≠ 0 then (M.finErr ds s (wk l (sb.getD b bn0) o), [])
      else if 1073741824 < (tskOf l at_ ds (sb.getD b bn0) o s).b then (3, [])
      else simR l at_ ds sb f (ts ++ [tskOf l at_ ds (sb.getD b bn0) o s])
end Go.Proofs.Ytelgkangojmhdaa
