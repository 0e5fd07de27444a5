/- Plain laws of operations and their order. No program in sight. -/
namespace Go.Proofs.Ytlbkfphepneflaa

structure Opn where
  name : ByteArray
  mach : Int
  mins : Int
  after : List Int
  uses : List Int
def op0 : Opn := ⟨ByteArray.empty, 0, 0, [], []⟩

def letter (c : UInt8) : Bool := decide (97 ≤ c.toNat ∧ c.toNat ≤ 122)
def further (c : UInt8) : Bool := decide ((48 ≤ c.toNat ∧ c.toNat ≤ 57) ∨ c.toNat = 95)
def plainName (l : List UInt8) : Bool := decide (l ≠ [] ∧ l.length ≤ 24 ∧ l ≠ [109, 105, 110] ∧ l ≠ [109, 97, 120])
def charsOk (l : List UInt8) : Bool := letter (l.headD 0) && l.all fun c => letter c || further c
def nameOk (l : List UInt8) : Bool := plainName l && charsOk l

def idxOk (l : List Int) (n : Int) : Bool := l.all fun i => decide (0 ≤ i ∧ i < n)
def dup (l : List Int) : Bool := !decide l.Nodup

theorem idxOk_take {l : List Int} {k : Nat} {x n : Int} (h : l[k]? = some x) (hp : idxOk (l.take k) n = true) (h0 : 0 ≤ x) (h1 : x < n) : idxOk (l.take (k + 1)) n = true := by
  unfold idxOk at *; rw [List.take_add_one, h]; simp at *; exact ⟨hp, h0, h1⟩
theorem idxOk_bad {l : List Int} {k : Nat} {x n : Int} (h : l[k]? = some x) (h0 : x < 0 ∨ n ≤ x) : idxOk l n = false := by
  unfold idxOk
  rw [List.all_eq_false]
  exact ⟨x, List.mem_of_getElem? h, by simp; omega⟩
theorem idxOk_mem {l : List Int} {n x : Int} (h : idxOk l n = true) (hx : x ∈ l) : 0 ≤ x ∧ x < n := by
  unfold idxOk at h; rw [List.all_eq_true] at h; simpa using h x hx
theorem nodup_take {l : List Int} {k : Nat} {x : Int} (h : l[k]? = some x) (hp : (l.take k).Nodup) (hx : x ∉ l.take k) : (l.take (k + 1)).Nodup := by
  rw [List.take_add_one, h]; simp only [Option.toList]
  rw [List.nodup_append]
  exact ⟨hp, by simp, fun a ha b hb => by simp at hb; subst hb; exact fun e => hx (e ▸ ha)⟩
theorem dup_found {l : List Int} {k : Nat} {x : Int} (h : l[k]? = some x) (hx : x ∈ l.take k) : dup l = true := by
  unfold dup
  have : ¬ l.Nodup := by
    intro hn
    have hk := (List.getElem?_eq_some_iff.1 h).1
    rw [← List.take_append_drop k l, List.nodup_append] at hn
    refine hn.2.2 x hx x ?_ rfl
    rw [List.drop_eq_getElem_cons hk, (List.getElem?_eq_some_iff.1 h).2]; simp
  simp [this]
theorem dup_none {l : List Int} (h : (l.take l.length).Nodup) : dup l = false := by
  rw [List.take_length] at h; unfold dup; simp [h]

def sameName (a b : Opn) : Bool := decide (a.name.data.toList = b.name.data.toList)
def rangeBad (o : Opn) (n : Nat) : Bool := decide (o.mach < 0 ∨ 8 ≤ o.mach ∨ o.mins < 1 ∨ 10000 < o.mins) || !idxOk o.after n
def oneErr (l : List Opn) (i : Nat) : Int :=
  let o := l.getD i op0
  if nameOk o.name.data.toList = false then 1
  else if (l.take i).any (sameName o) = true then 7
  else if rangeBad o l.length = true then 3
  else if dup o.after = true then 7
  else 0
def errUpto (l : List Opn) : Nat → Int
  | 0 => 0
  | k + 1 => if errUpto l k ≠ 0 then errUpto l k else oneErr l k
def singErr (l : List Opn) : Int := if 16 < l.length then 5 else errUpto l l.length

theorem errUpto_stop {l : List Opn} {k : Nat} (h : errUpto l k = 0) (he : oneErr l k ≠ 0) : ∀ n, k < n → errUpto l n = oneErr l k := by
  intro n hn
  induction n with
  | zero => omega
  | succ n ih =>
    by_cases hk : k = n
    · subst hk; unfold errUpto; rw [if_neg (by simp [h])]
    · have := ih (by omega)
      unfold errUpto
      rw [if_pos (by rw [this]; exact he), this]
theorem errUpto_go {l : List Opn} {k : Nat} (h : errUpto l k = 0) (he : oneErr l k = 0) : errUpto l (k + 1) = 0 := by
  unfold errUpto; rw [if_neg (by simp [h]), he]
theorem errUpto_zero {l : List Opn} {n : Nat} (h : errUpto l n = 0) : ∀ k, k < n → oneErr l k = 0 := by
  induction n with
  | zero => intro k hk; omega
  | succ n ih =>
    intro k hk
    unfold errUpto at h
    by_cases h0 : errUpto l n ≠ 0
    · rw [if_pos h0] at h; exact absurd h h0
    · rw [if_neg h0] at h
      by_cases hkn : k = n
      · subst hkn; exact h
      · exact ih (by omega) k (by omega)

/-- What a list without an error of its own is. -/
structure Sound (l : List Opn) : Prop where
  len : l.length ≤ 16
  mach : ∀ o ∈ l, 0 ≤ o.mach ∧ o.mach < 8
  mins : ∀ o ∈ l, 1 ≤ o.mins ∧ o.mins ≤ 10000
  idx : ∀ o ∈ l, ∀ a ∈ o.after, 0 ≤ a ∧ a < l.length
  nodup : ∀ o ∈ l, o.after.Nodup
theorem sound_of {l : List Opn} (h : singErr l = 0) : Sound l := by
  unfold singErr at h
  by_cases hl : 16 < l.length
  · rw [if_pos hl] at h; cases h
  · rw [if_neg hl] at h
    have hz := errUpto_zero h
    have key : ∀ o ∈ l, rangeBad o l.length = false ∧ dup o.after = false := by
      intro o ho
      obtain ⟨k, hk, e⟩ := List.getElem_of_mem ho
      have := hz k hk
      unfold oneErr at this
      have e' : l.getD k op0 = o := by rw [List.getD_eq_getElem?_getD, List.getElem?_eq_getElem hk, e]; rfl
      simp only [e'] at this
      by_cases h1 : nameOk o.name.data.toList = false
      · rw [if_pos h1] at this; cases this
      · rw [if_neg h1] at this
        by_cases h2 : (l.take k).any (sameName o) = true
        · rw [if_pos h2] at this; cases this
        · rw [if_neg h2] at this
          by_cases h3 : rangeBad o l.length = true
          · rw [if_pos h3] at this; cases this
          · rw [if_neg h3] at this
            by_cases h4 : dup o.after = true
            · rw [if_pos h4] at this; cases this
            · exact ⟨by simpa using h3, by simpa using h4⟩
    have key2 : ∀ o ∈ l, (0 ≤ o.mach ∧ o.mach < 8 ∧ 1 ≤ o.mins ∧ o.mins ≤ 10000) ∧ idxOk o.after l.length = true ∧ o.after.Nodup := by
      intro o ho
      obtain ⟨k1, k2⟩ := key o ho
      unfold rangeBad at k1
      unfold dup at k2
      simp at k1 k2
      exact ⟨by omega, k1.2, k2⟩
    exact ⟨by omega, fun o ho => ⟨(key2 o ho).1.1, (key2 o ho).1.2.1⟩, fun o ho => ⟨(key2 o ho).1.2.2.1, (key2 o ho).1.2.2.2⟩,
      fun o ho a ha => idxOk_mem (key2 o ho).2.1 ha, fun o ho => (key2 o ho).2.2⟩

/-! ## The order -/
def readyB (l : List Opn) (out : List Nat) (i : Nat) : Bool := !out.contains i && (l.getD i op0).after.all fun a => out.contains a.toNat
def pick (l : List Opn) (out : List Nat) : Option Nat := (List.range l.length).find? (readyB l out)
def topo (l : List Opn) : Nat → List Nat → List Nat
  | 0, out => out
  | f + 1, out => match pick l out with
    | none => out
    | some i => topo l f (out ++ [i])
def order (l : List Opn) : List Nat := topo l l.length []
def ordErr (l : List Opn) : Int := if singErr l ≠ 0 then singErr l else if (order l).length < l.length then 9 else 0

theorem pick_some {l : List Opn} {out : List Nat} {i : Nat} (h : pick l out = some i) : i < l.length ∧ readyB l out i = true ∧ ∀ j, j < i → readyB l out j = false := by
  unfold pick at h
  rw [List.find?_eq_some_iff_getElem] at h
  obtain ⟨h1, k, hk, he, hb⟩ := h
  simp at hk he
  subst he
  exact ⟨hk, h1, fun j hj => by have := hb j hj; simpa using this⟩
theorem pick_none {l : List Opn} {out : List Nat} (h : pick l out = none) : ∀ j, j < l.length → readyB l out j = false := by
  unfold pick at h
  rw [List.find?_eq_none] at h
  intro j hj
  have := h j (by simpa using hj)
  simpa using this
theorem pick_eq {l : List Opn} {out : List Nat} {i : Nat} (h1 : i < l.length) (h2 : readyB l out i = true) (h3 : ∀ j, j < i → readyB l out j = false) : pick l out = some i := by
  cases h : pick l out with
  | none => have := pick_none h i h1; rw [h2] at this; cases this
  | some k =>
    obtain ⟨a, b, c⟩ := pick_some h
    rcases Nat.lt_trichotomy i k with hlt | he | hlt
    · have := c i hlt; rw [h2] at this; cases this
    · subst he; rfl
    · have := h3 k hlt; rw [b] at this; cases this
theorem pick_eq_none {l : List Opn} {out : List Nat} (h : ∀ j, j < l.length → readyB l out j = false) : pick l out = none := by
  cases hp : pick l out with
  | none => rfl
  | some k => obtain ⟨a, b, _⟩ := pick_some hp; rw [h k a] at b; cases b
theorem topo_stuck {l : List Opn} {out : List Nat} (h : pick l out = none) (f : Nat) : topo l f out = out := by
  cases f with
  | zero => rfl
  | succ f => unfold topo; rw [h]
theorem topo_step {l : List Opn} {out : List Nat} {i f : Nat} (h : pick l out = some i) : topo l (f + 1) out = topo l f (out ++ [i]) := by
  conv => lhs; unfold topo
  rw [h]
theorem topo_len (l : List Opn) : ∀ (f : Nat) (out : List Nat), out.length ≤ (topo l f out).length ∧ (topo l f out).length ≤ out.length + f := by
  intro f
  induction f with
  | zero => intro out; exact ⟨Nat.le_refl _, Nat.le_refl _⟩
  | succ f ih =>
    intro out
    cases h : pick l out with
    | none => rw [topo_stuck h]; omega
    | some i => rw [topo_step h]; have := ih (out ++ [i]); simp at this; omega
/-- A list in which each stands behind all of its After, none twice. -/
def Upto (l : List Opn) (out : List Nat) : Prop := out.Nodup ∧ (∀ i ∈ out, i < l.length) ∧ ∀ k i, out[k]? = some i → ∀ a ∈ (l.getD i op0).after, a.toNat ∈ out.take k
theorem Upto.nil (l : List Opn) : Upto l [] := ⟨List.nodup_nil, fun _ h => (by cases h), fun k i h => (by simp at h)⟩
theorem Upto.step {l : List Opn} {out : List Nat} {i : Nat} (h : Upto l out) (hp : pick l out = some i) : Upto l (out ++ [i]) := by
  obtain ⟨h1, h2, h3⟩ := h
  obtain ⟨a, b, _⟩ := pick_some hp
  unfold readyB at b
  simp at b
  refine ⟨?_, ?_, ?_⟩
  · rw [List.nodup_append]; exact ⟨h1, by simp, fun x hx y hy => by simp at hy; subst hy; exact fun e => b.1 (e ▸ hx)⟩
  · intro x hx
    rcases List.mem_append.1 hx with hx | hx
    · exact h2 x hx
    · simp at hx; subst hx; exact a
  · intro k x hx y hy
    by_cases hk : k < out.length
    · rw [List.getElem?_append_left hk] at hx
      rw [List.take_append_of_le_length (by omega)]
      exact h3 k x hx y hy
    · rw [List.getElem?_append_right (by omega)] at hx
      have hkk : k = out.length := by
        have := (List.getElem?_eq_some_iff.1 hx).1; simp at this; omega
      subst hkk
      simp at hx
      subst hx
      rw [List.take_append_of_le_length (Nat.le_refl _), List.take_length]
      exact b.2 y hy
theorem topo_upto {l : List Opn} : ∀ (f : Nat) (out : List Nat), Upto l out → Upto l (topo l f out) := by
  intro f
  induction f with
  | zero => intro out h; exact h
  | succ f ih =>
    intro out h
    cases hp : pick l out with
    | none => rw [topo_stuck hp]; exact h
    | some i => rw [topo_step hp]; exact ih _ (h.step hp)
theorem Upto.le {l : List Opn} {out : List Nat} (h : Upto l out) : out.length ≤ l.length := by
  have hs : out ⊆ List.range l.length := fun i hi => List.mem_range.2 (h.2.1 i hi)
  have := List.Nodup.length_le_of_subset h.1 hs
  simpa using this

/-! ## Names, letter by letter -/
theorem plainName_false {l : List UInt8} (h : l = [] ∨ 24 < l.length ∨ l = [109, 105, 110] ∨ l = [109, 97, 120]) : nameOk l = false := by
  unfold nameOk
  have : plainName l = false := by
    unfold plainName
    simp only [decide_eq_false_iff_not]
    rintro ⟨h1, h2, h3, h4⟩
    rcases h with h | h | h | h
    · exact h1 h
    · omega
    · exact h3 h
    · exact h4 h
  rw [this]; rfl
theorem plainName_true {l : List UInt8} (h1 : l ≠ []) (h2 : l.length ≤ 24) (h3 : l ≠ [109, 105, 110]) (h4 : l ≠ [109, 97, 120]) : plainName l = true := by
  unfold plainName; simp [h1, h2, h3, h4]
theorem charsOk_bad {l : List UInt8} {k : Nat} {c : UInt8} (h : l[k]? = some c) (hc : (letter c || further c) = false) : nameOk l = false := by
  unfold nameOk charsOk
  have : (l.all fun c => letter c || further c) = false := by
    rw [List.all_eq_false]; exact ⟨c, List.mem_of_getElem? h, by simpa using hc⟩
  rw [this]; simp
theorem charsOk_head {l : List UInt8} {c : UInt8} (h : l[0]? = some c) (hc : letter c = false) : nameOk l = false := by
  unfold nameOk charsOk
  have : l.headD 0 = c := by cases l with | nil => simp at h | cons x l => simp at h; subst h; rfl
  rw [this, hc]; simp
theorem charsOk_all {l : List UInt8} (hp : plainName l = true) {c : UInt8} (h : l[0]? = some c) (hc : letter c = true) (ha : ((l.take l.length).all fun c => letter c || further c) = true) : nameOk l = true := by
  rw [List.take_length] at ha
  unfold nameOk charsOk
  have : l.headD 0 = c := by cases l with | nil => simp at h | cons x l => simp at h; subst h; rfl
  rw [this, hc, hp, ha]; rfl
theorem chars_take {l : List UInt8} {k : Nat} {c : UInt8} (h : l[k]? = some c) (hp : ((l.take k).all fun c => letter c || further c) = true) (hc : (letter c || further c) = true) : ((l.take (k + 1)).all fun c => letter c || further c) = true := by
  rw [List.take_add_one, h]; simp only [Option.toList, List.all_append, hp, Bool.true_and, List.all_cons, List.all_nil, Bool.and_true]; exact hc
end Go.Proofs.Ytlbkfphepneflaa
