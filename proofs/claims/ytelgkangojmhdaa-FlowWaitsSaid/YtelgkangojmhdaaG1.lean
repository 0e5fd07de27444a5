/- Several texts as one: OpPlain, Op1, Op2, Op3, Op4, IMap, Op5, Op6. -/
import Derived.Test.YtelgkangojmhdaaRows
import Derived.WalkKit
import Derived.WalkSpells
import Derived.WalkLawsBesides
import Derived.Lib.Hide
import Derived.Deep.QuietTactic
import Derived.BigQuiet
import Derived.Maps.Own
import Derived.Maps.OwnOps
import Derived.Maps.OwnSet
import Derived.Maps.Views
/- Plain laws of operations and their order. No program in sight. -/
namespace Go.Proofs.Ytelgkangojmhdaa

structure Opn where
  name : ByteArray
  mach : Int
  mins : Int
  after : List Int
  uses : List Int
def op0 : Opn := ⟨ByteArray.empty, 0, 0, [], []⟩

def letter (c : UInt8) : Bool := decide (97 ≤ c.toNat ∧ c.toNat ≤ 122)
def further (c : UInt8) : Bool := decide ((48 ≤ c.toNat ∧ c.toNat ≤ 57) ∨ c.toNat = 95)
def plainName (l : List UInt8) : Bool := decide (l ≠ [] ∧ l.length ≤ 24 ∧ l ≠ [109, 105, 110] ∧ l ≠ [109, 97, 120])
def charsOk (l : List UInt8) : Bool := letter (l.headD 0) && l.all fun c => letter c || further c
def nameOk (l : List UInt8) : Bool := plainName l && charsOk l

def idxOk (l : List Int) (n : Int) : Bool := l.all fun i => decide (0 ≤ i ∧ i < n)
def dup (l : List Int) : Bool := !decide l.Nodup

theorem idxOk_take {l : List Int} {k : Nat} {x n : Int} (h : l[k]? = some x) (hp : idxOk (l.take k) n = true) (h0 : 0 ≤ x) (h1 : x < n) : idxOk (l.take (k + 1)) n = true := by
  unfold idxOk at *; rw [List.take_add_one, h]; simp at *; exact ⟨hp, h0, h1⟩
theorem idxOk_bad {l : List Int} {k : Nat} {x n : Int} (h : l[k]? = some x) (h0 : x < 0 ∨ n ≤ x) : idxOk l n = false := by
  unfold idxOk
  rw [List.all_eq_false]
  exact ⟨x, List.mem_of_getElem? h, by simp; omega⟩
theorem idxOk_mem {l : List Int} {n x : Int} (h : idxOk l n = true) (hx : x ∈ l) : 0 ≤ x ∧ x < n := by
  unfold idxOk at h; rw [List.all_eq_true] at h; simpa using h x hx
theorem nodup_take {l : List Int} {k : Nat} {x : Int} (h : l[k]? = some x) (hp : (l.take k).Nodup) (hx : x ∉ l.take k) : (l.take (k + 1)).Nodup := by
  rw [List.take_add_one, h]; simp only [Option.toList]
  rw [List.nodup_append]
  exact ⟨hp, by simp, fun a ha b hb => by simp at hb; subst hb; exact fun e => hx (e ▸ ha)⟩
theorem dup_found {l : List Int} {k : Nat} {x : Int} (h : l[k]? = some x) (hx : x ∈ l.take k) : dup l = true := by
  unfold dup
  have : ¬ l.Nodup := by
    intro hn
    have hk := (List.getElem?_eq_some_iff.1 h).1
    rw [← List.take_append_drop k l, List.nodup_append] at hn
    refine hn.2.2 x hx x ?_ rfl
    rw [List.drop_eq_getElem_cons hk, (List.getElem?_eq_some_iff.1 h).2]; simp
  simp [this]
theorem dup_none {l : List Int} (h : (l.take l.length).Nodup) : dup l = false := by
  rw [List.take_length] at h; unfold dup; simp [h]

def sameName (a b : Opn) : Bool := decide (a.name.data.toList = b.name.data.toList)
def rangeBad (o : Opn) (n : Nat) : Bool := decide (o.mach < 0 ∨ 8 ≤ o.mach ∨ o.mins < 1 ∨ 10000 < o.mins) || !idxOk o.after n
def oneErr (l : List Opn) (i : Nat) : Int :=
  let o := l.getD i op0
  if nameOk o.name.data.toList = false then 1
  else if (l.take i).any (sameName o) = true then 7
  else if rangeBad o l.length = true then 3
  else if dup o.after = true then 7
  else 0
def errUpto (l : List Opn) : Nat → Int
  | 0 => 0
  | k + 1 => if errUpto l k ≠ 0 then errUpto l k else oneErr l k
def singErr (l : List Opn) : Int := if 16 < l.length then 5 else errUpto l l.length

theorem errUpto_stop {l : List Opn} {k : Nat} (h : errUpto l k = 0) (he : oneErr l k ≠ 0) : ∀ n, k < n → errUpto l n = oneErr l k := by
  intro n hn
  induction n with
  | zero => omega
  | succ n ih =>
    by_cases hk : k = n
    · subst hk; unfold errUpto; rw [if_neg (by simp [h])]
    · have := ih (by omega)
      unfold errUpto
      rw [if_pos (by rw [this]; exact he), this]
theorem errUpto_go {l : List Opn} {k : Nat} (h : errUpto l k = 0) (he : oneErr l k = 0) : errUpto l (k + 1) = 0 := by
  unfold errUpto; rw [if_neg (by simp [h]), he]
theorem errUpto_zero {l : List Opn} {n : Nat} (h : errUpto l n = 0) : ∀ k, k < n → oneErr l k = 0 := by
  induction n with
  | zero => intro k hk; omega
  | succ n ih =>
    intro k hk
    unfold errUpto at h
    by_cases h0 : errUpto l n ≠ 0
    · rw [if_pos h0] at h; exact absurd h h0
    · rw [if_neg h0] at h
      by_cases hkn : k = n
      · subst hkn; exact h
      · exact ih (by omega) k (by omega)

/-- What a list without an error of its own is. -/
structure Sound (l : List Opn) : Prop where
  len : l.length ≤ 16
  mach : ∀ o ∈ l, 0 ≤ o.mach ∧ o.mach < 8
  mins : ∀ o ∈ l, 1 ≤ o.mins ∧ o.mins ≤ 10000
  idx : ∀ o ∈ l, ∀ a ∈ o.after, 0 ≤ a ∧ a < l.length
  nodup : ∀ o ∈ l, o.after.Nodup
theorem sound_of {l : List Opn} (h : singErr l = 0) : Sound l := by
  unfold singErr at h
  by_cases hl : 16 < l.length
  · rw [if_pos hl] at h; cases h
  · rw [if_neg hl] at h
    have hz := errUpto_zero h
    have key : ∀ o ∈ l, rangeBad o l.length = false ∧ dup o.after = false := by
      intro o ho
      obtain ⟨k, hk, e⟩ := List.getElem_of_mem ho
      have := hz k hk
      unfold oneErr at this
      have e' : l.getD k op0 = o := by rw [List.getD_eq_getElem?_getD, List.getElem?_eq_getElem hk, e]; rfl
      simp only [e'] at this
      by_cases h1 : nameOk o.name.data.toList = false
      · rw [if_pos h1] at this; cases this
      · rw [if_neg h1] at this
        by_cases h2 : (l.take k).any (sameName o) = true
        · rw [if_pos h2] at this; cases this
        · rw [if_neg h2] at this
          by_cases h3 : rangeBad o l.length = true
          · rw [if_pos h3] at this; cases this
          · rw [if_neg h3] at this
            by_cases h4 : dup o.after = true
            · rw [if_pos h4] at this; cases this
            · exact ⟨by simpa using h3, by simpa using h4⟩
    have key2 : ∀ o ∈ l, (0 ≤ o.mach ∧ o.mach < 8 ∧ 1 ≤ o.mins ∧ o.mins ≤ 10000) ∧ idxOk o.after l.length = true ∧ o.after.Nodup := by
      intro o ho
      obtain ⟨k1, k2⟩ := key o ho
      unfold rangeBad at k1
      unfold dup at k2
      simp at k1 k2
      exact ⟨by omega, k1.2, k2⟩
    exact ⟨by omega, fun o ho => ⟨(key2 o ho).1.1, (key2 o ho).1.2.1⟩, fun o ho => ⟨(key2 o ho).1.2.2.1, (key2 o ho).1.2.2.2⟩,
      fun o ho a ha => idxOk_mem (key2 o ho).2.1 ha, fun o ho => (key2 o ho).2.2⟩

/-! ## The order -/
def readyB (l : List Opn) (out : List Nat) (i : Nat) : Bool := !out.contains i && (l.getD i op0).after.all fun a => out.contains a.toNat
def pick (l : List Opn) (out : List Nat) : Option Nat := (List.range l.length).find? (readyB l out)
def topo (l : List Opn) : Nat → List Nat → List Nat
  | 0, out => out
  | f + 1, out => match pick l out with
    | none => out
    | some i => topo l f (out ++ [i])
def order (l : List Opn) : List Nat := topo l l.length []
def ordErr (l : List Opn) : Int := if singErr l ≠ 0 then singErr l else if (order l).length < l.length then 9 else 0

theorem pick_some {l : List Opn} {out : List Nat} {i : Nat} (h : pick l out = some i) : i < l.length ∧ readyB l out i = true ∧ ∀ j, j < i → readyB l out j = false := by
  unfold pick at h
  rw [List.find?_eq_some_iff_getElem] at h
  obtain ⟨h1, k, hk, he, hb⟩ := h
  simp at hk he
  subst he
  exact ⟨hk, h1, fun j hj => by have := hb j hj; simpa using this⟩
theorem pick_none {l : List Opn} {out : List Nat} (h : pick l out = none) : ∀ j, j < l.length → readyB l out j = false := by
  unfold pick at h
  rw [List.find?_eq_none] at h
  intro j hj
  have := h j (by simpa using hj)
  simpa using this
theorem pick_eq {l : List Opn} {out : List Nat} {i : Nat} (h1 : i < l.length) (h2 : readyB l out i = true) (h3 : ∀ j, j < i → readyB l out j = false) : pick l out = some i := by
  cases h : pick l out with
  | none => have := pick_none h i h1; rw [h2] at this; cases this
  | some k =>
    obtain ⟨a, b, c⟩ := pick_some h
    rcases Nat.lt_trichotomy i k with hlt | he | hlt
    · have := c i hlt; rw [h2] at this; cases this
    · subst he; rfl
    · have := h3 k hlt; rw [b] at this; cases this
theorem pick_eq_none {l : List Opn} {out : List Nat} (h : ∀ j, j < l.length → readyB l out j = false) : pick l out = none := by
  cases hp : pick l out with
  | none => rfl
  | some k => obtain ⟨a, b, _⟩ := pick_some hp; rw [h k a] at b; cases b
theorem topo_stuck {l : List Opn} {out : List Nat} (h : pick l out = none) (f : Nat) : topo l f out = out := by
  cases f with
  | zero => rfl
  | succ f => unfold topo; rw [h]
theorem topo_step {l : List Opn} {out : List Nat} {i f : Nat} (h : pick l out = some i) : topo l (f + 1) out = topo l f (out ++ [i]) := by
  conv => lhs; unfold topo
  rw [h]
theorem topo_len (l : List Opn) : ∀ (f : Nat) (out : List Nat), out.length ≤ (topo l f out).length ∧ (topo l f out).length ≤ out.length + f := by
  intro f
  induction f with
  | zero => intro out; exact ⟨Nat.le_refl _, Nat.le_refl _⟩
  | succ f ih =>
    intro out
    cases h : pick l out with
    | none => rw [topo_stuck h]; omega
    | some i => rw [topo_step h]; have := ih (out ++ [i]); simp at this; omega
/-- A list in which each stands behind all of its After, none twice. -/
def Upto (l : List Opn) (out : List Nat) : Prop := out.Nodup ∧ (∀ i ∈ out, i < l.length) ∧ ∀ k i, out[k]? = some i → ∀ a ∈ (l.getD i op0).after, a.toNat ∈ out.take k
theorem Upto.nil (l : List Opn) : Upto l [] := ⟨List.nodup_nil, fun _ h => (by cases h), fun k i h => (by simp at h)⟩
theorem Upto.step {l : List Opn} {out : List Nat} {i : Nat} (h : Upto l out) (hp : pick l out = some i) : Upto l (out ++ [i]) := by
  obtain ⟨h1, h2, h3⟩ := h
  obtain ⟨a, b, _⟩ := pick_some hp
  unfold readyB at b
  simp at b
  refine ⟨?_, ?_, ?_⟩
  · rw [List.nodup_append]; exact ⟨h1, by simp, fun x hx y hy => by simp at hy; subst hy; exact fun e => b.1 (e ▸ hx)⟩
  · intro x hx
    rcases List.mem_append.1 hx with hx | hx
    · exact h2 x hx
    · simp at hx; subst hx; exact a
  · intro k x hx y hy
    by_cases hk : k < out.length
    · rw [List.getElem?_append_left hk] at hx
      rw [List.take_append_of_le_length (by omega)]
      exact h3 k x hx y hy
    · rw [List.getElem?_append_right (by omega)] at hx
      have hkk : k = out.length := by
        have := (List.getElem?_eq_some_iff.1 hx).1; simp at this; omega
      subst hkk
      simp at hx
      subst hx
      rw [List.take_append_of_le_length (Nat.le_refl _), List.take_length]
      exact b.2 y hy
theorem topo_upto {l : List Opn} : ∀ (f : Nat) (out : List Nat), Upto l out → Upto l (topo l f out) := by
  intro f
  induction f with
  | zero => intro out h; exact h
  | succ f ih =>
    intro out h
    cases hp : pick l out with
    | none => rw [topo_stuck hp]; exact h
    | some i => rw [topo_step hp]; exact ih _ (h.step hp)
theorem Upto.le {l : List Opn} {out : List Nat} (h : Upto l out) : out.length ≤ l.length := by
  have hs : out ⊆ List.range l.length := fun i hi => List.mem_range.2 (h.2.1 i hi)
  have := List.Nodup.length_le_of_subset h.1 hs
  simpa using this

/-! ## Names, letter by letter -/
theorem plainName_false {l : List UInt8} (h : l = [] ∨ 24 < l.length ∨ l = [109, 105, 110] ∨ l = [109, 97, 120]) : nameOk l = false := by
  unfold nameOk
  have : plainName l = false := by
    unfold plainName
    simp only [decide_eq_false_iff_not]
    rintro ⟨h1, h2, h3, h4⟩
    rcases h with h | h | h | h
    · exact h1 h
    · omega
    · exact h3 h
    · exact h4 h
  rw [this]; rfl
theorem plainName_true {l : List UInt8} (h1 : l ≠ []) (h2 : l.length ≤ 24) (h3 : l ≠ [109, 105, 110]) (h4 : l ≠ [109, 97, 120]) : plainName l = true := by
  unfold plainName; simp [h1, h2, h3, h4]
theorem charsOk_bad {l : List UInt8} {k : Nat} {c : UInt8} (h : l[k]? = some c) (hc : (letter c || further c) = false) : nameOk l = false := by
  unfold nameOk charsOk
  have : (l.all fun c => letter c || further c) = false := by
    rw [List.all_eq_false]; exact ⟨c, List.mem_of_getElem? h, by simpa using hc⟩
  rw [this]; simp
theorem charsOk_head {l : List UInt8} {c : UInt8} (h : l[0]? = some c) (hc : letter c = false) : nameOk l = false := by
  unfold nameOk charsOk
  have : l.headD 0 = c := by cases l with | nil => simp at h | cons x l => simp at h; subst h; rfl
  rw [this, hc]; simp
theorem charsOk_all {l : List UInt8} (hp : plainName l = true) {c : UInt8} (h : l[0]? = some c) (hc : letter c = true) (ha : ((l.take l.length).all fun c => letter c || further c) = true) : nameOk l = true := by
  rw [List.take_length] at ha
  unfold nameOk charsOk
  have : l.headD 0 = c := by cases l with | nil => simp at h | cons x l => simp at h; subst h; rfl
  rw [this, hc, hp, ha]; rfl
theorem chars_take {l : List UInt8} {k : Nat} {c : UInt8} (h : l[k]? = some c) (hp : ((l.take k).all fun c => letter c || further c) = true) (hc : (letter c || further c) = true) : ((l.take (k + 1)).all fun c => letter c || further c) = true := by
  rw [List.take_add_one, h]; simp only [Option.toList, List.all_append, hp, Bool.true_and, List.all_cons, List.all_nil, Bool.and_true]; exact hc
end Go.Proofs.Ytelgkangojmhdaa
/- Walks of operation.isName, areIndices and of the reference's Name, Within, Has, twice: each computes its plain function. -/
namespace Go.Proofs.Ytelgkangojmhdaa
open Go.RowKit

theorem ret_int {k : IntKind} {a b : Int} (h : a = b) : Ending.returned (.int k a) = .returned (.int k b) := by rw [h]
theorem int_eq {k : IntKind} {a b : Int} (h : a = b) : Value.int k a = Value.int k b := by rw [h]
theorem ret_bool {a b : Bool} (h : a = b) : Ending.returned (.bool a) = .returned (.bool b) := by rw [h]
theorem ret_two {k k' : IntKind} {a b a' b' : Int} (h : a = a') (h' : b = b') : Ending.returned (.tuple #[.int k a, .int k' b]) = .returned (.tuple #[.int k a', .int k' b']) := by rw [h, h']

theorem byte_at {s : ByteArray} {k : Nat} (h : k < s.size) : s.data.toList[k]? = some s[k] := by
  rw [List.getElem?_eq_getElem (by simpa using h)]; rfl
theorem size_len (s : ByteArray) : s.data.toList.length = s.size := by rw [Array.length_toList]; rfl

theorem headD_at {s : ByteArray} (h : 0 < s.size) : s.data.toList.headD 0 = s[0] := by
  have := byte_at h
  cases hl : s.data.toList with
  | nil => rw [hl] at this; simp at this
  | cons x l => rw [hl] at this; simpa using this
theorem head_step {l : List UInt8} {k : Nat} {c : UInt8} (h : l[k]? = some c) (hc : letter c = true) (hp : 0 < k → letter (l.headD 0) = true) : letter (l.headD 0) = true := by
  rcases Nat.eq_zero_or_pos k with h0 | h0
  · subst h0
    cases l with
    | nil => simp at h
    | cons x l => simp at h; subst h; exact hc
  · exact hp h0
theorem way_no {n : Int} (h : 122 < n) (h' : (!decide (n ≤ 122)) = false ∨ (!decide (n ≤ 57)) = false ∨ (!n == 95) = false) : False := by simp at h'; omega
theorem way_not {n : Int} (h : 57 < n) (h' : (!decide (n ≤ 57)) = true ∧ (!n == 95) = true) : ¬ ((48 ≤ n ∧ n ≤ 57) ∨ n = 95) := by simp at h'; omega
theorem way_not2 {n : Int} (h : n < 48) : ¬ ((48 ≤ n ∧ n ≤ 57) ∨ n = 95) := by omega
theorem way_95 {n : Int} (h : 57 < n) (h' : (!decide (n ≤ 57)) = false ∨ (!n == 95) = false) : (48 ≤ n ∧ n ≤ 57) ∨ n = 95 := by simp at h'; omega
theorem way_eq {n : Int} (h' : (!n == 95) = false) : n = 95 := by simpa using h'
theorem letter_yes {c : UInt8} (h1 : 97 ≤ (c.toNat : Int)) (h2 : (c.toNat : Int) ≤ 122) : letter c = true := by unfold letter; simp; omega
theorem letter_no {c : UInt8} (h : (c.toNat : Int) < 97 ∨ 122 < (c.toNat : Int)) : letter c = false := by unfold letter; simp; omega
theorem further_yes {c : UInt8} (h : (48 ≤ (c.toNat : Int) ∧ (c.toNat : Int) ≤ 57) ∨ (c.toNat : Int) = 95) : further c = true := by unfold further; simp; omega
theorem further_no {c : UInt8} (h : ¬ ((48 ≤ (c.toNat : Int) ∧ (c.toNat : Int) ≤ 57) ∨ (c.toNat : Int) = 95)) : further c = false := by unfold further; simp; omega

set_option maxHeartbeats 1000000 in
theorem isName_any (s : ByteArray) (w : World) (hs : s.size ≤ 9223372036854775807) :
    Calls Try.prog 68 #[.string s] w fun e w' => e = .returned (.bool (nameOk s.data.toList)) ∧ w = w' := by
  have hz := size_len s
  by_cases hb : s.toList = [] ∨ 24 < s.size ∨ s.toList = [109, 105, 110] ∨ s.toList = [109, 97, 120]
  · have HN := Lib.hid (plainName_false (l := s.data.toList) (by rw [hz, ← ByteArray.toList_eq]; exact hb))
    by_cases h1 : s.toList = []
    · clear hb hz
      go_enter Try.func68, Try.ntmps68
      go_wp2
      go_ret
      exact ⟨ret_bool HN.out.symm, rfl⟩
    · have b1 : s.toList.isEmpty = false := by simpa using h1
      by_cases h2 : 24 < s.size
      · clear hb hz
        go_enter Try.func68, Try.ntmps68
        go_wp2
        all_goals
          go_ret
          exact ⟨ret_bool HN.out.symm, rfl⟩
      · by_cases h3 : s.toList = [109, 105, 110]
        · clear hb hz
          go_enter Try.func68, Try.ntmps68
          go_wp2
          all_goals
            go_ret
            exact ⟨ret_bool HN.out.symm, rfl⟩
        · have b3 : (s.toList == [109, 105, 110]) = false := by simpa using h3
          have h4 : s.toList = [109, 97, 120] := by rcases hb with h | h | h | h <;> first | exact absurd h (by assumption) | exact h
          clear hb hz
          go_enter Try.func68, Try.ntmps68
          go_wp2
          all_goals
            go_ret
            exact ⟨ret_bool HN.out.symm, rfl⟩
  · have h1 : ¬ s.toList = [] := fun h => hb (.inl h)
    have h2 : s.size ≤ 24 := by
      by_cases h : 24 < s.size
      · exact absurd (.inr (.inl h)) hb
      · omega
    have h3 : ¬ s.toList = [109, 105, 110] := fun h => hb (.inr (.inr (.inl h)))
    have h4 : ¬ s.toList = [109, 97, 120] := fun h => hb (.inr (.inr (.inr h)))
    have HP := Lib.hid (plainName_true (l := s.data.toList) (by rw [← ByteArray.toList_eq]; exact h1) (by rw [hz]; exact h2) (by rw [← ByteArray.toList_eq]; exact h3) (by rw [← ByteArray.toList_eq]; exact h4))
    have b1 : s.toList.isEmpty = false := by simpa using h1
    have b2 : decide ((24 : Int) < (s.size : Int)) = false := by simp; omega
    have b3 : (s.toList == [109, 105, 110]) = false := by simpa using h3
    have b4 : (s.toList == [109, 97, 120]) = false := by simpa using h4
    have hpos : 0 < s.size := by
      rcases Nat.eq_zero_or_pos s.size with h | h
      · exact absurd (by rw [ByteArray.toList_eq]; exact List.eq_nil_of_length_eq_zero (by rw [hz, h])) h1
      · exact h
    clear hb h1 h3 h4
    have HZ := Lib.hid hz
    clear hz
    go_enter Try.func68, Try.ntmps68
    go_wp2
    go_loop [3, 4, 5, 23] (fun _ _ _ i => ∃ k : Nat, k ≤ s.size ∧ i = .int .i64 k ∧ ((s.data.toList.take k).all fun c => letter c || further c) = true ∧ (0 < k → letter (s.data.toList.headD 0) = true)) (fun _ _ _ i => s.size - (intOf i).toNat)
    case atStart => exact ⟨0, Nat.zero_le _, rfl, rfl, fun h => absurd h (by omega)⟩
    case round =>
      obtain ⟨k, hk, rfl, ha, hl⟩ := hrel
      have HA := Lib.hid ha
      have HL := Lib.hid hl
      clear ha hl
      by_cases hlt : k < s.size
      · have HB := Lib.hid (byte_at hlt)
        by_cases h0 : k = 0
        · subst h0
          go_wp2
          · go_ret
            exact ⟨ret_bool (charsOk_head HB.out (letter_no (by omega))).symm, rfl⟩
          · exact (way_no (n := (s[0].toNat : Int)) (by assumption) (.inl (by assumption))).elim
          · have HC := letter_yes (c := s[0]) (by assumption) (by omega)
            go_round
            case rel => exact ⟨0 + 1, by omega, by go_num, chars_take HB.out HA.out (by rw [HC]; simp), fun _ => head_step HB.out HC HL.out⟩
            case measure => simp [intOf]; omega
          all_goals
            go_ret
            exact ⟨ret_bool (charsOk_head HB.out (letter_no (by omega))).symm, rfl⟩
        · have h0b : ((k : Int) == 0) = false := by simp; omega
          go_wp2
          · go_ret
            exact ⟨ret_bool (charsOk_bad HB.out (by rw [letter_no (c := s[k]) (by omega), further_no (c := s[k]) (by omega)]; rfl)).symm, rfl⟩
          · exact (way_no (n := (s[k].toNat : Int)) (by assumption) (by assumption)).elim
          · have HC := letter_yes (c := s[k]) (by assumption) (by omega)
            go_round
            case rel => exact ⟨k + 1, by omega, by go_num, chars_take HB.out HA.out (by rw [HC]; simp), fun _ => head_step HB.out HC HL.out⟩
            case measure => simp [intOf]; omega
          · go_ret
            exact ⟨ret_bool (charsOk_bad HB.out (by rw [letter_no (c := s[k]) (by omega), further_no (c := s[k]) (way_not (by assumption) (by assumption))]; rfl)).symm, rfl⟩
          · have HD := further_yes (c := s[k]) (way_95 (by assumption) (by assumption))
            go_round
            case rel => exact ⟨k + 1, by omega, by go_num, chars_take HB.out HA.out (by rw [HD]; simp), fun _ => HL.out (by omega)⟩
            case measure => simp [intOf]; omega
          · have HD := further_yes (c := s[k]) (.inl ⟨by assumption, by omega⟩)
            go_round
            case rel => exact ⟨k + 1, by omega, by go_num, chars_take HB.out HA.out (by rw [HD]; simp), fun _ => HL.out (by omega)⟩
            case measure => simp [intOf]; omega
          · go_ret
            exact ⟨ret_bool (charsOk_bad HB.out (by rw [letter_no (c := s[k]) (by omega), further_no (c := s[k]) (way_not2 (by assumption))]; rfl)).symm, rfl⟩
          · have HD := further_yes (c := s[k]) (.inr (way_eq (by assumption)))
            go_round
            case rel => exact ⟨k + 1, by omega, by go_num, chars_take HB.out HA.out (by rw [HD]; simp), fun _ => HL.out (by omega)⟩
            case measure => simp [intOf]; omega
      · have HF : Hid (nameOk s.data.toList = true) := by
          have hh := HL.out (by omega)
          exact charsOk_all HP.out (byte_at hpos) (by rw [headD_at hpos] at hh; exact hh) (by have := HA.out; rw [HZ.out, show s.size = k from by omega]; exact this)
        go_wp2
        go_ret
        exact ⟨ret_bool HF.out.symm, rfl⟩
end Go.Proofs.Ytelgkangojmhdaa
/- Walk of the reference's Name: it computes its plain function. -/
namespace Go.Proofs.Ytelgkangojmhdaa
open Go.RowKit

def isDigit (n : Int) : Bool := decide (48 ≤ n ∧ n ≤ 57)
theorem isDigit_yes {n : Int} (h : isDigit n = true) : 48 ≤ n ∧ n ≤ 57 := by unfold isDigit at h; simpa using h
theorem isDigit_no {n : Int} (h : isDigit n = false) : ¬ (48 ≤ n ∧ n ≤ 57) := by unfold isDigit at h; simpa using h
theorem digit_any (n : Int) (w : World) : Calls Try.prog 110 #[.int .u8 n] w fun e w' => e = .returned (.bool (isDigit n)) ∧ w = w' := by
  by_cases h : 48 ≤ n ∧ n ≤ 57
  · have H := Lib.hid (show isDigit n = true from by unfold isDigit; simpa using h)
    obtain ⟨h1, h2⟩ := h
    go_enter Try.func110, Try.ntmps110
    go_wp2
    go_ret
    exact ⟨ret_bool (by rw [H.out]), rfl⟩
  · have H := Lib.hid (show isDigit n = false from by unfold isDigit; simpa using h)
    by_cases h1 : 48 ≤ n
    · have h2 : ¬ n ≤ 57 := by omega
      clear h
      go_enter Try.func110, Try.ntmps110
      go_wp2
      go_ret
      exact ⟨ret_bool (by rw [H.out]), rfl⟩
    · clear h
      go_enter Try.func110, Try.ntmps110
      go_wp2
      go_ret
      exact ⟨ret_bool (by rw [H.out]), rfl⟩

theorem way_not3 {n : Int} (h : ¬ isDigit n = true) (h' : ¬ n = 95) : ¬ ((48 ≤ n ∧ n ≤ 57) ∨ n = 95) := by
  have := isDigit_no (show isDigit n = false by simpa using h); omega
theorem way_hi {n : Int} (h' : (n != 95) = true ∧ (n < 97 ∨ 122 < n)) : n < 97 ∨ 122 < n := by have := h'.2; omega
theorem way_le {n : Int} (h' : (n != 95) = false ∨ 97 ≤ n ∧ n ≤ 122) : n ≤ 122 := by simp at h'; omega

set_option maxHeartbeats 1000000 in
theorem refName_any (s : ByteArray) (w : World) (hs : s.size ≤ 9223372036854775807) :
    Calls Try.prog 105 #[.string s] w fun e w' => e = .returned (.bool (nameOk s.data.toList)) ∧ w = w' := by
  have hz := size_len s
  by_cases hb : s.toList = [] ∨ 24 < s.size ∨ s.toList = [109, 105, 110] ∨ s.toList = [109, 97, 120]
  · have HN := Lib.hid (plainName_false (l := s.data.toList) (by rw [hz, ← ByteArray.toList_eq]; exact hb))
    by_cases h1 : s.toList = []
    · clear hb hz
      go_enter Try.func105, Try.ntmps105
      go_wp2
      go_ret
      exact ⟨ret_bool HN.out.symm, rfl⟩
    · have b1 : s.toList.isEmpty = false := by simpa using h1
      by_cases h2 : 24 < s.size
      · clear hb hz
        go_enter Try.func105, Try.ntmps105
        go_wp2
        all_goals
          go_ret
          exact ⟨ret_bool HN.out.symm, rfl⟩
      · by_cases h3 : s.toList = [109, 105, 110]
        · clear hb hz
          go_enter Try.func105, Try.ntmps105
          go_wp2
          all_goals
            go_ret
            exact ⟨ret_bool HN.out.symm, rfl⟩
        · have b3 : (s.toList == [109, 105, 110]) = false := by simpa using h3
          have h4 : s.toList = [109, 97, 120] := by rcases hb with h | h | h | h <;> first | exact absurd h (by assumption) | exact h
          clear hb hz
          go_enter Try.func105, Try.ntmps105
          go_wp2
          all_goals
            go_ret
            exact ⟨ret_bool HN.out.symm, rfl⟩
  · have h1 : ¬ s.toList = [] := fun h => hb (.inl h)
    have h2 : s.size ≤ 24 := by
      by_cases h : 24 < s.size
      · exact absurd (.inr (.inl h)) hb
      · omega
    have h3 : ¬ s.toList = [109, 105, 110] := fun h => hb (.inr (.inr (.inl h)))
    have h4 : ¬ s.toList = [109, 97, 120] := fun h => hb (.inr (.inr (.inr h)))
    have HP := Lib.hid (plainName_true (l := s.data.toList) (by rw [← ByteArray.toList_eq]; exact h1) (by rw [hz]; exact h2) (by rw [← ByteArray.toList_eq]; exact h3) (by rw [← ByteArray.toList_eq]; exact h4))
    have b1 : s.toList.isEmpty = false := by simpa using h1
    have b2 : decide ((24 : Int) < (s.size : Int)) = false := by simp; omega
    have b3 : (s.toList == [109, 105, 110]) = false := by simpa using h3
    have b4 : (s.toList == [109, 97, 120]) = false := by simpa using h4
    have hpos : 0 < s.size := by
      rcases Nat.eq_zero_or_pos s.size with h | h
      · exact absurd (by rw [ByteArray.toList_eq]; exact List.eq_nil_of_length_eq_zero (by rw [hz, h])) h1
      · exact h
    clear hb h1 h3 h4
    have HZ := Lib.hid hz
    have HB0 := Lib.hid (byte_at hpos)
    clear hz
    go_enter Try.func105, Try.ntmps105
    go_wp2
    · go_ret
      exact ⟨ret_bool (charsOk_head HB0.out (letter_no (by omega))).symm, rfl⟩
    · have HL := Lib.hid (letter_yes (c := s[0]) (by omega) (by omega))
      go_loop [3] (fun i => ∃ k : Nat, k ≤ s.size ∧ i = .int .i64 k ∧ ((s.data.toList.take k).all fun c => letter c || further c) = true) (fun i => s.size - (intOf i).toNat)
      case atStart => exact ⟨0, Nat.zero_le _, rfl, rfl⟩
      case round =>
        obtain ⟨k, hk, rfl, ha⟩ := hrel
        have HA := Lib.hid ha
        clear ha
        by_cases hlt : k < s.size
        · have HB := Lib.hid (byte_at hlt)
          go_wp2_with (go_at_call 110; refine (digit_any _ _).mono ?_; rintro e w' ⟨rfl, rfl⟩)
          · have HC := further_yes (c := s[k]) (.inl (isDigit_yes (by assumption)))
            go_round
            case rel => exact ⟨k + 1, by omega, by go_num, chars_take HB.out HA.out (by rw [HC]; simp)⟩
            case measure => simp [intOf]; omega
          · have HC := further_yes (c := s[k]) (.inr (by assumption))
            go_round
            case rel => exact ⟨k + 1, by omega, by go_num, chars_take HB.out HA.out (by rw [HC]; simp)⟩
            case measure => simp [intOf]; omega
          · go_ret
            exact ⟨ret_bool (charsOk_bad HB.out (by rw [letter_no (c := s[k]) (way_hi (by assumption)), further_no (c := s[k]) (way_not3 (by assumption) (by assumption))]; rfl)).symm, rfl⟩
          · have HC := letter_yes (c := s[k]) (by assumption) (way_le (by assumption))
            go_round
            case rel => exact ⟨k + 1, by omega, by go_num, chars_take HB.out HA.out (by rw [HC]; simp)⟩
            case measure => simp [intOf]; omega
          · go_ret
            exact ⟨ret_bool (charsOk_bad HB.out (by rw [letter_no (c := s[k]) (.inl (by assumption)), further_no (c := s[k]) (way_not3 (by assumption) (by assumption))]; rfl)).symm, rfl⟩
        · have HF : Hid (nameOk s.data.toList = true) :=
            charsOk_all HP.out HB0.out HL.out (by have := HA.out; rw [HZ.out, show s.size = k from by omega]; exact this)
          go_wp2
          go_ret
          exact ⟨ret_bool HF.out.symm, rfl⟩
    · go_ret
      exact ⟨ret_bool (charsOk_head HB0.out (letter_no (by omega))).symm, rfl⟩
end Go.Proofs.Ytelgkangojmhdaa
/- Slices of ints; walks of operation.areIndices and of the references' Within, Has, has, twice. -/
namespace Go.Proofs.Ytelgkangojmhdaa
open Go.RowKit

/-- The slice at A reads as the ints l; it lies below block B. -/
def IRd (w : World) (B : Nat) (A : Option Addr) (l : List Int) : Prop :=
  l ≠ [] → ∃ b off, A = some ⟨b, off, none⟩ ∧ b < B ∧ ∀ i x, l[i]? = some x → w.cell? ⟨b, off + i, none⟩ = some (.int .i64 x)
theorem IRd.below {w w' : World} {B : Nat} {A : Option Addr} {l : List Int} (h : IRd w B A l) (hb : Below B w w') : IRd w' B A l := by
  intro hl
  obtain ⟨b, off, e, hB, hc⟩ := h hl
  exact ⟨b, off, e, hB, fun i d hd => (hb.cell (p := ⟨b, _, none⟩) hB).trans (hc i d hd)⟩
theorem IRd.more {w : World} {B B' : Nat} {A : Option Addr} {l : List Int} (h : IRd w B A l) (hB : B ≤ B') : IRd w B' A l := by
  intro hl
  obtain ⟨b, off, e, hb, hc⟩ := h hl
  exact ⟨b, off, e, by omega, hc⟩
theorem IRd.at_ {w w' : World} {B : Nat} {A : Option Addr} {l : List Int} (h : IRd w B A l) (hb : Below B w w') {k : Nat} (hk : k < l.length) :
    ∃ b off x, A = some ⟨b, off, none⟩ ∧ b < B ∧ l[k]? = some x ∧ w'.cell? ⟨b, off + k, none⟩ = some (.int .i64 x) := by
  obtain ⟨b, off, e, hB, hc⟩ := (h.below hb) (by intro e; subst e; simp at hk)
  have hd : l[k]? = some l[k] := List.getElem?_eq_getElem hk
  exact ⟨b, off, l[k], e, hB, hd, hc k _ hd⟩
theorem IRd.take {w : World} {B : Nat} {A : Option Addr} {l : List Int} (h : IRd w B A l) (n : Nat) : IRd w B A (l.take n) := by
  intro hl
  obtain ⟨b, off, e, hb, hc⟩ := h (by intro e; subst e; simp at hl)
  refine ⟨b, off, e, hb, fun i x hx => hc i x ?_⟩
  rw [List.getElem?_take] at hx
  split at hx
  · exact hx
  · cases hx

set_option maxHeartbeats 400000 in
theorem areIndices_any (A : Option Addr) (cap : Nat) (l : List Int) (n : Int) (w : World) (h : IRd w w.heap.size A l) (hn : l.length ≤ 1000) :
    Calls Try.prog 69 #[.slice A l.length cap, .int .i64 n] w fun e w' => e = .returned (.bool (idxOk l n)) ∧ w = w' := by
  have H := Lib.hid h
  clear h
  go_enter Try.func69, Try.ntmps69
  go_wp2
  go_loop [6, 9] (fun _ i => ∃ k : Nat, k ≤ l.length ∧ i = .int .i64 k ∧ idxOk (l.take k) n = true) (fun _ i => l.length - (intOf i).toNat)
  case atStart => exact ⟨0, Nat.zero_le _, rfl, rfl⟩
  case round =>
    obtain ⟨k, hk, rfl, hu⟩ := hrel
    have HU := Lib.hid hu
    clear hu
    by_cases hlt : k < l.length
    · obtain ⟨b, off, x, rfl, hB, hd, c0⟩ := H.out.at_ (Below.refl _ _) hlt
      have HD := Lib.hid hd
      clear hd
      by_cases hx : 0 ≤ x ∧ x < n
      · obtain ⟨x1, x2⟩ := hx
        go_wp2
        go_round
        case rel => exact ⟨k + 1, by omega, by go_num, idxOk_take HD.out HU.out x1 x2⟩
        case measure => simp [intOf]; omega
      · have HF := Lib.hid (idxOk_bad (n := n) HD.out (by omega))
        go_wp2
        all_goals
          go_ret
          exact ⟨ret_bool HF.out.symm, rfl⟩
    · go_wp2
      go_ret
      exact ⟨ret_bool (by rw [← HU.out, List.take_of_length_le (by omega)]), rfl⟩

set_option maxHeartbeats 400000 in
theorem within_any (A : Option Addr) (cap : Nat) (l : List Int) (n : Int) (w : World) (h : IRd w w.heap.size A l) (hn : l.length ≤ 1000) :
    Calls Try.prog 106 #[.slice A l.length cap, .int .i64 n] w fun e w' => e = .returned (.bool (idxOk l n)) ∧ w = w' := by
  have H := Lib.hid h
  clear h
  go_enter Try.func106, Try.ntmps106
  go_wp2
  go_loop [5] (fun i => ∃ k : Nat, k ≤ l.length ∧ i = .int .i64 k ∧ idxOk (l.take k) n = true) (fun i => l.length - (intOf i).toNat)
  case atStart => exact ⟨0, Nat.zero_le _, rfl, rfl⟩
  case round =>
    obtain ⟨k, hk, rfl, hu⟩ := hrel
    have HU := Lib.hid hu
    clear hu
    by_cases hlt : k < l.length
    · obtain ⟨b, off, x, rfl, hB, hd, c0⟩ := H.out.at_ (Below.refl _ _) hlt
      have HD := Lib.hid hd
      clear hd
      by_cases hx : 0 ≤ x ∧ x < n
      · obtain ⟨x1, x2⟩ := hx
        go_wp2
        go_round
        case rel => exact ⟨k + 1, by omega, by go_num, idxOk_take HD.out HU.out x1 x2⟩
        case measure => simp [intOf]; omega
      · have HF := Lib.hid (idxOk_bad (n := n) HD.out (by omega))
        go_wp2
        all_goals
          go_ret
          exact ⟨ret_bool HF.out.symm, rfl⟩
    · go_wp2
      go_ret
      exact ⟨ret_bool (by rw [← HU.out, List.take_of_length_le (by omega)]), rfl⟩

def hasB (l : List Int) (x : Int) : Bool := l.contains x
theorem hasB_found {l : List Int} {k : Nat} {x : Int} (h : l[k]? = some x) : hasB l x = true := by
  unfold hasB; rw [List.contains_iff_mem]; exact List.mem_of_getElem? h
theorem hasB_step {l : List Int} {k : Nat} {x y : Int} (h : l[k]? = some y) (hp : hasB (l.take k) x = false) (hne : ¬ y = x) : hasB (l.take (k + 1)) x = false := by
  unfold hasB at *; rw [List.take_add_one, h]; simp at *; exact ⟨hp, fun e => hne e.symm⟩

set_option maxHeartbeats 400000 in
theorem has45_any (A : Option Addr) (cap : Nat) (l : List Int) (x : Int) (w : World) (h : IRd w w.heap.size A l) (hn : l.length ≤ 1000) :
    Calls Try.prog 96 #[.slice A l.length cap, .int .i64 x] w fun e w' => e = .returned (.bool (hasB l x)) ∧ w = w' := by
  have H := Lib.hid h
  clear h
  go_enter Try.func96, Try.ntmps96
  go_wp2
  go_loop [5] (fun i => ∃ k : Nat, k ≤ l.length ∧ i = .int .i64 k ∧ hasB (l.take k) x = false) (fun i => l.length - (intOf i).toNat)
  case atStart => exact ⟨0, Nat.zero_le _, rfl, rfl⟩
  case round =>
    obtain ⟨k, hk, rfl, hu⟩ := hrel
    have HU := Lib.hid hu
    clear hu
    by_cases hlt : k < l.length
    · obtain ⟨b, off, y, rfl, hB, hd, c0⟩ := H.out.at_ (Below.refl _ _) hlt
      have HD := Lib.hid hd
      clear hd
      by_cases hx : y = x
      · have hxb : (y == x) = true := by simp [hx]
        have HF := Lib.hid (show hasB l x = true from by rw [← hx]; exact hasB_found HD.out)
        clear hx
        go_wp2
        go_ret
        exact ⟨ret_bool HF.out.symm, rfl⟩
      · have hxb : (y == x) = false := by simp [hx]
        have HX := Lib.hid hx
        clear hx
        go_wp2
        go_round
        case rel => exact ⟨k + 1, by omega, by go_num, hasB_step HD.out HU.out HX.out⟩
        case measure => simp [intOf]; omega
    · go_wp2
      go_ret
      exact ⟨ret_bool (by rw [← HU.out, List.take_of_length_le (by omega)]), rfl⟩

set_option maxHeartbeats 400000 in
theorem has46_any (A : Option Addr) (cap : Nat) (l : List Int) (x : Int) (w : World) (h : IRd w w.heap.size A l) (hn : l.length ≤ 1000) :
    Calls Try.prog 75 #[.slice A l.length cap, .int .i64 x] w fun e w' => e = .returned (.bool (hasB l x)) ∧ w = w' := by
  have H := Lib.hid h
  clear h
  go_enter Try.func75, Try.ntmps75
  go_wp2
  go_loop [5] (fun i => ∃ k : Nat, k ≤ l.length ∧ i = .int .i64 k ∧ hasB (l.take k) x = false) (fun i => l.length - (intOf i).toNat)
  case atStart => exact ⟨0, Nat.zero_le _, rfl, rfl⟩
  case round =>
    obtain ⟨k, hk, rfl, hu⟩ := hrel
    have HU := Lib.hid hu
    clear hu
    by_cases hlt : k < l.length
    · obtain ⟨b, off, y, rfl, hB, hd, c0⟩ := H.out.at_ (Below.refl _ _) hlt
      have HD := Lib.hid hd
      clear hd
      by_cases hx : y = x
      · have hxb : (y == x) = true := by simp [hx]
        have HF := Lib.hid (show hasB l x = true from by rw [← hx]; exact hasB_found HD.out)
        clear hx
        go_wp2
        go_ret
        exact ⟨ret_bool HF.out.symm, rfl⟩
      · have hxb : (y == x) = false := by simp [hx]
        have HX := Lib.hid hx
        clear hx
        go_wp2
        go_round
        case rel => exact ⟨k + 1, by omega, by go_num, hasB_step HD.out HU.out HX.out⟩
        case measure => simp [intOf]; omega
    · go_wp2
      go_ret
      exact ⟨ret_bool (by rw [← HU.out, List.take_of_length_le (by omega)]), rfl⟩
end Go.Proofs.Ytelgkangojmhdaa
/- Walks of the reference's twice and of operation.repeats: each computes its plain function. -/
namespace Go.Proofs.Ytelgkangojmhdaa
open Go.RowKit Go.Maps

theorem quiet_same {P : Program} {f : FuncId} {args : Array Value} {w : World} {n : Nat} {v : Value} (h : Calls P f args (w.drewN n) fun e w' => e = .returned v ∧ w.drewN n = w') :
    Calls P f args (w.drewN n) fun e w'' => e = .returned v ∧ ∃ m, w'' = w.drewN m :=
  h.mono fun _ _ ⟨he, hw⟩ => ⟨he, n, hw.symm⟩
theorem below_drewN {B : Nat} {a w : World} (h : Below B a w) (n : Nat) : Below B a (w.drewN n) := ⟨h.os, h.tape, h.output, h.size, h.block⟩
theorem hasB_mem {l : List Int} {x : Int} : hasB l x = true ↔ x ∈ l := by unfold hasB; rw [List.contains_iff_mem]

set_option maxHeartbeats 400000 in
theorem twice_any (A : Option Addr) (cap : Nat) (l : List Int) (w : World) (h : IRd w w.heap.size A l) (hn : l.length ≤ 1000) (hcap : l.length ≤ cap) :
    Calls Try.prog 107 #[.slice A l.length cap] w fun e w' => e = .returned (.bool (dup l)) ∧ Below w.heap.size w w' := by
  have H := Lib.hid h
  clear h
  go_enter Try.func107, Try.ntmps107
  go_wp2
  go_loopw [3] (fun i wr => ∃ k : Nat, k ≤ l.length ∧ i = .int .i64 k ∧ (l.take k).Nodup ∧ Below w.heap.size w wr) (fun i _ => l.length - (intOf i).toNat)
  case atStart => exact ⟨0, Nat.zero_le _, rfl, by simp, Below.refl _ _⟩
  case round =>
    obtain ⟨k, hk, rfl, hu, hb⟩ := hrel
    have HU := Lib.hid hu
    clear hu
    by_cases hlt : k < l.length
    · obtain ⟨b, off, y, rfl, hB, hd, c0⟩ := H.out.at_ hb hlt
      have HD := Lib.hid hd
      clear hd
      have HR := Lib.hid (((H.out.below hb).more hb.size).take k)
      have hk0 : (0 : Int) ≤ (k : Int) := by omega
      have hk1 : (k : Int) ≤ (cap : Int) := by omega
      have hk2 : (k : Int) < (l.length : Int) := by omega
      have htl : (l.take k).length = k := by simp; omega
      have HC : Hid (∀ (n : Nat), Calls Try.prog 96 #[.slice (some ⟨b, off, none⟩) k cap, .int .i64 y] (wr.drewN n) fun e w' => e = .returned (.bool (hasB (l.take k) y)) ∧ wr.drewN n = w') := fun n => by
        have := has45_any (some ⟨b, off, none⟩) cap (l.take k) y (wr.drewN n) HR.out (by omega)
        rw [htl] at this; exact this
      clear htl
      by_cases hx : hasB (l.take k) y = true
      · have HF := Lib.hid (dup_found HD.out (hasB_mem.1 hx))
        go_wp2
        go_quiet ((go_at_call 96; exact quiet_same (HC.out _)))
        rw [hx]
        go_wp2
        go_ret
        exact ⟨ret_bool HF.out.symm, below_drewN hb _⟩
      · have hx' : hasB (l.take k) y = false := by simpa using hx
        have HF := Lib.hid (nodup_take HD.out HU.out (fun h => hx (hasB_mem.2 h)))
        clear hx
        go_wp2
        go_quiet ((go_at_call 96; exact quiet_same (HC.out _)))
        rw [hx']
        go_wp2
        go_roundw
        case rel => exact ⟨k + 1, by omega, by go_num, HF.out, below_drewN hb _⟩
        case measure => simp [intOf]; omega
    · have hkl : k = l.length := by omega
      subst hkl
      have HF := Lib.hid (dup_none HU.out)
      go_wp2
      go_ret
      exact ⟨ret_bool HF.out.symm, hb⟩

end Go.Proofs.Ytelgkangojmhdaa
/- Maps with int keys that the call makes: what they hold, said by a function on ints. -/
namespace Go.Proofs.Ytelgkangojmhdaa
open Go.RowKit Go.Maps

def ik (x : Int) : Lit := .int .i64 x
theorem ik_ne {x y : Int} (h : x ≠ y) : ik x ≠ ik y := fun e => h (by unfold ik at e; injection e)
theorem ik_lit (x : Int) : WideAt.IsKeyLit (ik x) := by unfold ik; simp [WideAt.IsKeyLit]

def intKeys : DataW Unit → Prop
  | .map es => ∀ p ∈ es, ∃ x, p.1 = ik x
  | _ => True
/-- D holds just f: f x is what lies under the key x. -/
def View (D : DataW Unit) (f : Int → Option (DataW Unit)) : Prop :=
  IsMap D ∧ (∀ x, Maps.has D (ik x) = (f x).isSome) ∧ (∀ x z, D.atKey (ik x) z = (f x).getD z) ∧ intKeys D
theorem mem_insert {x y : Lit × DataW Unit} : ∀ {l : List (Lit × DataW Unit)}, y ∈ DataW.insert x l → y = x ∨ y ∈ l
  | [], h => by simp [DataW.insert] at h; exact .inl h
  | z :: l, h => by
    unfold DataW.insert at h
    split at h
    · rcases List.mem_cons.1 h with h | h
      · exact .inl h
      · exact .inr h
    · rcases List.mem_cons.1 h with h | h
      · exact .inr (by simp [h])
      · rcases mem_insert h with h | h
        · exact .inl h
        · exact .inr (by simp [h])
theorem intKeys_put {D : DataW Unit} (hD : IsMap D) (h : intKeys D) (x : Int) (d : DataW Unit) : intKeys (D.put (ik x) d) := by
  obtain ⟨es, rfl⟩ := hD
  intro p hp
  rcases mem_insert hp with rfl | hp
  · exact ⟨x, rfl⟩
  · exact h p (List.mem_filter.1 hp).1
theorem intKeys_del {D : DataW Unit} (hD : IsMap D) (h : intKeys D) (x : Int) : intKeys (D.del (ik x)) := by
  obtain ⟨es, rfl⟩ := hD
  intro p hp
  exact h p (List.mem_filter.1 hp).1

theorem View.empty : View (.map []) (fun _ => none) := ⟨isMap_empty, fun _ => rfl, fun _ _ => rfl, fun p hp => by cases hp⟩
theorem View.put {D : DataW Unit} {f : Int → Option (DataW Unit)} (h : View D f) (x : Int) (d : DataW Unit) : View (D.put (ik x) d) (fun y => if y = x then some d else f y) := by
  obtain ⟨h1, h2, h3, h4⟩ := h
  refine ⟨h1.put _ _, fun y => ?_, fun y z => ?_, intKeys_put h1 h4 x d⟩
  · by_cases e : y = x
    · subst e; rw [has_put_same h1 (ik_lit _)]; simp
    · rw [has_put_other (ik_ne e), h2]; simp [e]
  · by_cases e : y = x
    · subst e; rw [atKey_put_same h1 (ik_lit _)]; simp
    · rw [atKey_put_other (ik_ne e), h3]; simp [e]
theorem View.del {D : DataW Unit} {f : Int → Option (DataW Unit)} (h : View D f) (x : Int) : View (D.del (ik x)) (fun y => if y = x then none else f y) := by
  obtain ⟨h1, h2, h3, h4⟩ := h
  refine ⟨h1.del _, fun y => ?_, fun y z => ?_, intKeys_del h1 h4 x⟩
  · by_cases e : y = x
    · subst e; rw [has_del_same]; simp
    · rw [has_del_other (ik_ne e), h2]; simp [e]
  · by_cases e : y = x
    · subst e; rw [atKey_del_same]; simp
    · rw [atKey_del_other (ik_ne e), h3]; simp [e]
theorem View.size_zero {D : DataW Unit} {f : Int → Option (DataW Unit)} (h : View D f) : Maps.size D = 0 ↔ ∀ x, f x = none := by
  obtain ⟨⟨es, rfl⟩, h2, h3, h4⟩ := h
  constructor
  · intro hz x
    have : es = [] := List.eq_nil_of_length_eq_zero hz
    subst this
    have := h2 x
    simp [Maps.has] at this
    exact this
  · intro hf
    cases es with
    | nil => rfl
    | cons p es =>
      exfalso
      obtain ⟨x, hx⟩ := h4 p (by simp)
      have := h2 x
      rw [hf x] at this
      simp [Maps.has, hx, ik, Lit.sameKey] at this

/-- The map at block b of the world w holds f; its elements read by R; it was given at most M entries. -/
def IM (R : Value → Option (DataW Unit × List MemPlace)) (w : World) (b M : Nat) (f : Int → Option (DataW Unit)) : Prop := ∃ n D, n ≤ M ∧ w.ownsMap Try.prog 3 R b n D ∧ View D f
theorem keyInt : Keyed Try.prog 3 := int_keyed Try.underlying3
theorem wf64 {x : Int} (h0 : -9223372036854775808 ≤ x) (h1 : x ≤ 9223372036854775807) : (Lit.int .i64 x).wf = true := by exact WalkArith.wf_i64 (by omega)
theorem ikey {x : Int} (h0 : -9223372036854775808 ≤ x) (h1 : x ≤ 9223372036854775807) : keyOf Try.prog 3 (.int .i64 x) = some (ik x) := keyOf_int_mk Try.underlying3 (wf64 h0 h1)

section
variable {R : Value → Option (DataW Unit × List MemPlace)} {w w' : World} {b M : Nat} {f : Int → Option (DataW Unit)}
theorem IM.made (w : World) (R : Value → Option (DataW Unit × List MemPlace)) : IM R (w.alloc (.map #[] 0)) w.heap.size 0 (fun _ => none) := ⟨0, .map [], Nat.le_refl _, World.ownsMap_made _ _ _ _, View.empty⟩
theorem IM.kept {row : Option Nat} (h : IM R w b M f) (hg : w.grownBy w' row) (hne : some b ≠ row) : IM R w' b M f := by
  obtain ⟨n, D, h1, h2, h3⟩ := h; exact ⟨n, D, h1, h2.kept hg hne, h3⟩
theorem IM.alloc (h : IM R w b M f) (o : Obj) : IM R (w.alloc o) b M f := by
  obtain ⟨n, D, h1, h2, h3⟩ := h; exact ⟨n, D, h1, h2.alloc o, h3⟩
theorem IM.lt (h : IM R w b M f) : b < w.heap.size := by obtain ⟨n, D, h1, h2, h3⟩ := h; exact h2.lt
theorem IM.more {M' : Nat} (h : IM R w b M f) (hm : M ≤ M') : IM R w b M' f := by
  obtain ⟨n, D, h1, h2, h3⟩ := h; exact ⟨n, D, by omega, h2, h3⟩
end

/-! ### sets: map[int]bool, only true stored -/
def setF (S : List Int) (x : Int) : Option (DataW Unit) := if x ∈ S then some (.lit (.bool true)) else none
theorem setF_nil : setF [] = fun _ => none := by funext x; simp [setF]
theorem setF_cons (S : List Int) (x : Int) : (fun y => if y = x then some (DataW.lit (H := Unit) (.bool true)) else setF S y) = setF (x :: S) := by
  funext y
  unfold setF
  by_cases e : y = x
  · simp [e]
  · simp [e]
theorem setF_del (S : List Int) (x : Int) : (fun y => if y = x then none else setF S y) = setF (S.filter (· ≠ x)) := by
  funext y
  unfold setF
  by_cases e : y = x
  · simp [e]
  · simp [e]
theorem zeroBool (w : World) : (zeroValue 4).run Try.prog w = .ok (.bool false) w := by kernel_rfl
def rBool : Value → Option (DataW Unit × List MemPlace)
  | .bool x => some (.lit (.bool x), [])
  | _ => none
theorem rBool_mk (x : Bool) : rBool (.bool x) = some (.lit (.bool x), []) := rfl
theorem rBool_inv {v : Value} {z : DataW Unit × List MemPlace} (h : rBool v = some z) : ∃ x, v = .bool x ∧ z = (.lit (.bool x), []) := by
  unfold rBool at h
  cases v <;> simp at h
  exact ⟨_, rfl, h.symm⟩

section
variable {w : World} {ops : Array Oper} {rest : List Oper} {o : Oper} {a : Act} {Q : Exit → Act → World → Prop} {b M : Nat} {S : List Int} {x : Int}
theorem wpList_set_look (hg : o.guard = none) (m y : Operand) (hop : o.op = Op.lookup 114 m y false) (hm : a.eval m = .map (some b)) (hS : IM rBool w b M (setF S)) (hy : a.eval y = .int .i64 x)
    (h0 : -9223372036854775808 ≤ x) (h1 : x ≤ 9223372036854775807) (hK : wpList Try.prog ops Q rest (a.put o.dst (.bool (decide (x ∈ S)))) w) : wpList Try.prog ops Q (o :: rest) a w := by
  refine wpList_plain hg fun K' hK' => ?_
  obtain ⟨n, D, _, hown, hV⟩ := hS
  obtain ⟨v, ps, hrun, hv⟩ := hown.lookup keyInt Try.underlying114 (zeroBool w) (rBool_mk false) (ikey h0 h1)
  obtain ⟨c, rfl, hc⟩ := rBool_inv hv
  have hat := hV.2.2.1 x (.lit (.bool false))
  have e : c = decide (x ∈ S) := by
    have h2 := congrArg Prod.fst hc
    simp only at h2
    rw [hat] at h2
    unfold setF at h2
    by_cases hx : x ∈ S
    · rw [if_pos hx] at h2; simp at h2; simp [hx, ← h2]
    · rw [if_neg hx] at h2; simp at h2; simp [hx, ← h2]
  subst e
  unfold Oper.wp
  simp [execOp, hop, hm, hy, hrun, Result.andThen]
  exact hK' _ _ hK
theorem wpList_set_put (hg : o.guard = none) (m y v : Operand) (hop : o.op = Op.mapUpdate 114 m y v) (hm : a.eval m = .map (some b)) (hS : IM rBool w b M (setF S)) (hM : M < 1000000) (hy : a.eval y = .int .i64 x)
    (hv : a.eval v = .bool true) (h0 : -9223372036854775808 ≤ x) (h1 : x ≤ 9223372036854775807)
    (hK : ∀ w', IM rBool w' b (M + 1) (setF (x :: S)) → w.grownBy w' (some b) → wpList Try.prog ops Q rest (a.put o.dst undef) w') : wpList Try.prog ops Q (o :: rest) a w := by
  obtain ⟨n, D, hn, hown, hV⟩ := hS
  refine wpList_mapUpdate_own w hg m y v 114 hop 3 4 keyInt Try.underlying114 rBool b n D hm hown (by unfold maxLen; omega) _ _ (ik x) hy hv (ikey h0 h1) _ [] (rBool_mk true) ?_
  intro w' hown' hgrow
  exact hK w' ⟨n + 1, _, by omega, hown', by rw [← setF_cons]; exact hV.put x _⟩ hgrow
theorem wpList_set_del (hg : o.guard = none) (m y : Operand) (hop : o.op = Op.call { callee := Callee.builtin Builtin.delete, args := #[m, y], argTypes := #[114, 3] }) (hm : a.eval m = .map (some b)) (hS : IM rBool w b M (setF S)) (hy : a.eval y = .int .i64 x)
    (h0 : -9223372036854775808 ≤ x) (h1 : x ≤ 9223372036854775807)
    (hK : ∀ w', IM rBool w' b M (setF (S.filter (· ≠ x))) → w.grownBy w' (some b) → wpList Try.prog ops Q rest (a.put o.dst (.tuple #[])) w') : wpList Try.prog ops Q (o :: rest) a w := by
  obtain ⟨n, D, hn, hown, hV⟩ := hS
  refine wpList_delete_own w hg m y 114 3 hop 4 keyInt Try.underlying114 rBool b n D hm hown _ (ik x) hy (ikey h0 h1) ?_
  intro w' hown' hturn
  exact hK w' ⟨n, _, hn, hown', by rw [← setF_del]; exact hV.del x⟩ hturn.grown
end
end Go.Proofs.Ytelgkangojmhdaa
/- Walk of operation.repeats: it computes its plain function. -/
namespace Go.Proofs.Ytelgkangojmhdaa
open Go.RowKit Go.Maps

theorem below_block {B b : Nat} {a w w' : World} (h : Below B a w) (hg : w.grownBy w' (some b)) (hB : B ≤ w.heap.size) (hb : B ≤ b) : Below B a w' :=
  h.grown hg hB fun k hk => by injection hk with hk; omega

set_option maxHeartbeats 1000000 in
theorem repeats_any (A : Option Addr) (cap : Nat) (l : List Int) (w : World) (h : IRd w w.heap.size A l) (hn : l.length ≤ 1000) (hwf : ∀ x ∈ l, -9223372036854775808 ≤ x ∧ x ≤ 9223372036854775807) :
    Calls Try.prog 70 #[.slice A l.length cap] w fun e w' => e = .returned (.bool (dup l)) ∧ Below w.heap.size w w' := by
  have H := Lib.hid h
  have HW := Lib.hid hwf
  clear h hwf
  have hmm := @run_makeMap Try.prog
  go_enter Try.func70, Try.ntmps70
  go_wp2
  clear hmm
  go_loopw [5, 9] (fun _ i wr => ∃ k : Nat, k ≤ l.length ∧ i = .int .i64 k ∧ (l.take k).Nodup ∧ IM rBool wr w.heap.size k (setF (l.take k).reverse) ∧ Below w.heap.size w wr) (fun _ i _ => l.length - (intOf i).toNat)
  case atStart => exact ⟨0, Nat.zero_le _, rfl, by simp, by simpa [setF_nil] using IM.made w rBool, (Below.refl _ _).alloc (Nat.le_refl _) _⟩
  case round =>
    obtain ⟨k, hk, rfl, hu, hm, hb⟩ := hrel
    have HU := Lib.hid hu
    have HM := Lib.hid hm
    have HB := Lib.hid hb
    have hsz := hb.size
    clear hu hm hb
    by_cases hlt : k < l.length
    · obtain ⟨b, off, y, rfl, hB, hd, c0⟩ := H.out.at_ HB.out hlt
      obtain ⟨y0, y1⟩ := HW.out y (List.mem_of_getElem? hd)
      have HD := Lib.hid hd
      clear hd
      by_cases hx : y ∈ l.take k
      · have HF := Lib.hid (dup_found HD.out hx)
        have hxb : decide (y ∈ (l.take k).reverse) = true := by simpa using hx
        have HX := Lib.hid hxb
        clear hx hxb
        go_wp2_with (first
          | (at_lookup; refine wpList_set_look rfl (.tmp 13) (.tmp 14) rfl rfl HM.out rfl y0 y1 ?_; rw [HX.out]))
        go_ret
        exact ⟨ret_bool HF.out.symm, HB.out⟩
      · have HF := Lib.hid (nodup_take HD.out HU.out hx)
        have hxb : decide (y ∈ (l.take k).reverse) = false := by simpa using hx
        have HX := Lib.hid hxb
        have HS := Lib.hid (show y :: (l.take k).reverse = (l.take (k + 1)).reverse from by rw [List.take_add_one, HD.out]; simp)
        clear hx hxb
        go_wp2_with (first
          | (at_lookup; refine wpList_set_look rfl (.tmp 13) (.tmp 14) rfl rfl HM.out rfl y0 y1 ?_; rw [HX.out])
          | (at_mapUpdate; refine wpList_set_put rfl (.tmp 16) (.tmp 17) _ rfl rfl HM.out (by omega) rfl rfl y0 y1 ?_; intro w1 hm1 hg1))
        have HM1 : Hid (IM rBool w1 w.heap.size (k + 1) (setF (l.take (k + 1)).reverse)) := by rw [← HS.out]; exact hm1
        have HB1 := Lib.hid (below_block HB.out hg1 hsz (Nat.le_refl _))
        clear hm1 hg1
        go_wp2
        go_roundw
        case rel => exact ⟨k + 1, by omega, by go_num, HF.out, HM1.out, HB1.out⟩
        case measure => simp [intOf]; omega
    · have hkl : k = l.length := by omega
      subst hkl
      have HF := Lib.hid (dup_none HU.out)
      go_wp2
      go_ret
      exact ⟨ret_bool HF.out.symm, HB.out⟩
end Go.Proofs.Ytelgkangojmhdaa
/- Slices of operations; walk of operation.checkOne: it computes its plain function. -/
namespace Go.Proofs.Ytelgkangojmhdaa
open Go.RowKit

/-- One operation at offset p of block b. -/
def OpAt (w : World) (B b p : Nat) (o : Opn) : Prop :=
  w.cell? ⟨b, p, none⟩ = some (.string o.name) ∧ w.cell? ⟨b, p + 1, none⟩ = some (.int .i64 o.mach) ∧ w.cell? ⟨b, p + 2, none⟩ = some (.int .i64 o.mins) ∧
  (∃ A c, w.cell? ⟨b, p + 3, none⟩ = some (.slice A o.after.length c) ∧ o.after.length ≤ c ∧ IRd w B A o.after) ∧
  ∃ A c, w.cell? ⟨b, p + 4, none⟩ = some (.slice A o.uses.length c) ∧ o.uses.length ≤ c ∧ IRd w B A o.uses
/-- The slice at A reads as the operations l; all of it lies below block B. -/
def ORd (w : World) (B : Nat) (A : Option Addr) (l : List Opn) : Prop :=
  l ≠ [] → ∃ b off, A = some ⟨b, off, none⟩ ∧ b < B ∧ ∀ i o, l[i]? = some o → OpAt w B b (off + i * 5) o
theorem OpAt.below {w w' : World} {B b p : Nat} {o : Opn} (h : OpAt w B b p o) (hb : Below B w w') (hB : b < B) : OpAt w' B b p o := by
  obtain ⟨h0, h1, h2, ⟨A, c, h3, h4, h5⟩, ⟨A', c', h6, h7, h8⟩⟩ := h
  exact ⟨(hb.cell (p := ⟨b, _, none⟩) hB).trans h0, (hb.cell (p := ⟨b, _, none⟩) hB).trans h1, (hb.cell (p := ⟨b, _, none⟩) hB).trans h2,
    ⟨A, c, (hb.cell (p := ⟨b, _, none⟩) hB).trans h3, h4, h5.below hb⟩, ⟨A', c', (hb.cell (p := ⟨b, _, none⟩) hB).trans h6, h7, h8.below hb⟩⟩
theorem OpAt.more {w : World} {B B' b p : Nat} {o : Opn} (h : OpAt w B b p o) (hB : B ≤ B') : OpAt w B' b p o := by
  obtain ⟨h0, h1, h2, ⟨A, c, h3, h4, h5⟩, ⟨A', c', h6, h7, h8⟩⟩ := h
  exact ⟨h0, h1, h2, ⟨A, c, h3, h4, h5.more hB⟩, ⟨A', c', h6, h7, h8.more hB⟩⟩
theorem ORd.below {w w' : World} {B : Nat} {A : Option Addr} {l : List Opn} (h : ORd w B A l) (hb : Below B w w') : ORd w' B A l := by
  intro hl
  obtain ⟨b, off, e, hB, hc⟩ := h hl
  exact ⟨b, off, e, hB, fun i d hd => (hc i d hd).below hb hB⟩
theorem ORd.more {w : World} {B B' : Nat} {A : Option Addr} {l : List Opn} (h : ORd w B A l) (hB : B ≤ B') : ORd w B' A l := by
  intro hl
  obtain ⟨b, off, e, hb, hc⟩ := h hl
  exact ⟨b, off, e, by omega, fun i o ho => (hc i o ho).more hB⟩
theorem ORd.take {w : World} {B : Nat} {A : Option Addr} {l : List Opn} (h : ORd w B A l) (n : Nat) : ORd w B A (l.take n) := by
  intro hl
  obtain ⟨b, off, e, hb, hc⟩ := h (by intro e; subst e; simp at hl)
  refine ⟨b, off, e, hb, fun i x hx => hc i x ?_⟩
  rw [List.getElem?_take] at hx
  split at hx
  · exact hx
  · cases hx
theorem ORd.at_ {w w' : World} {B : Nat} {A : Option Addr} {l : List Opn} (h : ORd w B A l) (hb : Below B w w') {k : Nat} (hk : k < l.length) :
    ∃ b off o, A = some ⟨b, off, none⟩ ∧ b < B ∧ l[k]? = some o ∧ OpAt w' B b (off + k * 5) o := by
  obtain ⟨b, off, e, hB, hc⟩ := (h.below hb) (by intro e; subst e; simp at hk)
  have hd : l[k]? = some l[k] := List.getElem?_eq_getElem hk
  exact ⟨b, off, l[k], e, hB, hd, hc k _ hd⟩

/-- What the laws' guard gives: short names and lists. -/
def OSmall (l : List Opn) : Prop := ∀ o ∈ l, o.name.size ≤ 50 ∧ o.after.length ≤ 20 ∧ o.uses.length ≤ 20
theorem getD_at {l : List Opn} {i : Nat} {o : Opn} (h : l[i]? = some o) : l.getD i op0 = o := by rw [List.getD_eq_getElem?_getD, h]; rfl
theorem oneErr_name {l : List Opn} {i : Nat} {o : Opn} (h : l[i]? = some o) (hn : nameOk o.name.data.toList = false) : oneErr l i = 1 := by
  unfold oneErr; simp only [getD_at h]; rw [if_pos hn]
theorem oneErr_dup {l : List Opn} {i k : Nat} {o p : Opn} (h : l[i]? = some o) (hn : nameOk o.name.data.toList = true) (hp : (l.take i)[k]? = some p) (hs : sameName o p = true) : oneErr l i = 7 := by
  unfold oneErr; simp only [getD_at h]; rw [if_neg (by simp [hn]), if_pos (by rw [List.any_eq_true]; exact ⟨p, List.mem_of_getElem? hp, hs⟩)]
theorem oneErr_range {l : List Opn} {i : Nat} {o : Opn} (h : l[i]? = some o) (hn : nameOk o.name.data.toList = true) (hs : (l.take i).any (sameName o) = false) (hr : rangeBad o l.length = true) : oneErr l i = 3 := by
  unfold oneErr; simp only [getD_at h]; rw [if_neg (by simp [hn]), if_neg (by simp [hs]), if_pos hr]
theorem oneErr_twice {l : List Opn} {i : Nat} {o : Opn} (h : l[i]? = some o) (hn : nameOk o.name.data.toList = true) (hs : (l.take i).any (sameName o) = false) (hr : rangeBad o l.length = false) (hd : dup o.after = true) : oneErr l i = 7 := by
  unfold oneErr; simp only [getD_at h]; rw [if_neg (by simp [hn]), if_neg (by simp [hs]), if_neg (by simp [hr]), if_pos hd]
theorem oneErr_ok {l : List Opn} {i : Nat} {o : Opn} (h : l[i]? = some o) (hn : nameOk o.name.data.toList = true) (hs : (l.take i).any (sameName o) = false) (hr : rangeBad o l.length = false) (hd : dup o.after = false) : oneErr l i = 0 := by
  unfold oneErr; simp only [getD_at h]; rw [if_neg (by simp [hn]), if_neg (by simp [hs]), if_neg (by simp [hr]), if_neg (by simp [hd])]
theorem any_take_succ {l : List Opn} {k : Nat} {p : Opn} {q : Opn → Bool} (h : l[k]? = some p) (h1 : (l.take k).any q = false) (h2 : q p = false) : (l.take (k + 1)).any q = false := by
  rw [List.take_add_one, h]; simp only [Option.toList, List.any_append, h1, Bool.false_or, List.any_cons, List.any_nil, Bool.or_false]; exact h2
theorem same_toList {a b : Opn} : sameName a b = (b.name.toList == a.name.toList) := by
  unfold sameName
  rw [ByteArray.toList_eq, ByteArray.toList_eq, Bool.eq_iff_iff, decide_eq_true_iff, beq_iff_eq]
  exact ⟨fun h => h.symm, fun h => h.symm⟩
theorem rangeBad_false {o : Opn} {n : Nat} (h1 : 0 ≤ o.mach) (h2 : o.mach < 8) (h3 : 1 ≤ o.mins) (h4 : o.mins ≤ 10000) (h5 : idxOk o.after n = true) : rangeBad o n = false := by
  unfold rangeBad; rw [h5]; simp; omega
theorem rangeBad_num {o : Opn} {n : Nat} (h : o.mach < 0 ∨ 8 ≤ o.mach ∨ o.mins < 1 ∨ 10000 < o.mins) : rangeBad o n = true := by
  unfold rangeBad; simp [h]
theorem rangeBad_idx {o : Opn} {n : Nat} (h5 : idxOk o.after n = false) : rangeBad o n = true := by
  unfold rangeBad; simp [h5]

theorem opNew (w : World) (o : Opn) (Aa Au : Option Addr) (ca cu : Nat) (T : TypeId) :
    (w.alloc (.cells #[.string o.name, .int .i64 o.mach, .int .i64 o.mins, .slice Aa o.after.length ca, .slice Au o.uses.length cu] T)).cell? ⟨w.heap.size, 0, none⟩ = some (.string o.name) ∧
    (w.alloc (.cells #[.string o.name, .int .i64 o.mach, .int .i64 o.mins, .slice Aa o.after.length ca, .slice Au o.uses.length cu] T)).cell? ⟨w.heap.size, 1, none⟩ = some (.int .i64 o.mach) ∧
    (w.alloc (.cells #[.string o.name, .int .i64 o.mach, .int .i64 o.mins, .slice Aa o.after.length ca, .slice Au o.uses.length cu] T)).cell? ⟨w.heap.size, 2, none⟩ = some (.int .i64 o.mins) ∧
    (w.alloc (.cells #[.string o.name, .int .i64 o.mach, .int .i64 o.mins, .slice Aa o.after.length ca, .slice Au o.uses.length cu] T)).cell? ⟨w.heap.size, 3, none⟩ = some (.slice Aa o.after.length ca) ∧
    (w.alloc (.cells #[.string o.name, .int .i64 o.mach, .int .i64 o.mins, .slice Aa o.after.length ca, .slice Au o.uses.length cu] T)).cell? ⟨w.heap.size, 4, none⟩ = some (.slice Au o.uses.length cu) ∧
    w.heap.size < (w.alloc (.cells #[.string o.name, .int .i64 o.mach, .int .i64 o.mins, .slice Aa o.after.length ca, .slice Au o.uses.length cu] T)).heap.size ∧
    Below w.heap.size w (w.alloc (.cells #[.string o.name, .int .i64 o.mach, .int .i64 o.mins, .slice Aa o.after.length ca, .slice Au o.uses.length cu] T)) :=
  ⟨by simp [go_sem], by simp [go_sem], by simp [go_sem], by simp [go_sem], by simp [go_sem], by simp, (Below.refl _ _).alloc (Nat.le_refl _) _⟩

set_option maxRecDepth 100000 in
set_option maxHeartbeats 2000000 in
theorem checkOne_any (A : Option Addr) (cap : Nat) (l : List Opn) (i : Nat) (w : World) (h : ORd w w.heap.size A l) (hi : i < l.length) (hn : l.length ≤ 1000) (hcap : l.length ≤ cap) (hs : OSmall l) :
    Calls Try.prog 52 #[.slice A l.length cap, .int .i64 i, .int .i64 (-1)] w fun e w' => e = .returned (.int .i64 (oneErr l i)) ∧ Below w.heap.size w w' := by
  obtain ⟨b, off, o, rfl, hB, hd, hat⟩ := h.at_ (Below.refl _ _) hi
  have hso := hs o (List.mem_of_getElem? hd)
  obtain ⟨c0, c1, c2, ⟨Aa, ca, c3, a1, a2⟩, ⟨Au, cu, c4, u1, u2⟩⟩ := hat
  have HD := Lib.hid hd
  have H := Lib.hid h
  have HA := Lib.hid a2
  have HS := Lib.hid hs
  have hso1 := hso.2.1
  have hso2 := hso.1
  clear h hd a2 hs u1 u2 hso
  have hi0 : (0 : Int) ≤ (i : Int) := by omega
  have hi1 : (i : Int) ≤ (cap : Int) := by omega
  have hi2 : (i : Int) < (l.length : Int) := by omega
  go_enter Try.func52, Try.ntmps52
  go_wp2_with fail
  ((with_reducible refine (isName_any o.name _ (by omega)).mono ?_); rintro e w1 ⟨rfl, rfl⟩)
  cases hnm : nameOk o.name.data.toList with
  | false =>
    have HE := Lib.hid (oneErr_name HD.out hnm)
    clear hnm
    go_wp2
    go_ret
    exact ⟨ret_int HE.out.symm, (Below.refl _ _).alloc (Nat.le_refl _) _⟩
  | true =>
    have HN := Lib.hid hnm
    clear hnm
    have HZ := Lib.hid (opNew w o Aa Au ca cu 46)
    go_wp2_with fail
    revert HZ
    generalize w.alloc (.cells #[.string o.name, .int .i64 o.mach, .int .i64 o.mins, .slice Aa o.after.length ca, .slice Au o.uses.length cu] 46) = w0
    intro HZ
    obtain ⟨z0, z1, z2, z3, z4, hz0, hbw⟩ := HZ.out
    have HBW := Lib.hid hbw
    have HZ0 := Lib.hid z0
    have HZ1 := Lib.hid z1
    have HZ2 := Lib.hid z2
    have HZ3 := Lib.hid z3
    clear hbw z0 z1 z2 z3 z4 HZ c0 c1 c2 c3 c4
    go_loopw [9, 22] (fun _ j wr => ∃ k : Nat, k ≤ i ∧ j = .int .i64 k ∧ (l.take k).any (sameName o) = false ∧ Below (w.heap.size + 1) w0 wr) (fun _ j _ => i - (intOf j).toNat)
    case atStart => exact ⟨0, Nat.zero_le _, rfl, rfl, Below.refl _ _⟩
    case round =>
      obtain ⟨k, hk, rfl, hu, hb⟩ := hrel
      have HU := Lib.hid hu
      have hsz := hb.size
      have hsz' : w.heap.size < wr.heap.size := by omega
      have hsz1 : w.heap.size + 1 ≤ wr.heap.size := by omega
      have z0 := (hb.cell (p := ⟨w.heap.size, 0, none⟩) (by simp)).trans HZ0.out
      have z1 := (hb.cell (p := ⟨w.heap.size, 1, none⟩) (by simp)).trans HZ1.out
      have z2 := (hb.cell (p := ⟨w.heap.size, 2, none⟩) (by simp)).trans HZ2.out
      have z3 := (hb.cell (p := ⟨w.heap.size, 3, none⟩) (by simp)).trans HZ3.out
      have HB := Lib.hid hb
      have hbw2 : Below w.heap.size w wr := HBW.out.trans (hb.mono (by omega))
      have HBW2 := Lib.hid hbw2
      clear hu hb hbw2
      by_cases hlt : k < i
      · obtain ⟨b', off', p, e', hB', hp, hpat⟩ := H.out.at_ HBW2.out (show k < l.length by omega)
        cases e'
        obtain ⟨c0, c1, c2, ⟨Ap, cp, c3, p1, p2⟩, ⟨Aq, cq, c4, q1, q2⟩⟩ := hpat
        have HPD := Lib.hid hp
        clear hp p1 p2 q1 q2 z1 z2 z3 hB'
        have hk0 : (0 : Int) ≤ (k : Int) := by omega
        have hk1 : (k : Int) < (i : Int) := by omega
        cases hsn : sameName o p with
        | true =>
          have HE := Lib.hid (oneErr_dup HD.out HN.out (k := k) (by rw [List.getElem?_take, if_pos hlt]; exact HPD.out) hsn)
          have hsb : (p.name.toList == o.name.toList) = true := by rw [← same_toList]; exact hsn
          clear hsn
          go_wp2
          go_ret
          exact ⟨ret_int HE.out.symm, HBW2.out.alloc (by omega) _⟩
        | false =>
          have HE := Lib.hid (any_take_succ HPD.out HU.out hsn)
          have hsb : (p.name.toList == o.name.toList) = false := by rw [← same_toList]; exact hsn
          clear hsn
          go_wp2
          go_roundw
          case rel => exact ⟨k + 1, by omega, by go_num, HE.out, HB.out.alloc hsz1 _⟩
          case measure => simp [intOf]; omega
      · have hki : k = i := by omega
        subst hki
        by_cases hr : o.mach < 0 ∨ 8 ≤ o.mach ∨ o.mins < 1 ∨ 10000 < o.mins
        · have HE := Lib.hid (oneErr_range HD.out HN.out HU.out (rangeBad_num hr))
          go_wp2
          all_goals
            go_ret
            exact ⟨ret_int HE.out.symm, HBW2.out⟩
        · have r1 : 0 ≤ o.mach := by omega
          have r2 : o.mach < 8 := by omega
          have r3 : 1 ≤ o.mins := by omega
          have r4 : o.mins ≤ 10000 := by omega
          have HI := Lib.hid ((HA.out.below HBW2.out).more (show w.heap.size ≤ wr.heap.size by omega))
          clear hr
          go_wp2_with fail
          ((with_reducible refine (areIndices_any Aa ca o.after l.length _ HI.out (by omega)).mono ?_); rintro e w2 ⟨rfl, rfl⟩)
          cases hix : idxOk o.after l.length with
          | false =>
            have HE := Lib.hid (oneErr_range HD.out HN.out HU.out (rangeBad_idx hix))
            clear hix
            go_wp2
            go_ret
            exact ⟨ret_int HE.out.symm, HBW2.out⟩
          | true =>
            have HR := Lib.hid (rangeBad_false r1 r2 r3 r4 hix)
            have HX : Hid (∀ x ∈ o.after, -9223372036854775808 ≤ x ∧ x ≤ 9223372036854775807) := fun x hx => by have := idxOk_mem hix hx; omega
            clear hix
            go_wp2_with fail
            ((with_reducible refine (repeats_any Aa ca o.after _ HI.out (by omega) HX.out).mono ?_); rintro e w2 ⟨rfl, hb2⟩)
            have HB2 := Lib.hid (HBW2.out.trans (hb2.mono (by omega)))
            clear hb2
            cases hdp : dup o.after with
            | true =>
              have HE := Lib.hid (oneErr_twice HD.out HN.out HU.out HR.out hdp)
              clear hdp
              go_wp2
              go_ret
              exact ⟨ret_int HE.out.symm, HB2.out⟩
            | false =>
              have HE := Lib.hid (oneErr_ok HD.out HN.out HU.out HR.out hdp)
              clear hdp
              go_wp2
              go_ret
              exact ⟨ret_int HE.out.symm, HB2.out⟩
end Go.Proofs.Ytelgkangojmhdaa
