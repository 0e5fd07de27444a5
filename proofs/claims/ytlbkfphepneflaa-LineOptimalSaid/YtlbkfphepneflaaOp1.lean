/- Walks of operation.isName, areIndices and of the reference's Name, Within, Has, twice: each computes its plain function. -/
import Derived.Test.YtlbkfphepneflaaRows
import Derived.Test.YtlbkfphepneflaaOpPlain
import Derived.WalkKit
import Derived.WalkSpells
import Derived.WalkLawsBesides
import Derived.Lib.Hide
namespace Go.Proofs.Ytlbkfphepneflaa
open Go.RowKit

theorem ret_int {k : IntKind} {a b : Int} (h : a = b) : Ending.returned (.int k a) = .returned (.int k b) := by rw [h]
theorem int_eq {k : IntKind} {a b : Int} (h : a = b) : Value.int k a = Value.int k b := by rw [h]
theorem ret_bool {a b : Bool} (h : a = b) : Ending.returned (.bool a) = .returned (.bool b) := by rw [h]
theorem ret_two {k k' : IntKind} {a b a' b' : Int} (h : a = a') (h' : b = b') : Ending.returned (.tuple #[.int k a, .int k' b]) = .returned (.tuple #[.int k a', .int k' b']) := by rw [h, h']

theorem byte_at {s : ByteArray} {k : Nat} (h : k < s.size) : s.data.toList[k]? = some s[k] := by
  rw [List.getElem?_eq_getElem (by simpa using h)]; rfl
theorem size_len (s : ByteArray) : s.data.toList.length = s.size := by rw [Array.length_toList]; rfl

theorem headD_at {s : ByteArray} (h : 0 < s.size) : s.data.toList.headD 0 = s[0] := by
  have := byte_at h
  cases hl : s.data.toList with
  | nil => rw [hl] at this; simp at this
  | cons x l => rw [hl] at this; simpa using this
theorem head_step {l : List UInt8} {k : Nat} {c : UInt8} (h : l[k]? = some c) (hc : letter c = true) (hp : 0 < k → letter (l.headD 0) = true) : letter (l.headD 0) = true := by
  rcases Nat.eq_zero_or_pos k with h0 | h0
  · subst h0
    cases l with
    | nil => simp at h
    | cons x l => simp at h; subst h; exact hc
  · exact hp h0
theorem way_no {n : Int} (h : 122 < n) (h' : (!decide (n ≤ 122)) = false ∨ (!decide (n ≤ 57)) = false ∨ (!n == 95) = false) : False := by simp at h'; omega
theorem way_not {n : Int} (h : 57 < n) (h' : (!decide (n ≤ 57)) = true ∧ (!n == 95) = true) : ¬ ((48 ≤ n ∧ n ≤ 57) ∨ n = 95) := by simp at h'; omega
theorem way_not2 {n : Int} (h : n < 48) : ¬ ((48 ≤ n ∧ n ≤ 57) ∨ n = 95) := by omega
theorem way_95 {n : Int} (h : 57 < n) (h' : (!decide (n ≤ 57)) = false ∨ (!n == 95) = false) : (48 ≤ n ∧ n ≤ 57) ∨ n = 95 := by simp at h'; omega
theorem way_eq {n : Int} (h' : (!n == 95) = false) : n = 95 := by simpa using h'
theorem letter_yes {c : UInt8} (h1 : 97 ≤ (c.toNat : Int)) (h2 : (c.toNat : Int) ≤ 122) : letter c = true := by unfold letter; simp; omega
theorem letter_no {c : UInt8} (h : (c.toNat : Int) < 97 ∨ 122 < (c.toNat : Int)) : letter c = false := by unfold letter; simp; omega
theorem further_yes {c : UInt8} (h : (48 ≤ (c.toNat : Int) ∧ (c.toNat : Int) ≤ 57) ∨ (c.toNat : Int) = 95) : further c = true := by unfold further; simp; omega
theorem further_no {c : UInt8} (h : ¬ ((48 ≤ (c.toNat : Int) ∧ (c.toNat : Int) ≤ 57) ∨ (c.toNat : Int) = 95)) : further c = false := by unfold further; simp; omega

set_option maxHeartbeats 1000000 in
theorem isName_any (s : ByteArray) (w : World) (hs : s.size ≤ 9223372036854775807) :
    Calls Try.prog 45 #[.string s] w fun e w' => e = .returned (.bool (nameOk s.data.toList)) ∧ w = w' := by
  have hz := size_len s
  by_cases hb : s.toList = [] ∨ 24 < s.size ∨ s.toList = [109, 105, 110] ∨ s.toList = [109, 97, 120]
  · have HN := Lib.hid (plainName_false (l := s.data.toList) (by rw [hz, ← ByteArray.toList_eq]; exact hb))
    by_cases h1 : s.toList = []
    · clear hb hz
      go_enter Try.func45, Try.ntmps45
      go_wp2
      go_ret
      exact ⟨ret_bool HN.out.symm, rfl⟩
    · have b1 : s.toList.isEmpty = false := by simpa using h1
      by_cases h2 : 24 < s.size
      · clear hb hz
        go_enter Try.func45, Try.ntmps45
        go_wp2
        all_goals
          go_ret
          exact ⟨ret_bool HN.out.symm, rfl⟩
      · by_cases h3 : s.toList = [109, 105, 110]
        · clear hb hz
          go_enter Try.func45, Try.ntmps45
          go_wp2
          all_goals
            go_ret
            exact ⟨ret_bool HN.out.symm, rfl⟩
        · have b3 : (s.toList == [109, 105, 110]) = false := by simpa using h3
          have h4 : s.toList = [109, 97, 120] := by rcases hb with h | h | h | h <;> first | exact absurd h (by assumption) | exact h
          clear hb hz
          go_enter Try.func45, Try.ntmps45
          go_wp2
          all_goals
            go_ret
            exact ⟨ret_bool HN.out.symm, rfl⟩
  · have h1 : ¬ s.toList = [] := fun h => hb (.inl h)
    have h2 : s.size ≤ 24 := by
      by_cases h : 24 < s.size
      · exact absurd (.inr (.inl h)) hb
      · omega
    have h3 : ¬ s.toList = [109, 105, 110] := fun h => hb (.inr (.inr (.inl h)))
    have h4 : ¬ s.toList = [109, 97, 120] := fun h => hb (.inr (.inr (.inr h)))
    have HP := Lib.hid (plainName_true (l := s.data.toList) (by rw [← ByteArray.toList_eq]; exact h1) (by rw [hz]; exact h2) (by rw [← ByteArray.toList_eq]; exact h3) (by rw [← ByteArray.toList_eq]; exact h4))
    have b1 : s.toList.isEmpty = false := by simpa using h1
    have b2 : decide ((24 : Int) < (s.size : Int)) = false := by simp; omega
    have b3 : (s.toList == [109, 105, 110]) = false := by simpa using h3
    have b4 : (s.toList == [109, 97, 120]) = false := by simpa using h4
    have hpos : 0 < s.size := by
      rcases Nat.eq_zero_or_pos s.size with h | h
      · exact absurd (by rw [ByteArray.toList_eq]; exact List.eq_nil_of_length_eq_zero (by rw [hz, h])) h1
      · exact h
    clear hb h1 h3 h4
    have HZ := Lib.hid hz
    clear hz
    go_enter Try.func45, Try.ntmps45
    go_wp2
    go_loop [3, 4, 5, 23] (fun _ _ _ i => ∃ k : Nat, k ≤ s.size ∧ i = .int .i64 k ∧ ((s.data.toList.take k).all fun c => letter c || further c) = true ∧ (0 < k → letter (s.data.toList.headD 0) = true)) (fun _ _ _ i => s.size - (intOf i).toNat)
    case atStart => exact ⟨0, Nat.zero_le _, rfl, rfl, fun h => absurd h (by omega)⟩
    case round =>
      obtain ⟨k, hk, rfl, ha, hl⟩ := hrel
      have HA := Lib.hid ha
      have HL := Lib.hid hl
      clear ha hl
      by_cases hlt : k < s.size
      · have HB := Lib.hid (byte_at hlt)
        by_cases h0 : k = 0
        · subst h0
          go_wp2
          · go_ret
            exact ⟨ret_bool (charsOk_head HB.out (letter_no (by omega))).symm, rfl⟩
          · exact (way_no (n := (s[0].toNat : Int)) (by assumption) (.inl (by assumption))).elim
          · have HC := letter_yes (c := s[0]) (by assumption) (by omega)
            go_round
            case rel => exact ⟨0 + 1, by omega, by go_num, chars_take HB.out HA.out (by rw [HC]; simp), fun _ => head_step HB.out HC HL.out⟩
            case measure => simp [intOf]; omega
          all_goals
            go_ret
            exact ⟨ret_bool (charsOk_head HB.out (letter_no (by omega))).symm, rfl⟩
        · have h0b : ((k : Int) == 0) = false := by simp; omega
          go_wp2
          · go_ret
            exact ⟨ret_bool (charsOk_bad HB.out (by rw [letter_no (c := s[k]) (by omega), further_no (c := s[k]) (by omega)]; rfl)).symm, rfl⟩
          · exact (way_no (n := (s[k].toNat : Int)) (by assumption) (by assumption)).elim
          · have HC := letter_yes (c := s[k]) (by assumption) (by omega)
            go_round
            case rel => exact ⟨k + 1, by omega, by go_num, chars_take HB.out HA.out (by rw [HC]; simp), fun _ => head_step HB.out HC HL.out⟩
            case measure => simp [intOf]; omega
          · go_ret
            exact ⟨ret_bool (charsOk_bad HB.out (by rw [letter_no (c := s[k]) (by omega), further_no (c := s[k]) (way_not (by assumption) (by assumption))]; rfl)).symm, rfl⟩
          · have HD := further_yes (c := s[k]) (way_95 (by assumption) (by assumption))
            go_round
            case rel => exact ⟨k + 1, by omega, by go_num, chars_take HB.out HA.out (by rw [HD]; simp), fun _ => HL.out (by omega)⟩
            case measure => simp [intOf]; omega
          · have HD := further_yes (c := s[k]) (.inl ⟨by assumption, by omega⟩)
            go_round
            case rel => exact ⟨k + 1, by omega, by go_num, chars_take HB.out HA.out (by rw [HD]; simp), fun _ => HL.out (by omega)⟩
            case measure => simp [intOf]; omega
          · go_ret
            exact ⟨ret_bool (charsOk_bad HB.out (by rw [letter_no (c := s[k]) (by omega), further_no (c := s[k]) (way_not2 (by assumption))]; rfl)).symm, rfl⟩
          · have HD := further_yes (c := s[k]) (.inr (way_eq (by assumption)))
            go_round
            case rel => exact ⟨k + 1, by omega, by go_num, chars_take HB.out HA.out (by rw [HD]; simp), fun _ => HL.out (by omega)⟩
            case measure => simp [intOf]; omega
      · have HF : Hid (nameOk s.data.toList = true) := by
          have hh := HL.out (by omega)
          exact charsOk_all HP.out (byte_at hpos) (by rw [headD_at hpos] at hh; exact hh) (by have := HA.out; rw [HZ.out, show s.size = k from by omega]; exact this)
        go_wp2
        go_ret
        exact ⟨ret_bool HF.out.symm, rfl⟩
end Go.Proofs.Ytlbkfphepneflaa
