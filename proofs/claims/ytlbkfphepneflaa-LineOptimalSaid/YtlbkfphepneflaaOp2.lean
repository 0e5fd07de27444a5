/- Walk of the reference's Name: it computes its plain function. -/
import Derived.Test.YtlbkfphepneflaaOp1
namespace Go.Proofs.Ytlbkfphepneflaa
open Go.RowKit

def isDigit (n : Int) : Bool := decide (48 ≤ n ∧ n ≤ 57)
theorem isDigit_yes {n : Int} (h : isDigit n = true) : 48 ≤ n ∧ n ≤ 57 := by unfold isDigit at h; simpa using h
theorem isDigit_no {n : Int} (h : isDigit n = false) : ¬ (48 ≤ n ∧ n ≤ 57) := by unfold isDigit at h; simpa using h
theorem digit_any (n : Int) (w : World) : Calls Try.prog 48 #[.int .u8 n] w fun e w' => e = .returned (.bool (isDigit n)) ∧ w = w' := by
  by_cases h : 48 ≤ n ∧ n ≤ 57
  · have H := Lib.hid (show isDigit n = true from by unfold isDigit; simpa using h)
    obtain ⟨h1, h2⟩ := h
    go_enter Try.func48, Try.ntmps48
    go_wp2
    go_ret
    exact ⟨ret_bool (by rw [H.out]), rfl⟩
  · have H := Lib.hid (show isDigit n = false from by unfold isDigit; simpa using h)
    by_cases h1 : 48 ≤ n
    · have h2 : ¬ n ≤ 57 := by omega
      clear h
      go_enter Try.func48, Try.ntmps48
      go_wp2
      go_ret
      exact ⟨ret_bool (by rw [H.out]), rfl⟩
    · clear h
      go_enter Try.func48, Try.ntmps48
      go_wp2
      go_ret
      exact ⟨ret_bool (by rw [H.out]), rfl⟩

theorem way_not3 {n : Int} (h : ¬ isDigit n = true) (h' : ¬ n = 95) : ¬ ((48 ≤ n ∧ n ≤ 57) ∨ n = 95) := by
  have := isDigit_no (show isDigit n = false by simpa using h); omega
theorem way_hi {n : Int} (h' : (n != 95) = true ∧ (n < 97 ∨ 122 < n)) : n < 97 ∨ 122 < n := by have := h'.2; omega
theorem way_le {n : Int} (h' : (n != 95) = false ∨ 97 ≤ n ∧ n ≤ 122) : n ≤ 122 := by simp at h'; omega

set_option maxHeartbeats 1000000 in
theorem refName_any (s : ByteArray) (w : World) (hs : s.size ≤ 9223372036854775807) :
    Calls Try.prog 42 #[.string s] w fun e w' => e = .returned (.bool (nameOk s.data.toList)) ∧ w = w' := by
  have hz := size_len s
  by_cases hb : s.toList = [] ∨ 24 < s.size ∨ s.toList = [109, 105, 110] ∨ s.toList = [109, 97, 120]
  · have HN := Lib.hid (plainName_false (l := s.data.toList) (by rw [hz, ← ByteArray.toList_eq]; exact hb))
    by_cases h1 : s.toList = []
    · clear hb hz
      go_enter Try.func42, Try.ntmps42
      go_wp2
      go_ret
      exact ⟨ret_bool HN.out.symm, rfl⟩
    · have b1 : s.toList.isEmpty = false := by simpa using h1
      by_cases h2 : 24 < s.size
      · clear hb hz
        go_enter Try.func42, Try.ntmps42
        go_wp2
        all_goals
          go_ret
          exact ⟨ret_bool HN.out.symm, rfl⟩
      · by_cases h3 : s.toList = [109, 105, 110]
        · clear hb hz
          go_enter Try.func42, Try.ntmps42
          go_wp2
          all_goals
            go_ret
            exact ⟨ret_bool HN.out.symm, rfl⟩
        · have b3 : (s.toList == [109, 105, 110]) = false := by simpa using h3
          have h4 : s.toList = [109, 97, 120] := by rcases hb with h | h | h | h <;> first | exact absurd h (by assumption) | exact h
          clear hb hz
          go_enter Try.func42, Try.ntmps42
          go_wp2
          all_goals
            go_ret
            exact ⟨ret_bool HN.out.symm, rfl⟩
  · have h1 : ¬ s.toList = [] := fun h => hb (.inl h)
    have h2 : s.size ≤ 24 := by
      by_cases h : 24 < s.size
      · exact absurd (.inr (.inl h)) hb
      · omega
    have h3 : ¬ s.toList = [109, 105, 110] := fun h => hb (.inr (.inr (.inl h)))
    have h4 : ¬ s.toList = [109, 97, 120] := fun h => hb (.inr (.inr (.inr h)))
    have HP := Lib.hid (plainName_true (l := s.data.toList) (by rw [← ByteArray.toList_eq]; exact h1) (by rw [hz]; exact h2) (by rw [← ByteArray.toList_eq]; exact h3) (by rw [← ByteArray.toList_eq]; exact h4))
    have b1 : s.toList.isEmpty = false := by simpa using h1
    have b2 : decide ((24 : Int) < (s.size : Int)) = false := by simp; omega
    have b3 : (s.toList == [109, 105, 110]) = false := by simpa using h3
    have b4 : (s.toList == [109, 97, 120]) = false := by simpa using h4
    have hpos : 0 < s.size := by
      rcases Nat.eq_zero_or_pos s.size with h | h
      · exact absurd (by rw [ByteArray.toList_eq]; exact List.eq_nil_of_length_eq_zero (by rw [hz, h])) h1
      · exact h
    clear hb h1 h3 h4
    have HZ := Lib.hid hz
    have HB0 := Lib.hid (byte_at hpos)
    clear hz
    go_enter Try.func42, Try.ntmps42
    go_wp2
    · go_ret
      exact ⟨ret_bool (charsOk_head HB0.out (letter_no (by omega))).symm, rfl⟩
    · have HL := Lib.hid (letter_yes (c := s[0]) (by omega) (by omega))
      go_loop [3] (fun i => ∃ k : Nat, k ≤ s.size ∧ i = .int .i64 k ∧ ((s.data.toList.take k).all fun c => letter c || further c) = true) (fun i => s.size - (intOf i).toNat)
      case atStart => exact ⟨0, Nat.zero_le _, rfl, rfl⟩
      case round =>
        obtain ⟨k, hk, rfl, ha⟩ := hrel
        have HA := Lib.hid ha
        clear ha
        by_cases hlt : k < s.size
        · have HB := Lib.hid (byte_at hlt)
          go_wp2_with (go_at_call 48; refine (digit_any _ _).mono ?_; rintro e w' ⟨rfl, rfl⟩)
          · have HC := further_yes (c := s[k]) (.inl (isDigit_yes (by assumption)))
            go_round
            case rel => exact ⟨k + 1, by omega, by go_num, chars_take HB.out HA.out (by rw [HC]; simp)⟩
            case measure => simp [intOf]; omega
          · have HC := further_yes (c := s[k]) (.inr (by assumption))
            go_round
            case rel => exact ⟨k + 1, by omega, by go_num, chars_take HB.out HA.out (by rw [HC]; simp)⟩
            case measure => simp [intOf]; omega
          · go_ret
            exact ⟨ret_bool (charsOk_bad HB.out (by rw [letter_no (c := s[k]) (way_hi (by assumption)), further_no (c := s[k]) (way_not3 (by assumption) (by assumption))]; rfl)).symm, rfl⟩
          · have HC := letter_yes (c := s[k]) (by assumption) (way_le (by assumption))
            go_round
            case rel => exact ⟨k + 1, by omega, by go_num, chars_take HB.out HA.out (by rw [HC]; simp)⟩
            case measure => simp [intOf]; omega
          · go_ret
            exact ⟨ret_bool (charsOk_bad HB.out (by rw [letter_no (c := s[k]) (.inl (by assumption)), further_no (c := s[k]) (way_not3 (by assumption) (by assumption))]; rfl)).symm, rfl⟩
        · have HF : Hid (nameOk s.data.toList = true) :=
            charsOk_all HP.out HB0.out HL.out (by have := HA.out; rw [HZ.out, show s.size = k from by omega]; exact this)
          go_wp2
          go_ret
          exact ⟨ret_bool HF.out.symm, rfl⟩
    · go_ret
      exact ⟨ret_bool (charsOk_head HB0.out (letter_no (by omega))).symm, rfl⟩
end Go.Proofs.Ytlbkfphepneflaa
