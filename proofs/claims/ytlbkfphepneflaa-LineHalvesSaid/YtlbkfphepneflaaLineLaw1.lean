/- The laws LineBounds, LineBalances, LineChecks: their walks. -/
import Derived.Test.YtlbkfphepneflaaEx
namespace Go.Proofs.Ytlbkfphepneflaa
open Go.RowKit

theorem few20 (A : Option Addr) (cap : Nat) (l : List Opn) (w : World) (h : ORd w w.heap.size A l) :
    Calls Try.prog 11 #[.slice A l.length cap, .int .i64 20] w fun e w' => e = .returned (.bool (few l 20)) ∧ w = w' := few_any A cap l 20 w h (by omega)
theorem few7 (A : Option Addr) (cap : Nat) (l : List Opn) (w : World) (h : ORd w w.heap.size A l) :
    Calls Try.prog 11 #[.slice A l.length cap, .int .i64 7] w fun e w' => e = .returned (.bool (few l 7)) ∧ w = w' := few_any A cap l 7 w h (by omega)
theorem balSt_small {l : List Opn} {c : Int} (h : bndErr l c = 0) : SSmall (balSt l c) := by
  have hl := lineOk_of h
  have h16 := (sound_of (ordErr_zero (bndErr_zero h).1).1).len
  have := nSt_le hl
  refine ⟨by rw [balSt_len]; omega, fun q hq => ?_⟩
  unfold balSt at hq
  obtain ⟨s, _, rfl⟩ := List.mem_map.1 hq
  have := grp_len (balAt l c l.length) l.length s
  omega

set_option maxRecDepth 100000 in
set_option maxHeartbeats 2000000 in
theorem lineBounds_walk (A : Option Addr) (cap : Nat) (l : List Opn) (c : Int) (w : World) (h : ORd w w.heap.size A l) (hcap : l.length ≤ cap) :
    Calls Try.prog 3 #[.slice A l.length cap, .int .i64 c] w fun e w' => e = .returned (.bool true) ∧ Below w.heap.size w w' := by
  have HO := Lib.hid h
  clear h
  go_enter Try.func3, Try.ntmps3
  go_wp2_with fail
  ((with_reducible refine (few20 A cap l _ HO.out).mono ?_); rintro e w1 ⟨rfl, rfl⟩)
  cases hf : few l 20 with
  | false =>
    clear hf
    go_wp2_with fail
    ((with_reducible refine (ex_any _).mono ?_); rintro e w2 ⟨rfl, hb2⟩)
    go_wp2
    go_ret
    exact ⟨rfl, hb2⟩
  | true =>
    have hl20 := (few_small hf).1
    have HS := Lib.hid (few_small hf).2
    clear hf
    go_wp2_with fail
    ((with_reducible refine (bound_any A cap l c _ HO.out (by omega) hcap HS.out).mono ?_); rintro e w2 ⟨rfl, hb2⟩)
    have HO2 := Lib.hid (HO.out.go hb2)
    have HB2 := Lib.hid hb2
    clear hb2
    go_wp2_with fail
    ((with_reducible refine (refBound_any A cap l c _ HO2.out (by omega) HS.out).mono ?_); rintro e w3 ⟨rfl, hb3⟩)
    have HB3 := Lib.hid (HB2.out.trans (hb3.mono HB2.out.size))
    have he : (bndErr l c == bndErr l c) = true := by simp
    have hv : (bndV l c == bndV l c) = true := by simp
    clear hb3
    go_wp2_with fail
    ((with_reducible refine (ex_any _).mono ?_); rintro e w4 ⟨rfl, hb4⟩)
    have HB4 := Lib.hid (HB3.out.trans (hb4.mono HB3.out.size))
    clear hb4
    go_wp2
    go_ret
    exact ⟨rfl, HB4.out⟩

set_option maxRecDepth 100000 in
set_option maxHeartbeats 2000000 in
theorem lineBalances_walk (A : Option Addr) (cap : Nat) (l : List Opn) (c : Int) (w : World) (h : ORd w w.heap.size A l) (hcap : l.length ≤ cap) :
    Calls Try.prog 4 #[.slice A l.length cap, .int .i64 c] w fun e w' => e = .returned (.bool true) ∧ Below w.heap.size w w' := by
  have HO := Lib.hid h
  clear h
  go_enter Try.func4, Try.ntmps4
  go_wp2_with fail
  ((with_reducible refine (few20 A cap l _ HO.out).mono ?_); rintro e w1 ⟨rfl, rfl⟩)
  cases hf : few l 20 with
  | false =>
    clear hf
    go_wp2_with fail
    ((with_reducible refine (ex_any _).mono ?_); rintro e w2 ⟨rfl, hb2⟩)
    go_wp2
    go_ret
    exact ⟨rfl, hb2⟩
  | true =>
    have hl20 := (few_small hf).1
    have HS := Lib.hid (few_small hf).2
    clear hf
    by_cases hmid : 6 < l.length ∧ l.length ≤ 16
    · obtain ⟨h6, h16⟩ := hmid
      go_wp2_with fail
      ((with_reducible refine (ex_any _).mono ?_); rintro e w2 ⟨rfl, hb2⟩)
      go_wp2
      go_ret
      exact ⟨rfl, hb2⟩
    · have hcase : ¬ 6 < l.length ∨ 6 < l.length ∧ ¬ l.length ≤ 16 := by omega
      clear hmid
      rcases hcase with h6 | ⟨h6, h16⟩
      all_goals
        go_wp2_with fail
        ((with_reducible refine (balance_any A cap l c _ HO.out (by omega) hcap HS.out).mono ?_); rintro e w2 ⟨⟨A2, n2, c2, rfl, p2, q2⟩, hb2⟩)
        have HO2 := Lib.hid (HO.out.go hb2)
        have HB2 := Lib.hid hb2
        have P2 := Lib.hid p2
        have Q2 := Lib.hid q2
        clear hb2 p2 q2
        go_wp2_with fail
        ((with_reducible refine (refBalance_any A cap l c _ HO2.out (by omega) HS.out).mono ?_); rintro e w3 ⟨⟨A3, n3, c3, rfl, p3, q3⟩, hb3⟩)
        have HB3 := Lib.hid (HB2.out.trans (hb3.mono HB2.out.size))
        have hk : ∃ ss : List (List Int), n2 = ss.length ∧ n3 = ss.length ∧ SRd w3 w3.heap.size A2 ss ∧ SRd w3 w3.heap.size A3 ss ∧ SSmall ss := by
          by_cases hz : bndErr l c = 0
          · obtain ⟨g1, _, g2⟩ := Q2.out hz
            obtain ⟨g3, _, g4⟩ := q3 hz
            exact ⟨balSt l c, by rw [g1, balSt_len], by rw [g3, balSt_len], g2.go hb3, g4, balSt_small hz⟩
          · obtain ⟨rfl, rfl, _⟩ := P2.out hz
            obtain ⟨rfl, rfl, _⟩ := p3 hz
            exact ⟨[], rfl, rfl, fun h => absurd rfl h, fun h => absurd rfl h, by unfold SSmall; simp⟩
        obtain ⟨ss, rfl, rfl, k1, k2, k3⟩ := hk
        have K1 := Lib.hid k1
        have K2 := Lib.hid k2
        have K3 := Lib.hid k3
        have he : (bndErr l c == bndErr l c) = true := by simp
        have HSM : Hid (sameSS ss ss = true) := by show _ = _; unfold sameSS; simp
        clear hb3 p3 q3 k1 k2 k3
        go_wp2_with fail
        ((with_reducible refine (same_any A2 A3 c2 c3 ss ss _ K1.out K2.out K3.out K3.out).mono ?_); rintro e w4 ⟨rfl, hb4⟩)
        rw [HSM.out]
        have HB4 := Lib.hid (HB3.out.trans (hb4.mono HB3.out.size))
        clear hb4
        go_wp2_with fail
        ((with_reducible refine (ex_any _).mono ?_); rintro e w5 ⟨rfl, hb5⟩)
        have HB5 := Lib.hid (HB4.out.trans (hb5.mono HB4.out.size))
        clear hb5
        go_wp2
        go_ret
        exact ⟨rfl, HB5.out⟩

set_option maxRecDepth 100000 in
set_option maxHeartbeats 2000000 in
theorem lineChecks_walk (A : Option Addr) (cap : Nat) (l : List Opn) (c : Int) (S : Option Addr) (capS : Nat) (ss : List (List Int)) (w : World) (h : ORd w w.heap.size A l) (hcap : l.length ≤ cap) (hS : SRd w w.heap.size S ss) (hsl : ss.length ≤ 9223372036854775807) :
    Calls Try.prog 5 #[.slice A l.length cap, .int .i64 c, .slice S ss.length capS] w fun e w' => e = .returned (.bool true) ∧ Below w.heap.size w w' := by
  have HO := Lib.hid h
  have HSS := Lib.hid hS
  clear h hS
  go_enter Try.func5, Try.ntmps5
  go_wp2_with fail
  ((with_reducible refine (few20 A cap l _ HO.out).mono ?_); rintro e w1 ⟨rfl, rfl⟩)
  cases hf : few l 20 with
  | false =>
    clear hf
    go_wp2_with fail
    ((with_reducible refine (ex_any _).mono ?_); rintro e w2 ⟨rfl, hb2⟩)
    go_wp2
    go_ret
    exact ⟨rfl, hb2⟩
  | true =>
    have hl20 := (few_small hf).1
    have HS := Lib.hid (few_small hf).2
    clear hf
    go_wp2_with fail
    ((with_reducible refine (small_any S capS ss _ HSS.out hsl).mono ?_); rintro e w1 ⟨rfl, rfl⟩)
    cases hsm : smallS ss with
    | false =>
      clear hsm
      go_wp2_with fail
      ((with_reducible refine (ex_any _).mono ?_); rintro e w2 ⟨rfl, hb2⟩)
      go_wp2
      go_ret
      exact ⟨rfl, hb2⟩
    | true =>
      have HSM := Lib.hid (smallS_ok hsm).2
      clear hsm
      go_wp2_with fail
      ((with_reducible refine (check_any A cap l c S capS ss _ HO.out (by omega) hcap HS.out HSS.out HSM.out).mono ?_); rintro e w2 ⟨rfl, hb2⟩)
      have HO2 := Lib.hid (HO.out.go hb2)
      have HS2 := Lib.hid (HSS.out.go hb2)
      have HB2 := Lib.hid hb2
      clear hb2
      go_wp2_with fail
      ((with_reducible refine (refCheck_any A cap l c S capS ss _ HO2.out (by omega) HS.out HS2.out HSM.out).mono ?_); rintro e w3 ⟨rfl, hb3⟩)
      have HB3 := Lib.hid (HB2.out.trans (hb3.mono HB2.out.size))
      have he : (chkErr l c ss == chkErr l c ss) = true := by simp
      clear hb3
      go_wp2_with fail
      ((with_reducible refine (ex_any _).mono ?_); rintro e w4 ⟨rfl, hb4⟩)
      have HB4 := Lib.hid (HB3.out.trans (hb4.mono HB3.out.size))
      clear hb4
      go_wp2
      go_ret
      exact ⟨rfl, HB4.out⟩
end Go.Proofs.Ytlbkfphepneflaa
