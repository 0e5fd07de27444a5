/- Walks of the reference's Lost and Finish: each computes its plain function; nothing that lay in memory is changed. -/
import Derived.Test.YtoacjdfhmoljpaaMach1
namespace Go.Proofs.Ytoacjdfhmoljpaa
open Go.RowKit

theorem lim_bd (t : Int) : 0 ≤ lim t ∧ lim t ≤ 1073741824 := by unfold lim; omega
theorem ret_two {k k' : IntKind} {a b a' b' : Int} (h : a = a') (h' : b = b') : Ending.returned (.tuple #[.int k a, .int k' b]) = .returned (.tuple #[.int k a', .int k' b']) := by rw [h, h']

set_option maxHeartbeats 400000 in
theorem refLost_any (A : Option Addr) (cap : Nat) (l : List Dn) (m from_ to_ : Int) (w : World) (h : DRd w w.heap.size A l) (hn : l.length ≤ 1000) :
    Calls Try.prog 17 #[.slice A l.length cap, .int .i64 m, .int .i64 from_, .int .i64 to_] w fun e w' => e = .returned (.int .i64 (lostT l m from_ to_)) ∧ Below w.heap.size w w' := by
  have H := Lib.hid h
  clear h
  have b1 := lim_bd from_
  have b2 := lim_bd to_
  unfold lostT
  go_enter Try.func17, Try.ntmps17
  go_wp2_with (go_at_call 22; refine (refLimited_any _ _).mono ?_; rintro e w' ⟨rfl, rfl⟩)
  go_loopw [9, 11, 12] (fun n t _ wr => ∃ u : Int, (lim from_) ≤ u ∧ u ≤ max (lim from_) (lim to_) ∧ t = .int .i64 u ∧ n = .int .i64 (down (isUp l m) (lim from_) u) ∧ Below w.heap.size w wr) (fun _ t _ _ => ((lim to_) - intOf t).toNat)
  case atStart => exact ⟨(lim from_), Int.le_refl _, by omega, rfl, int_eq (down_none _ (Int.le_refl _)).symm, Below.refl _ _⟩
  case round =>
    obtain ⟨u, hu1, hu2, rfl, rfl, hb⟩ := hrel
    have hsz := hb.size
    have hD := down_bd (isUp l m) (lim from_) u hu1
    by_cases hlt : u < (lim to_)
    · obtain ⟨n1, n2, _⟩ := nextB_bd l m u (lim to_) hlt
      have HS := Lib.hid (refLost_step (l := l) (m := m) hu1 hlt)
      have HR := Lib.hid ((H.out.below hb).more hsz)
      go_wp2_with fail
      ((with_reducible refine (next_any A cap l m u (lim to_) _ HR.out hn).mono ?_); rintro e w1 ⟨rfl, hb1⟩)
      have hsz1 := hb1.size
      have HR1 := Lib.hid ((HR.out.below hb1).more hsz1)
      generalize nextB l m u (lim to_) = x at *
      go_wp2_with fail
      ((with_reducible refine (refUp_any A cap l m u _ HR1.out hn).mono ?_); rintro e w2 ⟨rfl, hb2⟩)
      have hb3 : Below w.heap.size w w2 := (hb.trans (hb1.mono (by omega))).trans (hb2.mono (by omega))
      by_cases hup : isUp l m u = true
      · have HS' : Hid (down (isUp l m) (lim from_) x = down (isUp l m) (lim from_) u) := by have := HS.out; rw [if_pos hup] at this; show _ = _; omega
        generalize down (isUp l m) (lim from_) u = dd at *
        go_wp2
        go_roundw
        case rel => exact ⟨x, by omega, by omega, rfl, int_eq HS'.out.symm, hb3⟩
        case measure => simp [intOf]; omega
      · have HS' : Hid (down (isUp l m) (lim from_) x = down (isUp l m) (lim from_) u + x - u) := by have := HS.out; rw [if_neg hup] at this; show _ = _; omega
        have hup' : isUp l m u = false := by simpa using hup
        generalize down (isUp l m) (lim from_) u = dd at *
        go_wp2
        go_roundw
        case rel => exact ⟨x, by omega, by omega, rfl, int_eq HS'.out.symm, hb3⟩
        case measure => simp [intOf]; omega
    · go_wp2
      go_ret
      refine ⟨ret_int ?_, hb⟩
      by_cases hlh : (lim from_) ≤ (lim to_)
      · rw [show u = (lim to_) from by omega]
      · rw [down_none _ (show (lim to_) ≤ (lim from_) from by omega), down_none _ (show u ≤ (lim from_) from by omega)]

set_option maxHeartbeats 1000000 in
theorem refFinish_any (A : Option Addr) (cap : Nat) (l : List Dn) (m s n : Int) (w : World) (h : DRd w w.heap.size A l) (hn : l.length ≤ 1000) :
    Calls Try.prog 19 #[.slice A l.length cap, .int .i64 m, .int .i64 s, .int .i64 n] w fun e w' => e = .returned (.tuple #[.int .i64 (finT l m s n), .int .i64 (finErr l s n)]) ∧ Below w.heap.size w w' := by
  have H := Lib.hid h
  clear h
  by_cases hc : chk l = 0
  · by_cases hr : s < 0 ∨ 1073741824 < s ∨ n < 0 ∨ 1073741824 < n
    · have HE := Lib.hid (finErr_range hc hr)
      have HT := Lib.hid (finT_bad (m := m) (show finErr l s n ≠ 0 from by rw [HE.out]; omega))
      have HC := Lib.hid hc
      clear hc
      go_enter Try.func19, Try.ntmps19
      go_wp2_with fail
      ((with_reducible refine (refCheck_any A cap l _ H.out hn).mono ?_); rintro e w1 ⟨rfl, hb1⟩)
      rw [HC.out]
      go_wp2
      all_goals
        go_ret2
        exact ⟨ret_two HT.out.symm HE.out.symm, hb1⟩
    · have HE := Lib.hid (finErr_mk (n := n) (s := s) hc (by omega) (by omega) (by omega) (by omega))
      have HL := Lib.hid (chk_zero hc).2
      have HC := Lib.hid hc
      clear hc
      have r1 : 0 ≤ s := by omega
      have r2 : s ≤ 1073741824 := by omega
      have r3 : 0 ≤ n := by omega
      have r4 : n ≤ 1073741824 := by omega
      clear hr
      go_enter Try.func19, Try.ntmps19
      go_wp2_with fail
      ((with_reducible refine (refCheck_any A cap l _ H.out hn).mono ?_); rintro e w1 ⟨rfl, hb1⟩)
      rw [HC.out]
      go_wp2_with fail
      go_loopw [3, 11, 12] (fun x t _ wr => ∃ left u : Int, LeftAt (isUp l m) s n u left ∧ x = .int .i64 left ∧ t = .int .i64 u ∧ Below w.heap.size w wr) (fun x t _ _ => (intOf x + (4294967296 - intOf t)).toNat)
      case atStart => exact ⟨n, s, LeftAt.start _ _ _ r3, rfl, rfl, hb1⟩
      case round =>
        obtain ⟨left, u, hL, rfl, rfl, hb⟩ := hrel
        have hsz := hb.size
        have hbd := hL.bound HL.out r2 r4
        have hl0 := hL.2.1
        have hu0 := hL.1
        have HLA := Lib.hid hL
        clear hL
        by_cases hlt : 0 < left
        · have HR := Lib.hid ((H.out.below hb).more hsz)
          obtain ⟨n1, n2, _⟩ := nextB_bd l m u (u + left) (by omega)
          go_wp2_with fail
          ((with_reducible refine (next_any A cap l m u (u + left) _ HR.out hn).mono ?_); rintro e w2 ⟨rfl, hb2⟩)
          have hsz2 := hb2.size
          have HR2 := Lib.hid ((HR.out.below hb2).more hsz2)
          have hb3 : Below w.heap.size w w2 := hb.trans (hb2.mono (by omega))
          by_cases hup : isUp l m u = true
          · have HN := Lib.hid (HLA.out.up hlt hup)
            generalize nextB l m u (u + left) = x at *
            go_wp2_with fail
            ((with_reducible refine (refUp_any A cap l m u _ HR2.out hn).mono ?_); rintro e w3 ⟨rfl, hb4⟩)
            have hb5 : Below w.heap.size w w3 := hb3.trans (hb4.mono (by omega))
            go_wp2
            go_roundw
            case rel => exact ⟨_, x, HN.out, rfl, rfl, hb5⟩
            case measure => simp [intOf]; omega
          · have hup' : isUp l m u = false := by simpa using hup
            have hlate := down_early HL.out hup'
            have HN := Lib.hid (HLA.out.down (hi := 2147483648) hlt (by omega) hup')
            obtain ⟨n3, n4, _⟩ := nextB_bd l m u 2147483648 (by omega)
            generalize nextB l m u (u + left) = x at *
            clear hup
            go_wp2_with fail
            ((with_reducible refine (refUp_any A cap l m u _ HR2.out hn).mono ?_); rintro e w3 ⟨rfl, hb4⟩)
            have hb5 : Below w.heap.size w w3 := hb3.trans (hb4.mono (by omega))
            have hsz4 := hb4.size
            have HR3 := Lib.hid ((HR2.out.below hb4).more hsz4)
            go_wp2_with fail
            ((with_reducible refine (next_any A cap l m u 2147483648 _ HR3.out hn).mono ?_); rintro e w4 ⟨rfl, hb6⟩)
            have hb7 : Below w.heap.size w w4 := hb5.trans (hb6.mono (by omega))
            go_wp2
            go_roundw
            case rel => exact ⟨left, _, HN.out, rfl, rfl, hb7⟩
            case measure => simp [intOf]; omega
        · go_wp2
          go_ret2
          refine ⟨ret_two (finT_eq HE.out (HLA.out.2.2.2 (by omega))) HE.out.symm, hb⟩
  · have HE := Lib.hid (finErr_chk (s := s) (n := n) hc)
    have HT := Lib.hid (finT_bad (m := m) (show finErr l s n ≠ 0 from by rw [HE.out]; exact hc))
    have hcb : (chk l != 0) = true := by simpa using hc
    clear hc
    go_enter Try.func19, Try.ntmps19
    go_wp2_with fail
    ((with_reducible refine (refCheck_any A cap l _ H.out hn).mono ?_); rintro e w1 ⟨rfl, hb1⟩)
    go_wp2
    go_ret2
    exact ⟨ret_two HT.out.symm HE.out.symm, hb1⟩
end Go.Proofs.Ytoacjdfhmoljpaa
