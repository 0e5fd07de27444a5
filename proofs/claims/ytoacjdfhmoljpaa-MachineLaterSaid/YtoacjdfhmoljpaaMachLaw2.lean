/- Walks of the laws MachineExact and MachineCounts: they return true. -/
import Derived.Test.YtoacjdfhmoljpaaMachAwake
namespace Go.Proofs.Ytoacjdfhmoljpaa
open Go.RowKit

theorem lost_fin {l : List Dn} {m s n : Int} (h : finErr l s n = 0) : lostT l m s (finT l m s n) = down (isUp l m) s (finT l m s n) := by
  obtain ⟨h1, h2, h3, h4, h5⟩ := finErr_zero h
  obtain ⟨b1, b2⟩ := finT_le (m := m) h
  unfold lostT
  rw [show lim s = s from by unfold lim; omega]
  by_cases ht : finT l m s n ≤ 1073741824
  · rw [show lim (finT l m s n) = finT l m s n from by unfold lim; omega]
  · rw [show lim (finT l m s n) = 1073741824 from by unfold lim; omega]
    rw [down_add (isUp l m) (a := s) (b := 1073741824) (c := finT l m s n) h3 (by omega), down_up (a := 1073741824) (fun t ht _ => up_late (chk_zero h1).2 m t ht)]
    omega

set_option maxHeartbeats 1000000 in
theorem machineExact_walk (A : Option Addr) (cap : Nat) (l : List Dn) (m s n : Int) (w : World) (h : DRd w w.heap.size A l) (hm : l.length ≤ 9223372036854775807) :
    Calls Try.prog 7 #[.slice A l.length cap, .int .i64 m, .int .i64 s, .int .i64 n] w fun e w' => e = .returned (.bool true) ∧ Below w.heap.size w w' := by
  have H := Lib.hid h
  clear h
  by_cases hl : 20 < l.length
  · have hlb : decide (20 < l.length) = true := by simpa using hl
    go_enter Try.func7, Try.ntmps7
    go_wp2_with fail
    ((with_reducible refine (awake_any _).mono ?_); rintro e w1 ⟨rfl, hb1⟩)
    go_wp2
    go_ret
    exact ⟨rfl, hb1⟩
  · have hlb : decide (20 < l.length) = false := by simpa using hl
    by_cases he : finErr l s n = 0
    · have HL := Lib.hid (lost_fin (m := m) he)
      have hF := finT_ok (m := m) he
      obtain ⟨t1, t2⟩ := finT_le (m := m) he
      obtain ⟨hc, s1, s2, n1, n2⟩ := finErr_zero he
      have HF := Lib.hid hF
      have HE := Lib.hid he
      have hd := down_nonneg (isUp l m) s (finT l m s n)
      have he2 : finT l m s n - s - down (isUp l m) s (finT l m s n) = n := hF.2.1
      have hd2 : down (isUp l m) s (finT l m s n) ≤ finT l m s n - s := by omega
      clear he hc hF
      go_enter Try.func7, Try.ntmps7
      have HE2 := Lib.hid he2
      clear he2
      go_wp2_with fail
      ((with_reducible refine (finish_any A cap l m s n _ H.out (by omega)).mono ?_); rintro e w1 ⟨rfl, hb1⟩)
      have HR1 := Lib.hid ((H.out.below hb1).more hb1.size)
      rw [HE.out]
      generalize finT l m s n = t at *
      have g1 : ¬ t < s := by omega
      have g2 : ¬ 2147483648 < t := by omega
      go_wp2_with fail
      ((with_reducible refine (lost_any A cap l m s t _ HR1.out (by omega)).mono ?_); rintro e w2 ⟨rfl, hb2⟩)
      rw [HL.out]
      generalize down (isUp l m) s t = dn at *
      have HR2 := Lib.hid ((HR1.out.below hb2).more hb2.size)
      have HB2 := Lib.hid (hb1.trans (hb2.mono hb1.size))
      clear hb1 hb2
      have hne : (t - s - dn != n) = false := by rw [HE2.out]; simp
      by_cases hn0 : n = 0
      · have hts : t = s := HF.out.2.2.1 hn0
        have hb0 : (n == 0) = true := by simp [hn0]
        have hbt : (t == s) = true := by simp [hts]
        have HN := Lib.hid hn0
        have HT := Lib.hid hts
        clear hn0 hts
        go_wp2_with fail
        ((with_reducible refine (awake_any _).mono ?_); rintro e w3 ⟨rfl, hb3⟩)
        have HB3 := Lib.hid (HB2.out.trans (hb3.mono HB2.out.size))
        clear hb3
        go_wp2
        go_ret
        exact ⟨rfl, HB3.out⟩
      · have hup := HF.out.2.2.2 (by omega)
        have hb0 : (n == 0) = false := by simp [hn0]
        have hpos : 0 < n := by omega
        have HUP := Lib.hid hup
        clear hup
        go_wp2_with fail
        ((with_reducible refine (up_any A cap l m (t - 1) _ HR2.out (by omega)).mono ?_); rintro e w3 ⟨rfl, hb3⟩)
        rw [HUP.out]
        have HB3 := Lib.hid (HB2.out.trans (hb3.mono HB2.out.size))
        clear hb3
        go_wp2_with fail
        ((with_reducible refine (awake_any _).mono ?_); rintro e w4 ⟨rfl, hb4⟩)
        have HB4 := Lib.hid (HB3.out.trans (hb4.mono HB3.out.size))
        clear hb4
        go_wp2
        go_ret
        exact ⟨rfl, HB4.out⟩
    · have HT := Lib.hid (finT_bad (m := m) he)
      have hne : (finErr l s n != 0) = true := by simpa using he
      by_cases hc : chk l = 0
      · have h3 : finErr l s n = 3 := by
          unfold finErr at he ⊢; rw [if_neg (by simp [hc])] at he ⊢
          by_cases hx : s < 0 ∨ 1073741824 < s ∨ n < 0 ∨ 1073741824 < n
          · rw [if_pos hx]
          · rw [if_neg hx] at he; exact absurd rfl he
        have H3 := Lib.hid h3
        have HC := Lib.hid hc
        clear he h3 hc hne
        go_enter Try.func7, Try.ntmps7
        go_wp2_with fail
        ((with_reducible refine (finish_any A cap l m s n _ H.out (by omega)).mono ?_); rintro e w1 ⟨rfl, hb1⟩)
        have HR1 := Lib.hid ((H.out.below hb1).more hb1.size)
        rw [H3.out, HT.out]
        go_wp2_with fail
        ((with_reducible refine (check_any A cap l _ HR1.out (by omega)).mono ?_); rintro e w2 ⟨rfl, hb2⟩)
        rw [HC.out]
        go_wp2_with fail
        ((with_reducible refine (awake_any _).mono ?_); rintro e w3 ⟨rfl, hb3⟩)
        have HB2 := Lib.hid (hb1.trans (hb2.mono hb1.size))
        have HB3 := Lib.hid (HB2.out.trans (hb3.mono HB2.out.size))
        clear hb1 hb2 hb3
        go_wp2
        go_ret
        exact ⟨rfl, HB3.out⟩
      · have HC := Lib.hid (finErr_chk (s := s) (n := n) hc)
        have hcb : (chk l != 0) = true := by simpa using hc
        clear he hne hc
        go_enter Try.func7, Try.ntmps7
        go_wp2_with fail
        ((with_reducible refine (finish_any A cap l m s n _ H.out (by omega)).mono ?_); rintro e w1 ⟨rfl, hb1⟩)
        have HR1 := Lib.hid ((H.out.below hb1).more hb1.size)
        rw [HC.out, HT.out]
        go_wp2_with fail
        ((with_reducible refine (check_any A cap l _ HR1.out (by omega)).mono ?_); rintro e w2 ⟨rfl, hb2⟩)
        go_wp2_with fail
        ((with_reducible refine (awake_any _).mono ?_); rintro e w3 ⟨rfl, hb3⟩)
        have HB2 := Lib.hid (hb1.trans (hb2.mono hb1.size))
        have HB3 := Lib.hid (HB2.out.trans (hb3.mono HB2.out.size))
        clear hb1 hb2 hb3
        go_wp2
        go_ret
        exact ⟨rfl, HB3.out⟩

theorem down_snoc (p : Int → Bool) {a b : Int} (h : a ≤ b) : down p a (b + 1) = down p a b + (if p b then 0 else 1) := by
  rw [down_add p h (b := b) (c := b + 1) (by omega), down_one]

set_option maxHeartbeats 1000000 in
theorem machineCounts_walk (A : Option Addr) (cap : Nat) (l : List Dn) (m a n : Int) (w : World) (h : DRd w w.heap.size A l) (hm : l.length ≤ 9223372036854775807) (hn0 : 0 ≤ n) (hn1 : n ≤ 255) :
    Calls Try.prog 8 #[.slice A l.length cap, .int .i64 m, .int .i64 a, .int .u8 n] w fun e w' => e = .returned (.bool true) ∧ Below w.heap.size w w' := by
  have H := Lib.hid h
  clear h
  by_cases hg : 20 < l.length ∨ a < 0 ∨ 1073741524 < a ∨ 200 < n
  · by_cases g1 : 20 < l.length
    · have hlb : decide (20 < l.length) = true := by simpa using g1
      clear hg
      go_enter Try.func8, Try.ntmps8
      go_wp2_with fail
      ((with_reducible refine (awake_any _).mono ?_); rintro e w1 ⟨rfl, hb1⟩)
      go_wp2
      go_ret
      exact ⟨rfl, hb1⟩
    · have hlb : decide (20 < l.length) = false := by simpa using g1
      by_cases g2 : a < 0
      · clear hg
        go_enter Try.func8, Try.ntmps8
        go_wp2_with fail
        ((with_reducible refine (awake_any _).mono ?_); rintro e w1 ⟨rfl, hb1⟩)
        go_wp2
        go_ret
        exact ⟨rfl, hb1⟩
      · by_cases g3 : 1073741524 < a
        · clear hg
          go_enter Try.func8, Try.ntmps8
          go_wp2_with fail
          ((with_reducible refine (awake_any _).mono ?_); rintro e w1 ⟨rfl, hb1⟩)
          go_wp2
          go_ret
          exact ⟨rfl, hb1⟩
        · have g4 : 200 < n := by omega
          clear hg
          go_enter Try.func8, Try.ntmps8
          go_wp2_with fail
          ((with_reducible refine (awake_any _).mono ?_); rintro e w1 ⟨rfl, hb1⟩)
          go_wp2
          go_ret
          exact ⟨rfl, hb1⟩
  · have g1 : l.length ≤ 20 := by omega
    have hlb : decide (20 < l.length) = false := by simpa using g1
    have g2 : 0 ≤ a := by omega
    have g3 : a ≤ 1073741524 := by omega
    have g4 : n ≤ 200 := by omega
    have HL := Lib.hid (show lostT l m a (a + n) = down (isUp l m) a (a + n) from by unfold lostT; rw [show lim a = a from by unfold lim; omega, show lim (a + n) = a + n from by unfold lim; omega])
    clear hg
    go_enter Try.func8, Try.ntmps8
    go_wp2_with fail
    go_loopw [9, 10] (fun x t wr => ∃ u : Int, a ≤ u ∧ u ≤ a + n ∧ t = .int .i64 u ∧ x = .int .i64 (down (isUp l m) a u) ∧ Below w.heap.size w wr) (fun _ t _ => (a + n - intOf t).toNat)
    case atStart => exact ⟨a, Int.le_refl _, by omega, rfl, int_eq (down_none _ (Int.le_refl _)).symm, Below.refl _ _⟩
    case round =>
      obtain ⟨u, u1, u2, rfl, rfl, hb⟩ := hrel
      have hsz := hb.size
      have hbd := down_bd (isUp l m) a u u1
      have HR := Lib.hid ((H.out.below hb).more hsz)
      have hcv : IntKind.i64.wrap n = n := IntWalk.i64_in _ (by omega)
      by_cases hlt : u < a + n
      · have HS := Lib.hid (down_snoc (isUp l m) u1)
        go_wp2_with fail
        ((with_reducible refine (up_any A cap l m u _ HR.out (by omega)).mono ?_); rintro e w1 ⟨rfl, hb1⟩)
        have HB1 := Lib.hid (hb.trans (hb1.mono hsz))
        clear hb1
        by_cases hup : isUp l m u = true
        · have HS' : Hid (down (isUp l m) a (u + 1) = down (isUp l m) a u) := by have := HS.out; rw [if_pos hup] at this; show _ = _; omega
          generalize down (isUp l m) a u = dd at *
          go_wp2
          go_roundw
          case rel => exact ⟨u + 1, by omega, by omega, rfl, int_eq HS'.out.symm, HB1.out⟩
          case measure => simp [intOf]; omega
        · have HS' : Hid (down (isUp l m) a (u + 1) = down (isUp l m) a u + 1) := by have := HS.out; rw [if_neg hup] at this; exact this
          have hup' : isUp l m u = false := by simpa using hup
          clear hup
          generalize down (isUp l m) a u = dd at *
          go_wp2
          go_roundw
          case rel => exact ⟨u + 1, by omega, by omega, rfl, int_eq HS'.out.symm, HB1.out⟩
          case measure => simp [intOf]; omega
      · have hue : u = a + n := by omega
        subst hue
        go_wp2_with fail
        ((with_reducible refine (lost_any A cap l m a (a + n) _ HR.out (by omega)).mono ?_); rintro e w1 ⟨rfl, hb1⟩)
        rw [HL.out]
        have HB1 := Lib.hid (hb.trans (hb1.mono hsz))
        clear hb1
        go_wp2_with fail
        ((with_reducible refine (awake_any _).mono ?_); rintro e w2 ⟨rfl, hb2⟩)
        have HB2 := Lib.hid (HB1.out.trans (hb2.mono HB1.out.size))
        clear hb2
        go_wp2
        go_ret
        exact ⟨rfl, HB2.out⟩
end Go.Proofs.Ytoacjdfhmoljpaa
