/- The walks of the reference's Hull, Inside and Sum. -/
import Derived.Test.YtopmolpnmpchoaaCvWrap
import Derived.Test.YtopmolpnmpchoaaCvMove
import Derived.Test.YtopmolpnmpchoaaCvInside
import Derived.Test.YtopmolpnmpchoaaCvSum
namespace Go.Proofs.Ytopmolpnmpchoaa
open Go.RowKit

theorem wrapRes_any (A : Option Addr) (cap : Nat) (l : List Pt) (w : World) (h : PSl w A cap l) (hb : Bd l) (hn : l.length ≤ 1000000) :
    Calls Try.prog 34 #[.slice A l.length cap] w fun e w' => (∃ A' c' L, e = .returned (.slice A' (L : List Pt).length c') ∧ PSl w' A' c' L ∧ (¬ Col l → L = hull1 l) ∧ (Col l → L.length < 3)) ∧ Below w.heap.size w w' := by
  by_cases hl : 0 < l.length
  · refine (wrap_any A cap l w h hb hl hn).mono ?_
    rintro e w' ⟨⟨A', c', s, hs, hmin, rfl, hp⟩, hbl⟩
    have hlow : ∀ q ∈ l, lv M0 s ≤ lv M0 q := fun q hq => by
      have hn : ¬ lv M0 q < lv M0 s := fun h => hmin q hq ((less_lv (hb q hq) (hb s hs)).2 h)
      omega
    exact ⟨⟨A', c', _, rfl, hp, fun hc => wrap_full hb hs hlow hc, fun hc => wrap_flat hb hs hlow hc⟩, hbl⟩
  · have hl0 : l = [] := List.eq_nil_of_length_eq_zero (by omega)
    subst hl0
    go_enter Try.func34, Try.ntmps34
    go_wp2
    go_ret
    exact ⟨⟨none, 0, [], rfl, PSl.none _, fun hc => absurd (fun x hx => by cases hx) hc, fun _ => by simp⟩, Below.refl _ _⟩

set_option maxRecDepth 100000 in
set_option maxHeartbeats 1000000 in
theorem refHull_any (A : Option Addr) (cap : Nat) (l : List Pt) (w : World) (h : PSl w A cap l) (hm : l.length ≤ 9223372036854775807) :
    Calls Try.prog 13 #[.slice A l.length cap] w fun e w' => HullPost w l e w' := by
  have H := hid h
  clear h
  by_cases hl : 160 < l.length
  · have HE := hid (hullE_long hl)
    go_enter Try.func13, Try.ntmps13
    go_wp2
    go_ret2
    exact hullPost_no HE.out (by decide) (Below.refl _ _)
  · go_enter Try.func13, Try.ntmps13
    go_wp2_with fail
    go_loopw [4] (fun i wr => ∃ k : Nat, k ≤ l.length ∧ i = .int .i64 k ∧ Hid (allIn (l.take k) = true) ∧ Hid (Below w.heap.size w wr)) (fun i _ => l.length - (intOf i).toNat)
    case atStart => exact ⟨0, Nat.zero_le _, rfl, rfl, Below.refl _ _⟩
    case round =>
      obtain ⟨k, hk, rfl, HA, HB⟩ := hrel
      by_cases hlt : k < l.length
      · obtain ⟨b, off, p, rfl, hB, hd, c0, c1⟩ := H.out.rd.at_ HB.out hlt
        have HD := hid hd
        clear hd
        go_wp2_with fail
        ((with_reducible refine (within_any p 4194304 _ (by decide) (by decide)).mono ?_); rintro e w1 ⟨rfl, hb1⟩)
        have HB1 := hid (HB.out.trans (hb1.mono HB.out.size))
        clear hb1
        by_cases hin : In 4194304 p
        · have hdec : decide (In 4194304 p) = true := decide_eq_true hin
          have HA2 := hid (allIn_take HA.out HD.out hin)
          clear hin
          go_wp2_with fail
          go_roundw
          case rel => exact ⟨k + 1, by omega, by go_num, HA2.out, HB1.out⟩
          case measure => simp [intOf]; omega
        · have hdec : decide (In 4194304 p) = false := decide_eq_false hin
          have HE := hid (hullE_range hl (allIn_not HD.out hin))
          clear hin
          go_wp2
          go_ret2
          exact hullPost_no HE.out (by decide) HB1.out
      · obtain rfl : l.length = k := by omega
        rw [List.take_length] at HA
        have H1 := hid (H.out.keep HB.out)
        go_wp2_with fail
        ((with_reducible refine (wrapRes_any A cap l _ H1.out (bd_of HA.out) (by omega)).mono ?_); rintro e w2 ⟨⟨A2, c2, L, rfl, hs2, hfull, hflat⟩, hb2⟩)
        have HB2 := hid (HB.out.trans (hb2.mono HB.out.size))
        have HS2 := hid hs2
        have HFU := hid hfull
        have HFL := hid hflat
        clear hs2 hb2 hfull hflat
        by_cases hc : Col l
        · have h3 := HFL.out hc
          have HE := hid (hullE_shape hl HA.out (by rw [hull1_flat hc]; rfl))
          clear hc
          go_wp2
          go_ret2
          exact hullPost_no HE.out (by decide) HB2.out
        · have hL := HFU.out hc
          have hL3 : 3 ≤ L.length := by rw [hL]; exact (hull1_ok (bd_of HA.out) hc).len
          have HE := hid (hullE_fine hl HA.out (by rw [← hL]; omega))
          have HV := hid (hullE_ok HE.out).2.2.1
          have HL := hid hL
          clear hL hc
          go_wp2
          go_ret2
          refine ⟨⟨A2, c2, ?_, ?_⟩, HB2.out⟩
          · rw [HE.out, HV.out, ← HL.out]; rfl
          · rw [HV.out, ← HL.out]; exact HS2.out

set_option maxRecDepth 100000 in
set_option maxHeartbeats 1000000 in
theorem refInside_any (A : Option Addr) (cap : Nat) (l : List Pt) (q : Pt) (w : World) (hs : PSl w A cap l) (hm : l.length ≤ 9223372036854775807) :
    Calls Try.prog 19 #[.slice A l.length cap, .agg #[.int .i64 q.x, .int .i64 q.y]] w fun e w' => e = .returned (.tuple #[.bool (insV l q), .int .i64 (hullE l)]) ∧ Below w.heap.size w w' := by
  have HB0 := hid (below1 w (.cells #[.int .i64 q.x, .int .i64 q.y] 31))
  have H := hid (hs.keep HB0.out)
  clear hs
  go_enter Try.func19, Try.ntmps19
  go_wp2_with fail
  ((with_reducible refine (refHull_any A cap l _ H.out hm).mono ?_); rintro e w1 ⟨⟨A1, c1, rfl, hs1⟩, hb1⟩)
  have HB1 := hid (HB0.out.trans (hb1.mono HB0.out.size))
  have q0 : w1.cell? ⟨w.heap.size, 0, none⟩ = some (.int .i64 q.x) := (hb1.cell (p := ⟨w.heap.size, 0, none⟩) (by simp)).trans (by simp [go_sem])
  have q1 : w1.cell? ⟨w.heap.size, 1, none⟩ = some (.int .i64 q.y) := (hb1.cell (p := ⟨w.heap.size, 1, none⟩) (by simp)).trans (by simp [go_sem])
  have HS1 := hid hs1
  clear hb1 hs1
  by_cases he : hullE l = 0
  · have HE := hid he
    have HIV := hid (insV_is (q := q) he)
    have HIN := hid (hullV_in (l := l))
    have hvl := (hullV_len (l := l)).2
    rw [he]
    clear he
    generalize hullV l = h at *
    go_wp2_with fail
    ((with_reducible refine (interior_any A1 c1 h q _ HS1.out.rd HIN.out (by omega)).mono ?_); rintro e w2 ⟨rfl, hb2⟩)
    have HB2 := hid (HB1.out.trans (hb2.mono HB1.out.size))
    clear hb2
    go_wp2
    go_ret2
    rw [HIV.out, HE.out]
    exact ⟨rfl, HB2.out⟩
  · have HN := hid (insV_no (q := q) he)
    have hb : (hullE l == 0) = false := by simp [he]
    clear he
    generalize hE : hullE l = er at *
    have HE := hid hE
    clear hE
    go_wp2
    go_ret2
    rw [HN.out, HE.out]
    exact ⟨rfl, HB1.out⟩

set_option maxRecDepth 100000 in
set_option maxHeartbeats 4000000 in
theorem refSum_any (A B : Option Addr) (ca cb : Nat) (a b : List Pt) (w : World) (h : PSl w A ca a) (h' : PSl w B cb b) (hm : a.length ≤ 9223372036854775807) (hm' : b.length ≤ 9223372036854775807) :
    Calls Try.prog 17 #[.slice A a.length ca, .slice B b.length cb] w fun e w' => SumPost w a b e w' := by
  have H := hid h
  have H' := hid h'
  clear h h'
  obtain ⟨i0, hi0, hz0, hz1, hz2⟩ := info_parts infoPt
  go_enter Try.func17, Try.ntmps17
  go_wp2_with fail
  ((with_reducible refine (refHull_any A ca a _ H.out hm).mono ?_); rintro e w1 ⟨⟨A1, c1, rfl, hs1⟩, hb1⟩)
  have HB1 := hid hb1
  have HS1 := hid hs1
  clear hb1 hs1
  have HV := hid (hullV_len (l := a))
  have HV' := hid (hullV_len (l := b))
  have HI := hid (hullV_in (l := a))
  have HI' := hid (hullV_in (l := b))
  by_cases he : hullE a = 0
  · have HE := hid he
    rw [he]
    clear he
    have H1 := hid (H'.out.keep HB1.out)
    go_wp2_with fail
    ((with_reducible refine (refHull_any B cb b _ H1.out hm').mono ?_); rintro e w2 ⟨⟨A2, c2, rfl, hs2⟩, hb2⟩)
    have HB2 := hid (HB1.out.trans (hb2.mono HB1.out.size))
    have HS2 := hid hs2
    have HS1' := hid (HS1.out.keep hb2)
    clear hb2 hs2 HS1
    by_cases he2 : hullE b = 0
    · have HE2 := hid he2
      rw [he2]
      clear he2
      have HSM : Hid (sm a b = hull1 (sumsP (hullV a) (hullV b))) := rfl
      have HNC : Hid (¬ Col (sumsP (hullV a) (hullV b))) := (sm_is HE.out HE2.out).notCol
      have HSO : Hid (sumE a b = 0 → sumV a b = sm a b) := fun h => (sumE_ok h).2.2.2.2.1
      have HSR : Hid (allIn (sm a b) = false → sumE a b = 3) := fun h => sumE_range HE.out HE2.out h
      have HSL : Hid (allIn (sm a b) = true → 160 < (sm a b).length → sumE a b = 5) := fun h k => sumE_long HE.out HE2.out h k
      have HSF : Hid (allIn (sm a b) = true → (sm a b).length ≤ 160 → sumE a b = 0) := fun h k => sumE_of HE.out HE2.out h k
      have HBD : Hid (Bd (sumsP (hullV a) (hullV b))) := sums_bd HI.out HI'.out
      have hn1 : (hullV a).length ≤ 160 := HV.out.2
      have hn2 : (hullV b).length ≤ 160 := HV'.out.2
      clear HE HE2 HV HV'
      generalize hullV a = x at *
      generalize hullV b = y at *
      go_wp2_with fail
      go_loopw [10, 11] (fun v i wr => ∃ k : Nat, k ≤ x.length ∧ i = .int .i64 k ∧ Hid (wr.ownsRow w2.heap.size 31 2 v (sumsP (x.take k) y).length (pCells (sumsP (x.take k) y))) ∧ Hid (Below w2.heap.size w2 wr)) (fun _ i _ => x.length - (intOf i).toNat)
      case atStart => exact ⟨0, Nat.zero_le _, rfl, ⟨by simp [sumsP, pCells], .inl ⟨rfl, rfl⟩⟩, Below.refl _ _⟩
      case round =>
        obtain ⟨k, hk, rfl, HO, HB⟩ := hrel
        by_cases hlt : k < x.length
        · obtain ⟨bx, off, p, rfl, hB, hd, c0, c1'⟩ := HS1'.out.rd.at_ HB.out hlt
          have HP := hid (sumsP_take (k := y) hd)
          have hpin := allIn_iff.1 HI.out p (List.mem_of_getElem? hd)
          have HPI := hid hpin
          have hsl := sumsP_len (x.take k) y
          rw [List.length_take, Nat.min_eq_left hk] at hsl
          have hml := Nat.mul_le_mul (show k ≤ 160 by omega) hn2
          clear hd hpin
          generalize hz : sumsP (x.take k) y = z at *
          have HZ := hid hz
          clear hz
          have hzl : z.length ≤ 25600 := by omega
          clear hsl hml
          have HSY := hid (HS2.out.keep HB.out)
          obtain ⟨A3, cc, rfl, _, _⟩ := own_slice HO.out
          have i1 : (0 : Int) ≤ (k : Int) := by omega
          have i2 : (k : Int) < (x.length : Int) := by omega
          go_wp2_with fail
          ((with_reducible refine (move_any A2 c2 y p _ HSY.out.rd (allIn_iff.1 HI'.out) HPI.out (by omega)).mono ?_); rintro e w3 ⟨⟨A4, c4, rfl, hs4⟩, hb4⟩)
          have HO3 := hid (own_belowT HO.out hb4)
          have HB3 := hid (HB.out.trans (hb4.mono HB.out.size))
          have HS4 := hid hs4
          have hml : (moved p y).length ≤ 160 := by rw [moved_len]; exact hn2
          clear hb4 hs4
          generalize hq : moved p y = my at *
          have HQ := hid hq
          clear hq
          have hsz3 := HB3.out.size
          go_wp2_with (at_builtin; refine wpList_append_rd (by rfl) (.tmp 36) (.tmp 42) 22 rfl w2.heap.size 31 i0 _ 2 16 Try.underlying22 hi0 hz0 hz1 hz2 rfl (by decide) (.slice A3 z.length cc) z.length (pCells z) rfl HO3.out A4 my.length c4 (pCells my) rfl (pCells_len my) ?m2 ?m3 (pCells_one my) ?m5 ?m6 ?m7 ?_)
          case m2 => exact fun e => ⟨HS4.out.rd.none_len e, HS4.out.nil e⟩
          case m3 => exact HS4.out.rd.news
          case m5 => unfold maxLen; omega
          case m6 => omega
          case m7 => omega
          intro v' w' hown' hgrow
          have HO' : Hid (w'.ownsRow w2.heap.size 31 2 v' (sumsP (x.take (k + 1)) y).length (pCells (sumsP (x.take (k + 1)) y))) := by
            show World.ownsRow _ _ _ _ _ _ _
            rw [HP.out, pCells_app, List.length_append]; exact hown'
          have HB' : Hid (Below w2.heap.size w2 w') := own_grow_below HO3.out HB3.out (Nat.le_refl _) hsz3 hgrow
          clear hown' hgrow
          go_wp2_with fail
          go_roundw
          case rel => exact ⟨k + 1, by omega, by go_num, HO'.out, HB'.out⟩
          case measure => simp [intOf]; omega
        · obtain rfl : x.length = k := by omega
          rw [List.take_length] at HO
          have hsl : (sumsP x y).length ≤ 25600 := by rw [sumsP_len]; exact Nat.mul_le_mul hn1 hn2
          obtain ⟨A3, c3, rfl, _, _⟩ := own_slice HO.out
          have HS3 := hid (PSl.of_own HO.out)
          have HB3 := hid (HB2.out.trans (HB.out.mono HB2.out.size))
          generalize hz : sumsP x y = z at *
          have HZ := hid hz
          clear hz
          go_wp2_with fail
          ((with_reducible refine (wrapRes_any A3 c3 z _ HS3.out HBD.out (by omega)).mono ?_); rintro e w4 ⟨⟨A4, c4, L, rfl, hs4, hfull, _⟩, hb4⟩)
          have hL := hfull HNC.out
          rw [← HSM.out] at hL
          subst hL
          have HB4 := hid (HB3.out.trans (hb4.mono HB3.out.size))
          have HS4 := hid hs4
          have hsl4 : (sm a b).length ≤ 25600 := by rw [HSM.out]; exact Nat.le_trans (hull1_len HBD.out) hsl
          clear hb4 hs4 HSM hfull
          generalize sm a b = s at *
          go_wp2_with fail
          go_loopw [13] (fun i wr => ∃ k : Nat, k ≤ s.length ∧ i = .int .i64 k ∧ Hid (allIn (s.take k) = true) ∧ Hid (Below w4.heap.size w4 wr)) (fun i _ => s.length - (intOf i).toNat)
          case atStart => exact ⟨0, Nat.zero_le _, rfl, rfl, Below.refl _ _⟩
          case round =>
            obtain ⟨k, hk, rfl, HA, HBq⟩ := hrel
            have HB5 := hid (HB4.out.trans (HBq.out.mono HB4.out.size))
            by_cases hlt : k < s.length
            · obtain ⟨b, off, p, rfl, hB, hd, c0, c1⟩ := HS4.out.rd.at_ HBq.out hlt
              have HD := hid hd
              clear hd
              go_wp2_with fail
              ((with_reducible refine (within_any p 4194304 _ (by decide) (by decide)).mono ?_); rintro e w6 ⟨rfl, hb6⟩)
              have HB6 := hid (HBq.out.trans (hb6.mono HBq.out.size))
              have HB7 := hid (HB5.out.trans (hb6.mono HB5.out.size))
              clear hb6
              by_cases hin : In 4194304 p
              · have hdec : decide (In 4194304 p) = true := decide_eq_true hin
                have HA2 := hid (allIn_take HA.out HD.out hin)
                clear hin
                go_wp2_with fail
                go_roundw
                case rel => exact ⟨k + 1, by omega, by go_num, HA2.out, HB6.out⟩
                case measure => simp [intOf]; omega
              · have hdec : decide (In 4194304 p) = false := decide_eq_false hin
                have HE := hid (HSR.out (allIn_not HD.out hin))
                clear hin HSR HSL HSF HSO
                go_wp2
                go_ret2
                exact sumPost_no HE.out (by decide) HB7.out
            · obtain rfl : s.length = k := by omega
              rw [List.take_length] at HA
              have HS5 := hid (HS4.out.keep HBq.out)
              by_cases hlong : 160 < s.length
              · have HE := hid (HSL.out HA.out hlong)
                clear HSR HSL HSF HSO
                go_wp2
                go_ret2
                exact sumPost_no HE.out (by decide) HB5.out
              · have HE := hid (HSF.out HA.out (by omega))
                have HV := hid (HSO.out HE.out)
                clear HSR HSL HSF HSO
                go_wp2
                go_ret2
                refine ⟨⟨A4, c4, ?_, ?_⟩, HB5.out⟩
                · rw [HE.out, HV.out]; rfl
                · rw [HV.out]; exact HS5.out
    · have HE2 := hid (sumE_second HE.out he2)
      have hb : (hullE b == 0) = false := by simp [he2]
      have HNZ := hid he2
      clear he2
      generalize hullE b = er at *
      go_wp2
      go_ret2
      exact sumPost_no HE2.out HNZ.out HB2.out
  · have HE := hid (sumE_first (b := b) he)
    have hb : (hullE a == 0) = false := by simp [he]
    have HNZ := hid he
    clear he
    generalize hullE a = er at *
    go_wp2
    go_ret2
    exact sumPost_no HE.out HNZ.out HB1.out
end Go.Proofs.Ytopmolpnmpchoaa
