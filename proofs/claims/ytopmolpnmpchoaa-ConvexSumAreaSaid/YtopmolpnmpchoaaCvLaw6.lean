/- The walk of the law ConvexSumArea: it returns true. -/
import Derived.Test.YtopmolpnmpchoaaCvOpen
namespace Go.Proofs.Ytopmolpnmpchoaa
open Go.RowKit

theorem tw_in {l : List Pt} (hb : Bd l) (hl : l.length ≤ 160) : -22517998136852480 ≤ tw l ∧ tw l ≤ 22517998136852480 := by
  by_cases h : 0 < l.length
  · have := sumTo_in hb h l.length
    unfold tw
    omega
  · have e : l = [] := List.eq_nil_of_length_eq_zero (by omega)
    subst e
    exact ⟨by decide, by decide⟩
theorem sumV_len {a b : List Pt} : (sumV a b).length ≤ 160 := by
  by_cases e : sumE a b = 0
  · rw [(sumE_ok e).2.2.2.2.1]; exact (sumE_ok e).2.2.2.1
  · rw [sumV_no e]; simp
theorem sumV_in {a b : List Pt} : allIn (sumV a b) = true := by
  by_cases e : sumE a b = 0
  · rw [(sumE_ok e).2.2.2.2.1]; exact (sumE_ok e).2.2.1
  · rw [sumV_no e]; rfl
theorem twice_of (A : Option Addr) (cap : Nat) (l : List Pt) (w : World) (h : PSl w A cap l) (hi : allIn l = true) (hl : l.length ≤ 160) :
    Calls Try.prog 29 #[.slice A l.length cap] w fun e w' => e = .returned (.int .i64 (tw l)) ∧ Below w.heap.size w w' := twice_any A cap l w h.rd (bd_of hi) hl

set_option maxRecDepth 100000 in
set_option maxHeartbeats 4000000 in
theorem convexSumArea_walk (A B : Option Addr) (ca cb : Nat) (a b : List Pt) (w : World) (h : PSl w A ca a) (h' : PSl w B cb b) (hm : a.length ≤ 9223372036854775807) (hm' : b.length ≤ 9223372036854775807) :
    Calls Try.prog 9 #[.slice A a.length ca, .slice B b.length cb] w fun e w' => e = .returned (.bool true) ∧ Below w.heap.size w w' := by
  have H := hid h
  have H' := hid h'
  clear h h'
  go_enter Try.func9, Try.ntmps9
  go_wp2_with fail
  ((with_reducible refine (few_any A B ca cb a.length b.length _ hm hm').mono ?_); rintro e w0 ⟨rfl, rfl⟩)
  generalize hfw : decide (a.length ≤ 20 ∧ b.length ≤ 20) = fw
  cases fw with
  | false =>
    clear hfw
    go_wp2_with fail
    ((with_reducible refine (awake_any _).mono ?_); rintro e w1 ⟨rfl, hb1⟩)
    go_wp2
    go_ret
    exact ⟨rfl, hb1⟩
  | true =>
    have hfew := of_decide_eq_true hfw
    clear hfw
    go_wp2_with fail
    ((with_reducible refine (near_any A ca a _ H.out.rd (by omega)).mono ?_); rintro e w1 ⟨rfl, hb1⟩)
    have HB1 := hid hb1
    have H1 := hid (H.out.keep hb1)
    have H1' := hid (H'.out.keep hb1)
    clear hb1
    generalize hna : decide (∀ p ∈ a, In 1048576 p) = na
    cases na with
    | false =>
      clear hna
      go_wp2_with fail
      ((with_reducible refine (awake_any _).mono ?_); rintro e w2 ⟨rfl, hb2⟩)
      go_wp2
      go_ret
      exact ⟨rfl, HB1.out.trans (hb2.mono HB1.out.size)⟩
    | true =>
      have HNA := hid (of_decide_eq_true hna)
      clear hna
      go_wp2_with fail
      ((with_reducible refine (near_any B cb b _ H1'.out.rd (by omega)).mono ?_); rintro e w2 ⟨rfl, hb2⟩)
      have HB2 := hid (HB1.out.trans (hb2.mono HB1.out.size))
      have H2 := hid (H1.out.keep hb2)
      have H2' := hid (H1'.out.keep hb2)
      clear hb2
      generalize decide (∀ p ∈ b, In 1048576 p) = nb
      cases nb with
      | false =>
        go_wp2_with fail
        ((with_reducible refine (awake_any _).mono ?_); rintro e w3 ⟨rfl, hb3⟩)
        go_wp2
        go_ret
        exact ⟨rfl, HB2.out.trans (hb3.mono HB2.out.size)⟩
      | true =>
        go_wp2_with fail
        ((with_reducible refine (Sum_any A B ca cb a b _ H2.out H2'.out hm hm').mono ?_); rintro e w3 ⟨⟨A3, c3, rfl, hs3⟩, hb3⟩)
        have HB3 := hid (HB2.out.trans (hb3.mono HB2.out.size))
        have H3 := hid (H2.out.keep hb3)
        have H3' := hid (H2'.out.keep hb3)
        have HS3 := hid hs3
        clear hb3 hs3
        go_wp2_with fail
        ((with_reducible refine (Sum_any B A cb ca b a _ H3'.out H3.out hm' hm).mono ?_); rintro e w4 ⟨⟨A4, c4, rfl, hs4⟩, hb4⟩)
        have HB4 := hid (HB3.out.trans (hb4.mono HB3.out.size))
        have H4 := hid (H3.out.keep hb4)
        have H4' := hid (H3'.out.keep hb4)
        have HS4 := hid (HS3.out.keep hb4)
        have HT4 := hid hs4
        clear hb4 hs4
        go_wp2_with fail
        ((with_reducible refine (Hull_any A ca a _ H4.out hm).mono ?_); rintro e w5 ⟨⟨A5, c5, rfl, hs5⟩, hb5⟩)
        have HB5 := hid (HB4.out.trans (hb5.mono HB4.out.size))
        have H5 := hid (H4.out.keep hb5)
        have H5' := hid (H4'.out.keep hb5)
        have HS5 := hid (HS4.out.keep hb5)
        have HT5 := hid (HT4.out.keep hb5)
        have HH5 := hid hs5
        clear hb5 hs5
        go_wp2_with fail
        ((with_reducible refine (Sum_any A A ca ca a a _ H5.out H5.out hm hm).mono ?_); rintro e w6 ⟨⟨A6, c6, rfl, hs6⟩, hb6⟩)
        have HB6 := hid (HB5.out.trans (hb6.mono HB5.out.size))
        have H6' := hid (H5'.out.keep hb6)
        have HS6 := hid (HS5.out.keep hb6)
        have HT6 := hid (HT5.out.keep hb6)
        have HH6 := hid (HH5.out.keep hb6)
        have HD6 := hid hs6
        clear hb6 hs6
        obtain ⟨hde, hdo⟩ := law_double HNA.out
        rw [hde]
        have HDO := hid hdo
        have HC1 : Hid (sumE a b = 0 → sumE b a = 0 ∧ sumV b a = sumV a b) := fun e => sumE_comm e
        have HC2 : Hid (sumE b a = 0 → sumE a b = 0) := fun e => (sumE_comm e).1
        have HN1 : Hid (sumE a b ≠ 0 → sumV a b = []) := fun e => sumV_no e
        have HN2 : Hid (sumE b a ≠ 0 → sumV b a = []) := fun e => sumV_no e
        have HAR : Hid (sumE a b = 0 → tw (hullV a) + tw (hullV b) ≤ tw (sumV a b)) := fun e => law_area e
        have HZA : Hid (sumE a b = 0 → hullE a = 0) := fun e => (sumE_ok e).1
        have HZB : Hid (sumE a b = 0 → hullE b = 0) := fun e => (sumE_ok e).2.1
        have HLS := hid (sumV_len (a := a) (b := b))
        have HLD := hid (sumV_len (a := a) (b := a))
        have HIS := hid (sumV_in (a := a) (b := b))
        have HID := hid (sumV_in (a := a) (b := a))
        have HLA := hid (hullV_len (l := a)).2
        have HIA := hid (hullV_in (l := a))
        have htA := tw_in (bd_of HIA.out) HLA.out
        have HLB := hid (hullV_len (l := b)).2
        have HIB := hid (hullV_in (l := b))
        have htB := tw_in (bd_of HIB.out) HLB.out
        clear hde hdo
        generalize sumV a a = d at *
        generalize hullV a = x at *
        by_cases he : hullE a = 0
        · obtain ⟨hd1, hd2⟩ := HDO.out he
          have HD2 := hid hd2
          rw [he]
          have HDL : Hid (d.length = x.length) := hd1
          have hwt : IntKind.i64.wrap (4 * tw x) = 4 * tw x := by rw [IntWalk.i64_in _ (by omega)]
          have HXL := HLA.out
          have HTD := hid (fun wx (hb : Below w6.heap.size w6 wx) => twice_of A6 c6 d wx (HD6.out.keep hb) HID.out HLD.out)
          rw [hd1, hd2] at HTD
          rw [hd1]
          clear hd1 hd2
          have b1 : ((x.length : Int) == (x.length : Int)) = true := by simp
          have b2 : (4 * tw x == 4 * tw x) = true := by simp
          have HE := hid he
          clear he HDO
          go_wp2_with fail
          ((with_reducible refine (HTD.out _ (Below.refl _ _)).mono ?_); rintro e w7 ⟨rfl, hb7⟩)
          have HB7 := hid (HB6.out.trans (hb7.mono HB6.out.size))
          have H7' := hid (H6'.out.keep hb7)
          have HS7 := hid (HS6.out.keep hb7)
          have HT7 := hid (HT6.out.keep hb7)
          have HH7 := hid (HH6.out.keep hb7)
          clear hb7
          go_wp2_with fail
          ((with_reducible refine (twice_of A5 c5 x _ HH7.out HIA.out HLA.out).mono ?_); rintro e w8 ⟨rfl, hb8⟩)
          have HB8 := hid (HB7.out.trans (hb8.mono HB7.out.size))
          have H8' := hid (H7'.out.keep hb8)
          have HS8 := hid (HS7.out.keep hb8)
          have HT8 := hid (HT7.out.keep hb8)
          have HH8 := hid (HH7.out.keep hb8)
          clear hb8
          by_cases hse : sumE a b = 0
          · obtain ⟨hc1, hc2⟩ := HC1.out hse
            have HART := hid (HAR.out hse)
            have hzb := HZB.out hse
            rw [hse, hc1]
            have HC22 := hid hc2
            rw [hc2] at HT8 ⊢
            clear hse hc1 hc2 HC1 HC2 HN1 HN2 HAR HZA HZB
            generalize sumV a b = s at *
            go_wp2_with fail
            ((with_reducible refine (Hull_any B cb b _ H8'.out hm').mono ?_); rintro e w9 ⟨⟨A9, c9, rfl, hs9⟩, hb9⟩)
            rw [hzb]
            have HB9 := hid (HB8.out.trans (hb9.mono HB8.out.size))
            have HS9 := hid (HS8.out.keep hb9)
            have HT9 := hid (HT8.out.keep hb9)
            have HH9 := hid (HH8.out.keep hb9)
            have HY9 := hid hs9
            clear hb9 hs9 hzb
            generalize hullV b = y at *
            have hsl := HLS.out
            have b3 : decide (s = s) = true := decide_eq_true rfl
            have hwx : IntKind.i64.wrap (tw x + tw y) = tw x + tw y := by rw [IntWalk.i64_in _ (by omega)]
            go_wp2_with fail
            ((with_reducible refine (same_any A3 A4 c3 c4 s s _ HS9.out.rd HT9.out.rd (by omega)).mono ?_); rintro e w10 ⟨rfl, hb10⟩)
            have HB10 := hid (HB9.out.trans (hb10.mono HB9.out.size))
            have HS10 := hid (HS9.out.keep hb10)
            have HH10 := hid (HH9.out.keep hb10)
            have HY10 := hid (HY9.out.keep hb10)
            clear hb10
            go_wp2_with fail
            ((with_reducible refine (twice_of A3 c3 s _ HS10.out HIS.out HLS.out).mono ?_); rintro e w11 ⟨rfl, hb11⟩)
            have HB11 := hid (HB10.out.trans (hb11.mono HB10.out.size))
            have HH11 := hid (HH10.out.keep hb11)
            have HY11 := hid (HY10.out.keep hb11)
            clear hb11
            go_wp2_with fail
            ((with_reducible refine (twice_of A5 c5 x _ HH11.out HIA.out HLA.out).mono ?_); rintro e w12 ⟨rfl, hb12⟩)
            have HB12 := hid (HB11.out.trans (hb12.mono HB11.out.size))
            have HY12 := hid (HY11.out.keep hb12)
            clear hb12
            go_wp2_with fail
            ((with_reducible refine (twice_of A9 c9 y _ HY12.out HIB.out HLB.out).mono ?_); rintro e w13 ⟨rfl, hb13⟩)
            have HB13 := hid (HB12.out.trans (hb13.mono HB12.out.size))
            have har := HART.out
            clear hb13
            generalize tw x = tx at *
            generalize tw y = ty at *
            generalize tw s = ts at *
            go_wp2_with fail
            ((with_reducible refine (awake_any _).mono ?_); rintro e w14 ⟨rfl, hb14⟩)
            go_wp2
            go_ret
            exact ⟨rfl, HB13.out.trans (hb14.mono HB13.out.size)⟩
          · skip
            have hf : sumE b a ≠ 0 := fun e => hse (HC2.out e)
            have hs1 := HN1.out hse
            have hs2 := HN2.out hf
            rw [hs1, hs2]
            have be : (sumE a b == 0) = false := by simp [hse]
            have bf : (sumE b a == 0) = false := by simp [hf]
            have bf2 : (sumE b a != 0) = true := by simp [hf]
            have be2 : (sumE a b != 0) = true := by simp [hse]
            clear hs1 hs2 HC1 HC2 HN1 HN2 HAR HZA HZB
            generalize sumE a b = e1 at *
            generalize sumE b a = e2 at *
            go_wp2_with fail
            ((with_reducible refine (awake_any _).mono ?_); rintro e w9 ⟨rfl, hb9⟩)
            go_wp2
            go_ret
            exact ⟨rfl, HB8.out.trans (hb9.mono HB8.out.size)⟩
        · have hse : sumE a b ≠ 0 := fun e => he (HZA.out e)
          have hea : (hullE a == 0) = false := by simp [he]
          have heq : (hullE a == hullE a) = true := by simp
          clear he HDO
          have hf : sumE b a ≠ 0 := fun e => hse (HC2.out e)
          have hs1 := HN1.out hse
          have hs2 := HN2.out hf
          rw [hs1, hs2]
          have be : (sumE a b == 0) = false := by simp [hse]
          have bf : (sumE b a == 0) = false := by simp [hf]
          have bf2 : (sumE b a != 0) = true := by simp [hf]
          have be2 : (sumE a b != 0) = true := by simp [hse]
          clear hs1 hs2 HC1 HC2 HN1 HN2 HAR HZA HZB
          generalize sumE a b = e1 at *
          generalize sumE b a = e2 at *
          go_wp2_with fail
          ((with_reducible refine (awake_any _).mono ?_); rintro e w9 ⟨rfl, hb9⟩)
          go_wp2
          go_ret
          exact ⟨rfl, HB6.out.trans (hb9.mono HB6.out.size)⟩
end Go.Proofs.Ytopmolpnmpchoaa
