/- The walk of the law ConvexSupport: it returns true. -/
import Derived.Test.YtopmolpnmpchoaaCvOpen
namespace Go.Proofs.Ytopmolpnmpchoaa
open Go.RowKit

theorem map_neg {a : List Pt} (h : allIn a = true) : a.map negW = a.map neg := List.map_congr_left fun p hp => negW_in (allIn_iff.1 h p hp)
theorem dot_in {d p : Pt} : -8388608000 ≤ dotL d p ∧ dotL d p ≤ 8388608000 := by
  have h1 := mul_in (lim_in 4194304 p.x (by decide)) (lim_in 1000 d.x (by decide))
  have h2 := mul_in (lim_in 4194304 p.y (by decide)) (lim_in 1000 d.y (by decide))
  unfold dotL
  omega
theorem sup_in (d : Pt) (l : List Pt) : -8388608000 ≤ supF (dotL d) l ∧ supF (dotL d) l ≤ 8388608000 := by
  by_cases e : l = []
  · rw [e]
    show (-8388608000 : Int) ≤ 0 ∧ (0 : Int) ≤ 8388608000
    decide
  · obtain ⟨⟨p, _, e1⟩, _⟩ := supF_max (dotL d) e
    rw [e1]; exact dot_in
set_option maxRecDepth 100000 in
set_option maxHeartbeats 4000000 in
theorem convexSupport_walk (A B : Option Addr) (ca cb : Nat) (a b : List Pt) (d : Pt) (w : World) (h : PSl w A ca a) (h' : PSl w B cb b) (hm : a.length ≤ 9223372036854775807) (hm' : b.length ≤ 9223372036854775807) :
    Calls Try.prog 6 #[.slice A a.length ca, .slice B b.length cb, .agg #[.int .i64 d.x, .int .i64 d.y]] w fun e w' => e = .returned (.bool true) ∧ Below w.heap.size w w' := by
  have HB0 := hid (below1 w (.cells #[.int .i64 d.x, .int .i64 d.y] 31))
  have H := hid (h.keep HB0.out)
  have H' := hid (h'.keep HB0.out)
  clear h h'
  go_enter Try.func6, Try.ntmps6
  go_wp2_with fail
  ((with_reducible refine (few_any A B ca cb a.length b.length _ hm hm').mono ?_); rintro e w0 ⟨rfl, rfl⟩)
  generalize hfw : decide (a.length ≤ 20 ∧ b.length ≤ 20) = fw
  cases fw with
  | false =>
    clear hfw
    go_wp2_with fail
    ((with_reducible refine (awake_any _).mono ?_); rintro e w1 ⟨rfl, hb1⟩)
    go_wp2
    go_ret
    exact ⟨rfl, HB0.out.trans (hb1.mono HB0.out.size)⟩
  | true =>
    have hfew := of_decide_eq_true hfw
    clear hfw
    go_wp2_with fail
    ((with_reducible refine (within_any d 1000 _ (by decide) (by decide)).mono ?_); rintro e w1 ⟨rfl, hb1⟩)
    have HB1 := hid (HB0.out.trans (hb1.mono HB0.out.size))
    have H1 := hid (H.out.keep hb1)
    have H1' := hid (H'.out.keep hb1)
    have q0 : w1.cell? ⟨w.heap.size, 0, none⟩ = some (.int .i64 d.x) := (hb1.cell (p := ⟨w.heap.size, 0, none⟩) (by simp)).trans (by simp [go_sem])
    have q1 : w1.cell? ⟨w.heap.size, 1, none⟩ = some (.int .i64 d.y) := (hb1.cell (p := ⟨w.heap.size, 1, none⟩) (by simp)).trans (by simp [go_sem])
    have hs1 : w.heap.size < w1.heap.size := by have := hb1.size; simp at this; omega
    clear hb1
    generalize hin : decide (In 1000 d) = ind
    cases ind with
    | false =>
      clear hin q0 q1
      go_wp2_with fail
      ((with_reducible refine (awake_any _).mono ?_); rintro e w2 ⟨rfl, hb2⟩)
      go_wp2
      go_ret
      exact ⟨rfl, HB1.out.trans (hb2.mono HB1.out.size)⟩
    | true =>
      have HDI := hid (of_decide_eq_true hin)
      clear hin
      go_wp2_with fail
      ((with_reducible refine (Sum_any A B ca cb a b _ H1.out H1'.out hm hm').mono ?_); rintro e w2 ⟨⟨A2, c2, rfl, hs2⟩, hb2⟩)
      have HB2 := hid (HB1.out.trans (hb2.mono HB1.out.size))
      have H2 := hid (H1.out.keep hb2)
      have H2' := hid (H1'.out.keep hb2)
      have HS2 := hid hs2
      have q2 := (hb2.cell (p := ⟨w.heap.size, 0, none⟩) hs1).trans q0
      have q3 := (hb2.cell (p := ⟨w.heap.size, 1, none⟩) hs1).trans q1
      have hsw2 : w.heap.size < w2.heap.size := by have := hb2.size; omega
      clear hb2 hs2 q0 q1
      go_wp2_with fail
      ((with_reducible refine (Hull_any A ca a _ H2.out hm).mono ?_); rintro e w3 ⟨⟨A3, c3, rfl, hs3⟩, hb3⟩)
      have HB3 := hid (HB2.out.trans (hb3.mono HB2.out.size))
      have H3 := hid (H2.out.keep hb3)
      have H3' := hid (H2'.out.keep hb3)
      have HS3 := hid (HS2.out.keep hb3)
      have HV3 := hid hs3
      have q4 := (hb3.cell (p := ⟨w.heap.size, 0, none⟩) hsw2).trans q2
      have q5 := (hb3.cell (p := ⟨w.heap.size, 1, none⟩) hsw2).trans q3
      have hsw3 : w.heap.size < w3.heap.size := by have := hb3.size; omega
      clear hb3 hs3 q2 q3
      have HLN := hid (law_support_neg (a := a) (d := d))
      have hvl := (hullV_len (l := a)).2
      have hdin := HDI.out
      unfold In at hdin
      have HNEG : Hid (neg d = ⟨-d.x, -d.y⟩) := rfl
      by_cases he : hullE a = 0
      · have HLH := hid (law_support_hull HDI.out he)
        have HIA := hid (hullE_ok he).2.1
        have HE := hid he
        have HSUM : Hid (sumE a b = 0 → supF (dotL d) (sumV a b) = supF (dotL d) a + supF (dotL d) b) := fun e => (law_support_sum HDI.out e).2
        have HSN : Hid (sumE a b ≠ 0 → (sumV a b).length = 0) := fun e => by rw [sumV_no e]; rfl
        have hsvl : (sumV a b).length ≤ 160 := by
          by_cases e : sumE a b = 0
          · rw [(sumE_ok e).2.2.2.2.1]; exact (sumE_ok e).2.2.2.1
          · rw [sumV_no e]; simp
        rw [he]
        clear he
        have HC1 : Hid (∀ wx, Below w3.heap.size w3 wx → Calls Try.prog 22 #[.slice A3 (hullV a).length c3, .agg #[.int .i64 d.x, .int .i64 d.y]] wx fun e w' => e = .returned (.int .i64 (supF (dotL d) a)) ∧ Below wx.heap.size wx w') := fun wx hb => by
          have := support_any A3 c3 (hullV a) d wx (HV3.out.keep hb).rd (by omega)
          rw [HLH.out] at this; exact this
        have HC2 : Hid (∀ wx, Below w3.heap.size w3 wx → Calls Try.prog 22 #[.slice A a.length ca, .agg #[.int .i64 d.x, .int .i64 d.y]] wx fun e w' => e = .returned (.int .i64 (supF (dotL d) a)) ∧ Below wx.heap.size wx w') := fun wx hb => support_any A ca a d wx (H3.out.keep hb).rd (by omega)
        have HC3 : Hid (∀ wx, Below w3.heap.size w3 wx → Calls Try.prog 20 #[.slice A a.length ca] wx fun e w' => (∃ A' c', e = .returned (.slice A' (a.map neg).length c') ∧ PSl w' A' c' (a.map neg)) ∧ Below wx.heap.size wx w') := fun wx hb => by
          have := negate_any A ca a wx (H3.out.keep hb).rd (by omega)
          rw [map_neg HIA.out] at this; exact this
        have HC4 : Hid (∀ (A' : Option Addr) (c' : Nat) wx, PSl wx A' c' (a.map neg) → Calls Try.prog 22 #[.slice A' (a.map neg).length c', .agg #[.int .i64 d.x, .int .i64 d.y]] wx fun e w' => e = .returned (.int .i64 (supF (dotL (neg d)) a)) ∧ Below wx.heap.size wx w') := fun A' c' wx hp => by
          have := support_any A' c' (a.map neg) d wx hp.rd (by rw [List.length_map]; omega)
          rw [HLN.out] at this; exact this
        have HC5 : Hid (∀ wx, Below w3.heap.size w3 wx → Calls Try.prog 22 #[.slice A a.length ca, .agg #[.int .i64 (-d.x), .int .i64 (-d.y)]] wx fun e w' => e = .returned (.int .i64 (supF (dotL (neg d)) a)) ∧ Below wx.heap.size wx w') := fun wx hb => support_any A ca a (neg d) wx (H3.out.keep hb).rd (by omega)
        have HC6 : Hid (∀ wx, Below w3.heap.size w3 wx → Calls Try.prog 22 #[.slice A2 (sumV a b).length c2, .agg #[.int .i64 d.x, .int .i64 d.y]] wx fun e w' => e = .returned (.int .i64 (supF (dotL d) (sumV a b))) ∧ Below wx.heap.size wx w') := fun wx hb => support_any A2 c2 (sumV a b) d wx (HS3.out.keep hb).rd (by omega)
        have HC7 : Hid (∀ wx, Below w3.heap.size w3 wx → Calls Try.prog 22 #[.slice B b.length cb, .agg #[.int .i64 d.x, .int .i64 d.y]] wx fun e w' => e = .returned (.int .i64 (supF (dotL d) b)) ∧ Below wx.heap.size wx w') := fun wx hb => support_any B cb b d wx (H3'.out.keep hb).rd (by omega)
        have HK : Hid (∀ wx, Below w3.heap.size w3 wx → (wx.cell? ⟨w.heap.size, 0, none⟩ = some (.int .i64 d.x) ∧ wx.cell? ⟨w.heap.size, 1, none⟩ = some (.int .i64 d.y)) ∧ Below w3.heap.size w3 wx) :=
          fun wx hb => ⟨⟨(hb.cell (p := ⟨w.heap.size, _, none⟩) hsw3).trans q4, (hb.cell (p := ⟨w.heap.size, _, none⟩) hsw3).trans q5⟩, hb⟩
        have hsa := sup_in d a
        have hsb := sup_in d b
        have hlm : (a.map neg).length = a.length := List.length_map ..
        generalize a.map neg = na at *
        generalize hullV a = ha at *
        generalize sumV a b = sv at *
        generalize sumE a b = se at *
        generalize supF (dotL (neg d)) a = s1 at *
        generalize supF (dotL d) a = s2 at *
        generalize supF (dotL d) b = s3 at *
        have b1 : (s1 == s1) = true := by simp
        have b2 : (s2 == s2) = true := by simp
        have hw1 : IntKind.i64.wrap (-d.x) = -d.x := by rw [IntWalk.i64_in _ (by omega)]
        have hw2 : IntKind.i64.wrap (-d.y) = -d.y := by rw [IntWalk.i64_in _ (by omega)]
        have hw3 : IntKind.i64.wrap (s2 + s3) = s2 + s3 := by rw [IntWalk.i64_in _ (by omega)]
        clear q4 q5 hlm
        go_wp2_with fail
        go_cut [58] (fun s58 wx => s58 = .bool false ∧ Below w3.heap.size w3 wx)
        case first =>
          go_region_held3 (fun wx => (wx.cell? ⟨w.heap.size, 0, none⟩ = some (.int .i64 d.x) ∧ wx.cell? ⟨w.heap.size, 1, none⟩ = some (.int .i64 d.y)) ∧ Below w3.heap.size w3 wx)
            (first | exact HK.out _ (Below.refl _ _).drew | (go_split_ands; first | exact HK.out _ (keepB (by assumption) hbE) | exact HK.out _ (keepB (by assumption) hbD) | exact HK.out _ (keepB (by assumption) hbC) | exact HK.out _ (keepB (by assumption) hbB) | exact HK.out _ (keepB (by assumption) hbA)))
            (first
              | (go_at_call 22; with_reducible refine (HC1.out _ ?_).mono ?_; (go_split_ands; assumption); rintro e wA ⟨rfl, hbA⟩)
              | (go_at_call 22; with_reducible refine (HC2.out _ ?_).mono ?_; (go_split_ands; assumption); rintro e wB ⟨rfl, hbB⟩)
              | (go_at_call 20; with_reducible refine (HC3.out _ ?_).mono ?_; (go_split_ands; assumption); rintro e wC ⟨⟨AC, cC, rfl, hpC⟩, hbC⟩)
              | (go_at_call 22; with_reducible refine (HC4.out _ _ _ hpC).mono ?_; rintro e wD ⟨rfl, hbD⟩)
              | (go_at_call 22; with_reducible refine (HC5.out _ ?_).mono ?_; (go_split_ands; assumption); rintro e wE ⟨rfl, hbE⟩))
          all_goals
            rename_i hSl
            have HBZ := hid hSl.2
            clear hSl
            go_wp2_with fail
            go_meet
            exact ⟨rfl, HBZ.out⟩
        case rest =>
          obtain ⟨rfl, hb4⟩ := hcut
          obtain ⟨w4, rfl⟩ : ∃ w4 : World, w4 = wc := ⟨_, rfl⟩
          have HB4 := hid hb4
          have HB4W := hid (HB3.out.trans (hb4.mono HB3.out.size))
          clear hb4
          by_cases hse : se = 0
          · have HSQ := hid (HSUM.out hse)
            subst hse
            have HK4 : Hid (∀ wx, Below w4.heap.size w4 wx → (wx.cell? ⟨w.heap.size, 0, none⟩ = some (.int .i64 d.x) ∧ wx.cell? ⟨w.heap.size, 1, none⟩ = some (.int .i64 d.y)) ∧ Below w4.heap.size w4 wx) :=
              fun wx hb => ⟨(HK.out wx (keepB HB4.out hb)).1, hb⟩
            rw [HSQ.out] at HC6
            have b3 : (s2 + s3 == s2 + s3) = true := by simp
            clear HSUM HSN
            go_wp2_with fail
            go_region_held3 (fun wx => (wx.cell? ⟨w.heap.size, 0, none⟩ = some (.int .i64 d.x) ∧ wx.cell? ⟨w.heap.size, 1, none⟩ = some (.int .i64 d.y)) ∧ Below w4.heap.size w4 wx)
              (first | exact HK4.out _ (Below.refl _ _).drew | (go_split_ands; first | exact HK4.out _ (keepB (by assumption) hbD) | exact HK4.out _ (keepB (by assumption) hbC) | exact HK4.out _ (keepB (by assumption) hbB) | exact HK4.out _ (keepB (by assumption) hbA)))
              (first
                | (go_at_call 22; with_reducible refine (HC6.out _ ?_).mono ?_; (go_split_ands; exact keepB HB4.out (by assumption)); rintro e wA ⟨rfl, hbA⟩)
                | (go_at_call 22; with_reducible refine (HC2.out _ ?_).mono ?_; (go_split_ands; exact keepB HB4.out (by assumption)); rintro e wB ⟨rfl, hbB⟩)
                | (go_at_call 22; with_reducible refine (HC7.out _ ?_).mono ?_; (go_split_ands; exact keepB HB4.out (by assumption)); rintro e wC ⟨rfl, hbC⟩)
                | (go_at_call 11; with_reducible refine (awake_any _).mono ?_; rintro e wD ⟨rfl, hbD⟩))
            all_goals
              rename_i hSl
              have HBZ := hid hSl.2
              clear hSl
              go_wp2
              go_ret
              exact ⟨rfl, HB4W.out.trans (HBZ.out.mono HB4W.out.size)⟩
          · have hsl := HSN.out hse
            have hseb : (se == 0) = false := by simp [hse]
            have hsle : sv = [] := List.eq_nil_of_length_eq_zero hsl
            subst hsle
            clear hse hsl HSUM HSN HC1 HC2 HC3 HC4 HC5 HC6 HC7 HK
            go_wp2_with fail
            ((with_reducible refine (awake_any _).mono ?_); rintro e w5 ⟨rfl, hb5⟩)
            go_wp2
            go_ret
            exact ⟨rfl, HB4W.out.trans (hb5.mono HB4W.out.size)⟩
      · have HSE := hid (sumE_first (b := b) he)
        have hse : sumE a b ≠ 0 := by rw [HSE.out]; exact he
        have hsv : sumV a b = [] := sumV_no hse
        rw [hsv, HSE.out]
        have heb : (hullE a == 0) = false := by simp [he]
        clear he hse
        generalize hullE a = er at *
        generalize hullV a = ha at *
        clear q4 q5
        go_wp2_with fail
        go_quiet (fail)
        go_wp2_with fail
        ((with_reducible refine (awake_any _).mono ?_); rintro e w5 ⟨rfl, hb5⟩)
        go_wp2
        go_ret
        exact ⟨rfl, HB3.out.trans ((below_drewN (Below.refl _ _) nq).mono HB3.out.size |>.trans (hb5.mono HB3.out.size))⟩
end Go.Proofs.Ytopmolpnmpchoaa
