/- The law FlowWaits: its walk. -/
import Derived.Test.YtelgkangojmhdaaFlowLaw3
namespace Go.Proofs.Ytelgkangojmhdaa
open Go.RowKit

set_option maxRecDepth 100000 in
set_option maxHeartbeats 2000000 in
theorem flowWaits_walk (x : Ln) (w : World) (h : LnOk w x) : Calls Try.prog 9 #[x.val] w fun e w' => e = .returned (.bool true) ∧ Below w.heap.size w w' := by
  unfold Ln.val
  have HL := Lib.hid h
  clear h
  go_enter Try.func9, Try.ntmps9
  go_wp2_with fail
  obtain ⟨w1, hw1, hk1, hb1⟩ := lnBox x w
  rw [← hw1]
  have HK1 := Lib.hid hk1
  have HB1 := Lib.hid hb1
  have HL1 := Lib.hid (HL.out.go hb1)
  clear hw1 hk1 hb1
  ((with_reducible refine (lnFew' HL1.out).mono ?_); rintro e w2 ⟨rfl, hb2⟩)
  have HB2 := Lib.hid (keepB HB1.out hb2)
  have HL2 := Lib.hid (HL1.out.go hb2)
  have HK2 := Lib.hid (HK1.out.below hb2 HK1.out.lt)
  clear hb2
  cases hf : fewL x with
  | false =>
    clear hf
    go_wp2_with fail
    ((with_reducible refine (ex49_any _).mono ?_); rintro e w3 ⟨rfl, hb3⟩)
    have HB3 := Lib.hid (keepB HB2.out hb3)
    clear hb3
    go_wp2_with fail
    go_ret
    exact ⟨rfl, HB3.out⟩
  | true =>
    have HS := Lib.hid (fewL_ok hf)
    have hl5 := (fewL_ok hf).l
    have hb70 := (fewL_ok hf).b
    have hd21 := (fewL_ok hf).d
    have hs20 := (fewL_ok hf).s2
    have hlen := simRes_len HS.out
    clear hf
    have a0 := HK2.out.cell (i := 0) rfl
    have a1 := HK2.out.cell (i := 1) rfl
    have a2 := HK2.out.cell (i := 2) rfl
    have a3 := HK2.out.cell (i := 3) rfl
    go_wp2_with fail
    ((with_reducible refine (lnSim' HL2.out HS.out).mono ?_); rintro e w3 ⟨⟨A1, c1, rfl, h1, hc1⟩, hb3⟩)
    have HB3 := Lib.hid (keepB HB2.out hb3)
    have HL3 := Lib.hid (HL2.out.go hb3)
    have HK3 := Lib.hid (HK2.out.below hb3 HK2.out.lt)
    have H1 := Lib.hid h1
    clear hb3 h1 a0 a1 a2 a3
    rcases simRes_cases x.l x.ss x.bs x.ds with ⟨hne, hnil⟩ | ⟨hz, at_, hran⟩
    · generalize simRes x.l x.ss x.bs x.ds = R at *
      obtain ⟨R1, R2⟩ := R
      simp only at hne hnil
      subst hnil
      have hneb : (R1 != 0) = true := by simpa using hne
      clear hne
      go_wp2_with fail
      ((with_reducible refine (ex49_any _).mono ?_); rintro e w4 ⟨rfl, hb4⟩)
      have HB4 := Lib.hid (keepB HB3.out hb4)
      clear hb4
      go_wp2_with fail
      go_ret
      exact ⟨rfl, HB4.out⟩
    · generalize simRes x.l x.ss x.bs x.ds = R at *
      obtain ⟨R1, ts⟩ := R
      simp only at hz hran hlen H1 hc1 ⊢
      subst hz
      have HR := Lib.hid hran
      clear hran
      go_wp2_with fail
      go_loopw [5, 6, 7, 9, 24] (fun _ _ _ _ j wr => ∃ i : Nat, i ≤ ts.length ∧ j = .int .i64 i ∧ Below w3.heap.size w3 wr) (fun _ _ _ _ j _ => ts.length - (intOf j).toNat)
      case atStart => exact ⟨0, Nat.zero_le _, rfl, Below.refl _ _⟩
      case round =>
        obtain ⟨i, hi, rfl, hb⟩ := hrel
        have HB := Lib.hid hb
        have HBW := Lib.hid (keepB HB3.out hb)
        have hbs := hb.size
        clear hb
        by_cases hlt : i < ts.length
        · obtain ⟨bt, offt, t, hA, hbt, hd, hat⟩ := H1.out.at_ HB.out hlt
          obtain ⟨y, o, hy⟩ := HR.out.nth hd
          obtain ⟨d0, d1, d2, d3, d4⟩ := hat
          have hto := hy.op
          have ho := hy.ho
          rw [hto] at d1
          obtain ⟨bo, offo, op, hAo, hbo, hopx, hato⟩ := HL.out.o.at_ (Below.refl _ _) ho
          obtain ⟨_, _, _, ⟨Af, cf, hc3, _, haf⟩, _⟩ := hato
          have hafe := af_at hopx
          have hso := (HS.out.o op (List.mem_of_getElem? hopx)).2.1
          have HW : Hid (∀ u : Tsk, waits x.l t u = (u.b == t.a && (u.st == t.st || (u.tk == t.tk && hasB op.after u.op)))) := by
            refine Lib.hid fun u => ?_
            unfold waits
            rw [hto, Int.toNat_natCast, hafe]
          have HWS : Hid (((t.a == 0) || (ts.take i).any (waits x.l t)) = true) := by
            rcases HR.out.waits hd with e | e
            · exact Lib.hid (by simp [e])
            · exact Lib.hid (by rw [e]; simp)
          have HPREV : Hid (∀ j, i = j + 1 → ∀ u, ts[j]? = some u → u.a ≤ t.a) := Lib.hid fun j hj u hu => HR.out.asc hu (by rw [← hj]; exact hd)
          have HC3 := Lib.hid hc3
          have HAF := Lib.hid haf
          have HAO := Lib.hid hAo
          have i0 : (0 : Int) ≤ (o : Int) := by omega
          have i1 : (o : Int) < (x.l.length : Int) := by omega
          have i2 : ¬ (o : Int) < 0 := by omega
          have k0 : (0 : Int) ≤ (i : Int) := by omega
          have k1 : (i : Int) < (ts.length : Int) := by omega
          have k2 : (i : Int) ≤ (c1 : Int) := by omega
          subst hA
          clear hd hy hto hopx hafe hc3 haf hAo
          go_wp2_with fail
          obtain ⟨w5, hw5, e0, e1, e2, e3, e4, hv5, hb5⟩ := tk_new wr t.tk (o : Int) t.st t.a t.b
          rw [← hw5]
          have HB5 := Lib.hid (keepB HB.out hb5)
          have HBW5 := Lib.hid (keepB HBW.out hb5)
          have HE5 : Hid (∀ wx, Below w5.heap.size w5 wx → wx.cell? ⟨wr.heap.size, 0, none⟩ = some (.int .i64 t.tk) ∧ wx.cell? ⟨wr.heap.size, 1, none⟩ = some (.int .i64 (o : Int)) ∧ wx.cell? ⟨wr.heap.size, 2, none⟩ = some (.int .i64 t.st) ∧ wx.cell? ⟨wr.heap.size, 3, none⟩ = some (.int .i64 t.a) ∧ wx.cell? ⟨wr.heap.size, 4, none⟩ = some (.int .i64 t.b)) :=
            Lib.hid fun wx hb => ⟨(hb.cell (p := ⟨wr.heap.size, _, none⟩) hv5).trans e0, (hb.cell (p := ⟨wr.heap.size, _, none⟩) hv5).trans e1, (hb.cell (p := ⟨wr.heap.size, _, none⟩) hv5).trans e2, (hb.cell (p := ⟨wr.heap.size, _, none⟩) hv5).trans e3, (hb.cell (p := ⟨wr.heap.size, _, none⟩) hv5).trans e4⟩
          have a0 := (HK3.out.below HB5.out HK3.out.lt).cell (i := 0) rfl
          clear hw5 hb5 d0 d1 d2 d3 d4 e0 e2 e4
          have hcase : ((decide ((0 : Int) < (i : Int)) = false) ∧ decide (0 < i) = false) ∨ ∃ (j : Nat) (p : Tsk), i = j + 1 ∧ j < ts.length ∧ ts[j]? = some p ∧ ¬ t.a < p.a ∧ w5.cell? ⟨bt, offt + j * 5 + 3, none⟩ = some (.int .i64 p.a) := by
            by_cases hz : i = 0
            · exact .inl ⟨by simp [hz], by simp [hz]⟩
            · obtain ⟨bt', offt', p, hA', _, hdp, hatp⟩ := H1.out.at_ HB5.out (show i - 1 < ts.length by omega)
              obtain ⟨rfl, rfl⟩ : bt' = bt ∧ offt' = offt := by injection hA' with h1; injection h1 with h1 h2; exact ⟨h1.symm, h2.symm⟩
              refine .inr ⟨i - 1, p, by omega, by omega, hdp, ?_, hatp.2.2.2.1⟩
              have := HPREV.out (i - 1) (by omega) p hdp
              omega
          have HIN : Hid (∀ wy, Below w5.heap.size w5 wy → LnOk wy x) := Lib.hid fun wy hb => HL.out.go (keepB HBW5.out hb)
          have y1 : decide ((o : Int) < 0) = false := by simp
          have y2 : decide (x.l.length ≤ o) = false := by simp; omega
          rcases hcase with ⟨z1, z2⟩ | ⟨j, p, rfl, hj1, hdp, hpa, cp⟩
          · go_quiet (fail)
            clear z1 z2
            clear y1 y2
            go_wp2_with fail
            have HB8 := Lib.hid (below_drewN (Below.refl w5.heap.size w5) nq)
            revert HB8
            generalize w5.drewN nq = w8
            intro HB8
            clear e1 e3 a0
            obtain ⟨wo, rfl⟩ : ∃ wo : World, wo = wr := ⟨_, rfl⟩
            go_loopw [7, 9, 62] (fun v _ j wq => ∃ k : Nat, k ≤ i ∧ j = .int .i64 k ∧ v = .bool ((t.a == 0) || (ts.take k).any (waits x.l t)) ∧ Below w5.heap.size w5 wq) (fun _ _ j _ => i - (intOf j).toNat)
            case atStart => exact ⟨0, Nat.zero_le _, rfl, by rw [List.take_zero, List.any_nil, Bool.or_false], HB8.out⟩
            case round =>
              clear HB8
              obtain ⟨k, hk, rfl, rfl, hb⟩ := hrel
              have HBq := Lib.hid hb
              have HB3q := Lib.hid (keepB HB5.out hb)
              have HBWq := Lib.hid (keepB HBW5.out hb)
              clear hb
              by_cases hlk : k < i
              · obtain ⟨bu, offu, u, hAu, hbu, hdu, hatu⟩ := H1.out.at_ HB3q.out (show k < ts.length by omega)
                obtain ⟨rfl, rfl⟩ : bu = bt ∧ offu = offt := by injection hAu with h1; injection h1 with h1 h2; exact ⟨h1.symm, h2.symm⟩
                obtain ⟨d0, d1, d2, d3, d4⟩ := hatu
                have HNX : Hid (((t.a == 0) || (ts.take (k + 1)).any (waits x.l t)) = (((t.a == 0) || (ts.take k).any (waits x.l t)) || waits x.l t u)) := by
                  show _ = _
                  rw [take_tk hdu, List.any_append]
                  simp [Bool.or_assoc]
                have hwu := HW.out u
                rw [hwu] at HNX
                generalize ((t.a == 0) || (ts.take k).any (waits x.l t)) = v0 at *
                have q0 : (0 : Int) ≤ (k : Int) := by omega
                have q1 : (k : Int) < ((i : Nat) : Int) := by omega
                clear hdu hAu hwu
                go_wp2_with fail
                obtain ⟨w6, hw6, f0, f1, f2, f3, f4, hv6, hb6⟩ := tk_new wr u.tk u.op u.st u.a u.b
                rw [← hw6]
                have HB6 := Lib.hid (keepB HBq.out hb6)
                have HBW6 := Lib.hid (keepB HBWq.out hb6)
                obtain ⟨g0, g1, g2, g3, g4⟩ := HE5.out w6 HB6.out
                have a0 := (HK3.out.below (keepB HB3q.out hb6) HK3.out.lt).cell (i := 0) rfl
                have c3 := (HBW6.out.cell (p := ⟨bo, _, none⟩) hbo).trans HC3.out
                rw [HAO.out] at a0
                clear hw6 hb6 d0 d1 d2 d3 d4
                cases v0 with
                | true =>
                  go_quiet (fail)
                  go_wp2_with fail
                  go_roundw
                  case rel => exact ⟨k + 1, by omega, by go_num, by rw [HNX.out]; rfl, below_drewN HB6.out _⟩
                  case measure => simp [intOf]; omega
                | false =>
                  by_cases m1 : (u.b == t.a) = true
                  · by_cases m2 : (u.st == t.st) = true
                    · go_quiet (fail)
                      go_wp2_with fail
                      go_roundw
                      case rel => exact ⟨k + 1, by omega, by go_num, by rw [HNX.out, m1, m2]; rfl, below_drewN HB6.out _⟩
                      case measure => simp [intOf]; omega
                    · have m2 : (u.st == t.st) = false := by simpa using m2
                      by_cases m3 : (u.tk == t.tk) = true
                      · cases m4 : hasB op.after u.op with
                        | true =>
                          have HH : Hid (∀ n, Calls Try.prog 18 #[.slice Af op.after.length cf, .int .i64 u.op] (w6.drewN n) fun e w' => e = .returned (.bool true) ∧ w' = w6.drewN n) :=
                            Lib.hid fun n => (has49_any Af cf op.after u.op (w6.drewN n) (HAF.out.go (below_drewN HBW6.out n)) (by omega)).mono fun e w' ⟨he, hw⟩ => ⟨by rw [he, m4], hw.symm⟩
                          rw [m4] at HNX
                          clear m4
                          go_quiet ((go_at_call 18; exact Calls.quiet_of_same (HH.out _)))
                          go_wp2_with fail
                          go_roundw
                          case rel => exact ⟨k + 1, by omega, by go_num, by rw [HNX.out, m1, m2, m3]; rfl, below_drewN HB6.out _⟩
                          case measure => simp [intOf]; omega
                        | false =>
                          have HH : Hid (∀ n, Calls Try.prog 18 #[.slice Af op.after.length cf, .int .i64 u.op] (w6.drewN n) fun e w' => e = .returned (.bool false) ∧ w' = w6.drewN n) :=
                            Lib.hid fun n => (has49_any Af cf op.after u.op (w6.drewN n) (HAF.out.go (below_drewN HBW6.out n)) (by omega)).mono fun e w' ⟨he, hw⟩ => ⟨by rw [he, m4], hw.symm⟩
                          rw [m4] at HNX
                          clear m4
                          go_quiet ((go_at_call 18; exact Calls.quiet_of_same (HH.out _)))
                          go_wp2_with fail
                          go_roundw
                          case rel => exact ⟨k + 1, by omega, by go_num, by rw [HNX.out, m1, m2, m3]; rfl, below_drewN HB6.out _⟩
                          case measure => simp [intOf]; omega
                      · have m3 : (u.tk == t.tk) = false := by simpa using m3
                        go_quiet (fail)
                        go_wp2_with fail
                        go_roundw
                        case rel => exact ⟨k + 1, by omega, by go_num, by rw [HNX.out, m1, m2, m3]; rfl, below_drewN HB6.out _⟩
                        case measure => simp [intOf]; omega
                  · have m1 : (u.b == t.a) = false := by simpa using m1
                    go_quiet (fail)
                    go_wp2_with fail
                    go_roundw
                    case rel => exact ⟨k + 1, by omega, by go_num, by rw [HNX.out, m1]; rfl, below_drewN HB6.out _⟩
                    case measure => simp [intOf]; omega
              · obtain rfl : i = k := by omega
                rw [HWS.out]
                go_wp2_with fail
                go_roundw
                case rel => exact ⟨i + 1, by omega, by go_num, HB3q.out⟩
                case measure => simp [intOf]; omega
          · clear hdp
            have j0 : (0 : Int) ≤ (j : Int) := by omega
            have j1 : (j : Int) < (ts.length : Int) := by omega
            go_quiet (fail)
            clear cp
            clear y1 y2
            go_wp2_with fail
            have HB8 := Lib.hid (below_drewN (Below.refl w5.heap.size w5) nq)
            revert HB8
            generalize w5.drewN nq = w8
            intro HB8
            clear e1 e3 a0
            obtain ⟨wo, rfl⟩ : ∃ wo : World, wo = wr := ⟨_, rfl⟩
            go_loopw [7, 9, 62] (fun v _ jj wq => ∃ k : Nat, k ≤ (j + 1) ∧ jj = .int .i64 k ∧ v = .bool ((t.a == 0) || (ts.take k).any (waits x.l t)) ∧ Below w5.heap.size w5 wq) (fun _ _ jj _ => (j + 1) - (intOf jj).toNat)
            case atStart => exact ⟨0, Nat.zero_le _, rfl, by rw [List.take_zero, List.any_nil, Bool.or_false], HB8.out⟩
            case round =>
              clear HB8
              obtain ⟨k, hk, rfl, rfl, hb⟩ := hrel
              have HBq := Lib.hid hb
              have HB3q := Lib.hid (keepB HB5.out hb)
              have HBWq := Lib.hid (keepB HBW5.out hb)
              clear hb
              by_cases hlk : k < (j + 1)
              · obtain ⟨bu, offu, u, hAu, hbu, hdu, hatu⟩ := H1.out.at_ HB3q.out (show k < ts.length by omega)
                obtain ⟨rfl, rfl⟩ : bu = bt ∧ offu = offt := by injection hAu with h1; injection h1 with h1 h2; exact ⟨h1.symm, h2.symm⟩
                obtain ⟨d0, d1, d2, d3, d4⟩ := hatu
                have HNX : Hid (((t.a == 0) || (ts.take (k + 1)).any (waits x.l t)) = (((t.a == 0) || (ts.take k).any (waits x.l t)) || waits x.l t u)) := by
                  show _ = _
                  rw [take_tk hdu, List.any_append]
                  simp [Bool.or_assoc]
                have hwu := HW.out u
                rw [hwu] at HNX
                generalize ((t.a == 0) || (ts.take k).any (waits x.l t)) = v0 at *
                have q0 : (0 : Int) ≤ (k : Int) := by omega
                have q1 : (k : Int) < (((j + 1) : Nat) : Int) := by omega
                clear hdu hAu hwu
                go_wp2_with fail
                obtain ⟨w6, hw6, f0, f1, f2, f3, f4, hv6, hb6⟩ := tk_new wr u.tk u.op u.st u.a u.b
                rw [← hw6]
                have HB6 := Lib.hid (keepB HBq.out hb6)
                have HBW6 := Lib.hid (keepB HBWq.out hb6)
                obtain ⟨g0, g1, g2, g3, g4⟩ := HE5.out w6 HB6.out
                have a0 := (HK3.out.below (keepB HB3q.out hb6) HK3.out.lt).cell (i := 0) rfl
                have c3 := (HBW6.out.cell (p := ⟨bo, _, none⟩) hbo).trans HC3.out
                rw [HAO.out] at a0
                clear hw6 hb6 d0 d1 d2 d3 d4
                cases v0 with
                | true =>
                  go_quiet (fail)
                  go_wp2_with fail
                  go_roundw
                  case rel => exact ⟨k + 1, by omega, by go_num, by rw [HNX.out]; rfl, below_drewN HB6.out _⟩
                  case measure => simp [intOf]; omega
                | false =>
                  by_cases m1 : (u.b == t.a) = true
                  · by_cases m2 : (u.st == t.st) = true
                    · go_quiet (fail)
                      go_wp2_with fail
                      go_roundw
                      case rel => exact ⟨k + 1, by omega, by go_num, by rw [HNX.out, m1, m2]; rfl, below_drewN HB6.out _⟩
                      case measure => simp [intOf]; omega
                    · have m2 : (u.st == t.st) = false := by simpa using m2
                      by_cases m3 : (u.tk == t.tk) = true
                      · cases m4 : hasB op.after u.op with
                        | true =>
                          have HH : Hid (∀ n, Calls Try.prog 18 #[.slice Af op.after.length cf, .int .i64 u.op] (w6.drewN n) fun e w' => e = .returned (.bool true) ∧ w' = w6.drewN n) :=
                            Lib.hid fun n => (has49_any Af cf op.after u.op (w6.drewN n) (HAF.out.go (below_drewN HBW6.out n)) (by omega)).mono fun e w' ⟨he, hw⟩ => ⟨by rw [he, m4], hw.symm⟩
                          rw [m4] at HNX
                          clear m4
                          go_quiet ((go_at_call 18; exact Calls.quiet_of_same (HH.out _)))
                          go_wp2_with fail
                          go_roundw
                          case rel => exact ⟨k + 1, by omega, by go_num, by rw [HNX.out, m1, m2, m3]; rfl, below_drewN HB6.out _⟩
                          case measure => simp [intOf]; omega
                        | false =>
                          have HH : Hid (∀ n, Calls Try.prog 18 #[.slice Af op.after.length cf, .int .i64 u.op] (w6.drewN n) fun e w' => e = .returned (.bool false) ∧ w' = w6.drewN n) :=
                            Lib.hid fun n => (has49_any Af cf op.after u.op (w6.drewN n) (HAF.out.go (below_drewN HBW6.out n)) (by omega)).mono fun e w' ⟨he, hw⟩ => ⟨by rw [he, m4], hw.symm⟩
                          rw [m4] at HNX
                          clear m4
                          go_quiet ((go_at_call 18; exact Calls.quiet_of_same (HH.out _)))
                          go_wp2_with fail
                          go_roundw
                          case rel => exact ⟨k + 1, by omega, by go_num, by rw [HNX.out, m1, m2, m3]; rfl, below_drewN HB6.out _⟩
                          case measure => simp [intOf]; omega
                      · have m3 : (u.tk == t.tk) = false := by simpa using m3
                        go_quiet (fail)
                        go_wp2_with fail
                        go_roundw
                        case rel => exact ⟨k + 1, by omega, by go_num, by rw [HNX.out, m1, m2, m3]; rfl, below_drewN HB6.out _⟩
                        case measure => simp [intOf]; omega
                  · have m1 : (u.b == t.a) = false := by simpa using m1
                    go_quiet (fail)
                    go_wp2_with fail
                    go_roundw
                    case rel => exact ⟨k + 1, by omega, by go_num, by rw [HNX.out, m1]; rfl, below_drewN HB6.out _⟩
                    case measure => simp [intOf]; omega
              · obtain rfl : (j + 1) = k := by omega
                rw [HWS.out]
                go_wp2_with fail
                go_roundw
                case rel => exact ⟨(j + 1) + 1, by omega, by go_num, HB3q.out⟩
                case measure => simp [intOf]; omega
        · obtain rfl : ts.length = i := by omega
          go_wp2_with fail
          ((with_reducible refine (ex49_any _).mono ?_); rintro e w5 ⟨rfl, hb5⟩)
          have HB5 := Lib.hid (keepB HBW.out hb5)
          clear hb5
          go_wp2_with fail
          go_ret
          exact ⟨rfl, HB5.out⟩
end Go.Proofs.Ytelgkangojmhdaa
