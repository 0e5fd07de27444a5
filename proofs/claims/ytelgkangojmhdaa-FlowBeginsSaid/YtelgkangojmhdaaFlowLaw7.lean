/- The law FlowBegins: its walk. -/
import Derived.Test.YtelgkangojmhdaaFlowLaw5
namespace Go.Proofs.Ytelgkangojmhdaa
open Go.RowKit

theorem Ran.inst {l : List Opn} {ss : List (List Int)} {at_ : List Int} {bs : List Bn} {ds : List M.Dn} {ts : List Tsk} (h : Ran l ss at_ bs ds ts) {o : Nat} (ho : o < l.length) : ∃ (s : Nat) (q : List Int), at_.getD o 0 = s ∧ s < ss.length ∧ ss[s]? = some q ∧ hasB q (o : Int) = true := by
  rcases (puts_val' _ _ h.pt).1 o ho with h1 | ⟨s, h1, h2⟩
  · exfalso
    have hl := (puts_len _ _ h.pt).1
    have : hasB at_ (-1) = true := hasB_found (k := o) (by rw [← h1]; exact getD_some (by omega))
    rw [h.full] at this; cases this
  · obtain ⟨q, h3, h4⟩ := mem_flat.1 h1
    exact ⟨s, q, h2, (List.getElem?_eq_some_iff.1 h3).1, h3, hasB_mem.2 h4⟩

set_option maxRecDepth 100000 in
set_option maxHeartbeats 4000000 in
theorem flowBegins_walk (x : Ln) (w : World) (h : LnOk w x) : Calls Try.prog 3 #[x.val] w fun e w' => e = .returned (.bool true) ∧ Below w.heap.size w w' := by
  obtain ⟨A, cap, l, S, capS, ss, Ab, capB, bs, D, capD, ds⟩ := x
  unfold Ln.val
  simp only
  have HL : Hid (LnE w A cap l S capS ss Ab capB bs D capD ds) := Lib.hid h
  clear h
  go_enter Try.func3, Try.ntmps3
  go_wp2_with fail
  obtain ⟨w1, hw1, hk1, hb1⟩ := lnBox ⟨A, cap, l, S, capS, ss, Ab, capB, bs, D, capD, ds⟩ w
  simp only at hw1 hk1
  rw [← hw1]
  have HK1 := Lib.hid hk1
  have HB1 := Lib.hid hb1
  have HL1 := Lib.hid (HL.out.go hb1)
  clear hw1 hk1 hb1
  ((with_reducible refine (lnFewE HL1.out).mono ?_); rintro e w2 ⟨rfl, hb2⟩)
  have HB2 := Lib.hid (keepB HB1.out hb2)
  have HL2 := Lib.hid (HL1.out.go hb2)
  have HK2 := Lib.hid (HK1.out.below hb2 HK1.out.lt)
  clear hb2
  cases hf : fewL ⟨A, cap, l, S, capS, ss, Ab, capB, bs, D, capD, ds⟩ with
  | false =>
    clear hf
    go_wp2_with fail
    ((with_reducible refine (ex49_any _).mono ?_); rintro e w3 ⟨rfl, hb3⟩)
    have HB3 := Lib.hid (keepB HB2.out hb3)
    clear hb3
    go_wp2_with fail
    go_ret
    exact ⟨rfl, HB3.out⟩
  | true =>
    have HS := Lib.hid (fewL_ok hf)
    have hl5 : l.length ≤ 5 := (fewL_ok hf).l
    have hb70 : bs.length ≤ 70 := (fewL_ok hf).b
    have hd21 : ds.length ≤ 21 := (fewL_ok hf).d
    have hs20 : ss.length ≤ 20 := (fewL_ok hf).s2
    have hlen : (simRes l ss bs ds).2.length ≤ 350 := simRes_len HS.out
    clear hf
    have a0 := HK2.out.cell (i := 0) rfl
    have a1 := HK2.out.cell (i := 1) rfl
    have a2 := HK2.out.cell (i := 2) rfl
    have a3 := HK2.out.cell (i := 3) rfl
    go_wp2_with fail
    ((with_reducible refine (lnSimE HL2.out HS.out).mono ?_); rintro e w3 ⟨⟨A1, c1, rfl, h1, hc1⟩, hb3⟩)
    have HB3 := Lib.hid (keepB HB2.out hb3)
    have HL3 := Lib.hid (HL2.out.go hb3)
    have HK3 := Lib.hid (HK2.out.below hb3 HK2.out.lt)
    have H1 := Lib.hid h1
    clear hb3 h1 a0 a1 a2 a3
    rcases simRes_cases l ss bs ds with ⟨hne, hnil⟩ | ⟨hz, at_, hran⟩
    · generalize simRes l ss bs ds = R at *
      obtain ⟨R1, R2⟩ := R
      simp only at hne hnil
      subst hnil
      have hneb : (R1 != 0) = true := by simpa using hne
      clear hne
      go_wp2_with fail
      ((with_reducible refine (ex49_any _).mono ?_); rintro e w4 ⟨rfl, hb4⟩)
      have HB4 := Lib.hid (keepB HB3.out hb4)
      clear hb4
      go_wp2_with fail
      go_ret
      exact ⟨rfl, HB4.out⟩
    · generalize simRes l ss bs ds = R at *
      obtain ⟨R1, ts⟩ := R
      simp only at hz hran hlen H1 hc1 ⊢
      subst hz
      have HR := Lib.hid hran
      clear hran
      obtain ⟨z1, z2, _, z4⟩ := com_zero HR.out.com
      have HZ1 := Lib.hid z1
      have HZ2 := Lib.hid z2
      have HZ4 := Lib.hid z4
      clear z1 z2 z4
      have a0 := HK3.out.cell (i := 0) rfl
      go_wp2_with fail
      ((with_reducible refine (order_any A cap l _ HL3.out.o (by omega) HL3.out.hcap HS.out.o).mono ?_); rintro e w4 ⟨⟨A4, n4, c4, rfl, _, _⟩, hb4⟩)
      rw [HZ1.out]
      have HB4 := Lib.hid (keepB HB3.out hb4)
      have HK4 := Lib.hid (HK3.out.below hb4 HK3.out.lt)
      have HT4 := Lib.hid (H1.out.go hb4)
      have HL4 := Lib.hid (HL3.out.go hb4)
      clear hb4 a0 H1
      have a0 := HK4.out.cell (i := 0) rfl
      have a1 := HK4.out.cell (i := 1) rfl
      have a3 := HK4.out.cell (i := 3) rfl
      go_wp2_with fail
      ((with_reducible refine (check_any A cap l 1000000 S capS ss _ HL4.out.o (by omega) HL4.out.hcap HS.out.o HL4.out.s HS.out.s).mono ?_); rintro e w5 ⟨rfl, hb5⟩)
      rw [HZ2.out]
      have HB5 := Lib.hid (keepB HB4.out hb5)
      have HK5 := Lib.hid (HK4.out.below hb5 HK4.out.lt)
      have HT5 := Lib.hid (HT4.out.go hb5)
      have HL5 := Lib.hid (HL4.out.go hb5)
      clear hb5 a0 a1 a3 HT4 HL4
      have a3 := HK5.out.cell (i := 3) rfl
      go_wp2_with fail
      ((with_reducible refine (M.check_any D capD ds _ HL5.out.d (by omega)).mono ?_); rintro e w6 ⟨rfl, hb6⟩)
      rw [HZ4.out]
      have HB6 := Lib.hid (keepB HB5.out hb6)
      have HK6 := Lib.hid (HK5.out.below hb6 HK5.out.lt)
      have HT6 := Lib.hid (HT5.out.go hb6)
      clear hb6 a3 HT5 HL5
      have HKX : Hid (∀ wx, Below w6.heap.size w6 wx → wx.cell? ⟨w.heap.size, 0, none⟩ = some (.slice A l.length cap) ∧ wx.cell? ⟨w.heap.size, 1, none⟩ = some (.slice S ss.length capS) ∧ wx.cell? ⟨w.heap.size, 2, none⟩ = some (.slice Ab bs.length capB) ∧ wx.cell? ⟨w.heap.size, 3, none⟩ = some (.slice D ds.length capD)) :=
        Lib.hid fun wx hb => ⟨(HK6.out.below hb HK6.out.lt).cell (i := 0) rfl, (HK6.out.below hb HK6.out.lt).cell (i := 1) rfl, (HK6.out.below hb HK6.out.lt).cell (i := 2) rfl, (HK6.out.below hb HK6.out.lt).cell (i := 3) rfl⟩
      go_wp2_with fail
      go_loopw [8, 10, 11, 12, 49] (fun _ _ _ _ j wr => ∃ i : Nat, i ≤ ts.length ∧ j = .int .i64 i ∧ Below w6.heap.size w6 wr) (fun _ _ _ _ j _ => ts.length - (intOf j).toNat)
      case atStart => exact ⟨0, Nat.zero_le _, rfl, Below.refl _ _⟩
      case round =>
        obtain ⟨i, hi, rfl, hb⟩ := hrel
        have HB := Lib.hid hb
        have HBW := Lib.hid (keepB HB6.out hb)
        have hbs := hb.size
        clear hb
        by_cases hlt : i < ts.length
        · obtain ⟨bt, offt, t, hA, hbt, hd, hat⟩ := HT6.out.at_ HB.out hlt
          obtain ⟨y, o, hy⟩ := HR.out.nth hd
          obtain ⟨d0, d1, d2, d3, d4⟩ := hat
          have hto := hy.op
          have ho := hy.ho
          obtain ⟨st, q, hst, hsl, hq, hhas⟩ := HR.out.inst ho
          have htst := hy.st.trans hst
          rw [hto] at d1
          rw [htst] at d2
          have HY := Lib.hid hy
          obtain ⟨bq, offq, q', Aq, cq, hAq, hBq, hdq, ccq, hcq, hrq⟩ := HL.out.s.at_ (Below.refl _ _) hsl
          obtain rfl : q' = q := by rw [hq] at hdq; injection hdq with e; exact e.symm
          have hq1000 := (HS.out.s : SSmall ss).2 q' (List.mem_of_getElem? hq)
          obtain ⟨bo, offo, op, hAo, hbo, hopx, hato⟩ := HL.out.o.at_ (Below.refl _ _) ho
          have hc1' := hato.2.1
          have hc2 := hato.2.2.1
          have hmn : mn l o = op.mins := by unfold mn; rw [List.getD_eq_getElem?_getD, hopx]; rfl
          have hmc : mc l o = op.mach := by unfold mc; rw [List.getD_eq_getElem?_getD, hopx]; rfl
          have HC1 := Lib.hid hc1'
          have HC2 := Lib.hid hc2
          have HMN := Lib.hid hmn
          have HMC := Lib.hid hmc
          have HAO := Lib.hid hAo
          have HAQ := Lib.hid hAq
          have HRQ := Lib.hid hrq
          have HCQ := Lib.hid ccq
          have HHAS := Lib.hid hhas
          have i0 : (0 : Int) ≤ (o : Int) := by omega
          have i1 : (o : Int) < (l.length : Int) := by omega
          have i2 : ¬ (o : Int) < 0 := by omega
          have s0 : (0 : Int) ≤ (st : Int) := by omega
          have s1 : (st : Int) < (ss.length : Int) := by omega
          have s2 : ¬ (st : Int) < 0 := by omega
          subst hA
          clear hd hy hto hst htst hq hdq hopx hato hc1' hc2 hmn hmc hAo hAq hrq ccq hhas
          go_wp2_with fail
          obtain ⟨w7, hw7, e0, e1, e2, e3, e4, hv7, hb7⟩ := tk_new wr t.tk (o : Int) (st : Int) t.a t.b
          rw [← hw7]
          have HB7 := Lib.hid (keepB HB.out hb7)
          have HBW7 := Lib.hid (keepB HB6.out HB7.out)
          have HE7 : Hid (∀ wx, Below w7.heap.size w7 wx → wx.cell? ⟨wr.heap.size, 0, none⟩ = some (.int .i64 t.tk) ∧ wx.cell? ⟨wr.heap.size, 1, none⟩ = some (.int .i64 (o : Int)) ∧ wx.cell? ⟨wr.heap.size, 3, none⟩ = some (.int .i64 t.a) ∧ wx.cell? ⟨wr.heap.size, 4, none⟩ = some (.int .i64 t.b)) :=
            Lib.hid fun wx hb => ⟨(hb.cell (p := ⟨wr.heap.size, _, none⟩) hv7).trans e0, (hb.cell (p := ⟨wr.heap.size, _, none⟩) hv7).trans e1, (hb.cell (p := ⟨wr.heap.size, _, none⟩) hv7).trans e3, (hb.cell (p := ⟨wr.heap.size, _, none⟩) hv7).trans e4⟩
          obtain ⟨a0, a1, _, _⟩ := HKX.out w7 HB7.out
          rw [HAQ.out] at a1
          have cs := (HBW7.out.cell (p := ⟨bq, _, none⟩) hBq).trans HCQ.out
          have HH : Hid (∀ n, Calls Try.prog 18 #[.slice Aq q'.length cq, .int .i64 (o : Int)] (w7.drewN n) fun e w' => e = .returned (.bool true) ∧ w' = w7.drewN n) :=
            Lib.hid fun n => (has49_any Aq cq q' (o : Int) (w7.drewN n) (HRQ.out.go (below_drewN HBW7.out n)) (by omega)).mono fun e w' ⟨he, hw⟩ => ⟨by rw [he, HHAS.out], hw.symm⟩
          clear hw7 hb7 d0 d1 d2 d3 d4 e0 e3 e4
          have y1 : decide ((o : Int) < 0) = false := by simp
          have y2 : decide (l.length ≤ o) = false := by simp; omega
          have y3 : decide ((st : Int) < 0) = false := by simp
          have y4 : decide (ss.length ≤ st) = false := by simp; omega
          go_quiet ((go_at_call 18; exact Calls.quiet_of_same (HH.out _)))
          clear y1 y2 y3 y4
          have HB8 := Lib.hid (below_drewN HB7.out nq)
          have HE8 : Hid (Below w7.heap.size w7 (w7.drewN nq)) := Lib.hid (below_drewN (Below.refl _ _) nq)
          have a2 := (HKX.out _ HB8.out).2.2.1
          clear e1 e2 a0 a1 cs HH
          revert a2 HB8 HE8
          generalize w7.drewN nq = w8
          intro HB8 HE8 a2
          go_wp2_with fail
          clear a2
          obtain ⟨wo, rfl⟩ : ∃ wo : World, wo = wr := ⟨_, rfl⟩
          go_loopw [10, 11, 12, 92] (fun _ _ _ j wr => ∃ i : Nat, i ≤ bs.length ∧ j = .int .i64 i ∧ Below w7.heap.size w7 wr) (fun _ _ _ j _ => bs.length - (intOf j).toNat)
          case atStart => exact ⟨0, Nat.zero_le _, rfl, HE8.out⟩
          case round =>
            clear HB8 HE8
            obtain ⟨m, hm, rfl, hb⟩ := hrel
            have HBq := Lib.hid hb
            have HB6q := Lib.hid (keepB HB7.out hb)
            have HBWq := Lib.hid (keepB HB6.out HB6q.out)
            have hszq := hb.size
            clear hb
            by_cases hlm : m < bs.length
            · obtain ⟨bb, offb, b, hA, hbb, hd, hat⟩ := HL.out.b.at_ HBWq.out hlm
              have hbm : b ∈ bs := List.mem_of_getElem? hd
              have hpl := HR.out.bn.pl b hbm
              have htm := HR.out.term hbm ho
              rw [HMN.out] at htm
              obtain ⟨c0, c1', c2, c3, c4', c5⟩ := hat
              have hfin : b.tk = t.tk → M.finErr ds t.a (op.mins * (b.tp - b.fr)) = 0 ∧ M.finT ds op.mach t.a (op.mins * (b.tp - b.fr)) = t.b ∧ t.b ≤ 1073741824 := by
                intro e
                have hxb : y = b := bn_uniq HR.out.bn HY.out.mem hbm (by rw [← HY.out.tk, e])
                subst hxb
                have hwk : wk l y o = op.mins * (y.tp - y.fr) := by unfold wk; rw [HMN.out]
                have h1 := HY.out.fe
                have h2 := HY.out.en
                rw [hwk] at h1 h2
                rw [HMC.out] at h2
                exact ⟨h1, h2.symm, HY.out.mx⟩
              have HFIN := Lib.hid hfin
              have m0 : (0 : Int) ≤ (m : Int) := by omega
              have m1 : (m : Int) < (bs.length : Int) := by omega
              subst hA
              clear hd hbm hfin
              obtain ⟨e0, _, _, _⟩ := HE7.out wr HBq.out
              have hvq : wo.heap.size < wr.heap.size := Nat.lt_of_lt_of_le hv7 hszq
              by_cases htk : b.tk = t.tk
              · have htb : (b.tk != t.tk) = false := by simp [htk]
                obtain ⟨f1, f2, f3⟩ := HFIN.out htk
                clear htk
                go_wp2_with fail
                obtain ⟨w9, hw9⟩ : ∃ w9, w9 = wr.alloc (.cells #[.int .i64 b.tk, .int .i64 b.gm, .int .i64 b.sz, .int .i64 b.lot, .int .i64 b.fr, .int .i64 b.tp] 42) := ⟨_, rfl⟩
                have hk9 : Blk w9 wr.heap.size 42 [.int .i64 b.tk, .int .i64 b.gm, .int .i64 b.sz, .int .i64 b.lot, .int .i64 b.fr, .int .i64 b.tp] := by rw [hw9]; exact Blk.new _ _ _
                have hb9 : Below wr.heap.size wr w9 := by rw [hw9]; exact below_new _ _
                rw [← hw9]
                have HK9 := Lib.hid hk9
                have HB9 := Lib.hid (keepB HBq.out hb9)
                have HB69 := Lib.hid (keepB HB6q.out hb9)
                have HBW9 := Lib.hid (keepB HB6.out HB69.out)
                clear hw9 hk9 hb9 c0 c1' c2 c3 c4' c5 e0
                have HKK : Hid (∀ wx, Below w9.heap.size w9 wx → ((wx.cell? ⟨w.heap.size, 0, none⟩ = some (.slice (some ⟨bo, offo, none⟩) l.length cap) ∧ wx.cell? ⟨w.heap.size, 3, none⟩ = some (.slice D ds.length capD)) ∧ (wx.cell? ⟨wo.heap.size, 1, none⟩ = some (.int .i64 (o : Int)) ∧ wx.cell? ⟨wo.heap.size, 3, none⟩ = some (.int .i64 t.a) ∧ wx.cell? ⟨wo.heap.size, 4, none⟩ = some (.int .i64 t.b)) ∧ (wx.cell? ⟨bo, offo + o * 5 + 1, none⟩ = some (.int .i64 op.mach) ∧ wx.cell? ⟨bo, offo + o * 5 + 2, none⟩ = some (.int .i64 op.mins)) ∧ (wx.cell? ⟨wr.heap.size, 4, none⟩ = some (.int .i64 b.fr) ∧ wx.cell? ⟨wr.heap.size, 5, none⟩ = some (.int .i64 b.tp)) ∧ Below w9.heap.size w9 wx)) := by
                  refine Lib.hid fun wx hb => ?_
                  have h1 := HKX.out wx (keepB HB69.out hb)
                  have h2 := HE7.out wx (keepB HB9.out hb)
                  have h3 := keepB HBW9.out hb
                  have h4 := HK9.out.below hb HK9.out.lt
                  refine ⟨⟨?_, h1.2.2.2⟩, ⟨h2.2.1, h2.2.2.1, h2.2.2.2⟩, ⟨(h3.cell (p := ⟨bo, _, none⟩) hbo).trans HC1.out, (h3.cell (p := ⟨bo, _, none⟩) hbo).trans HC2.out⟩, ⟨h4.cell (i := 4) rfl, h4.cell (i := 5) rfl⟩, hb⟩
                  rw [h1.1, HAO.out]
                have HFN : Hid (∀ wx, Below w9.heap.size w9 wx → Calls Try.prog 19 #[.slice D ds.length capD, .int .i64 op.mach, .int .i64 t.a, .int .i64 (op.mins * (b.tp - b.fr))] wx fun e w' => e = .returned (.tuple #[.int .i64 t.b, .int .i64 0]) ∧ Below wx.heap.size wx w') := by
                  refine Lib.hid fun wx hb => ?_
                  have := M.finish_any D capD ds op.mach t.a (op.mins * (b.tp - b.fr)) wx (dgo HL.out.d (keepB HBW9.out hb)) (by omega)
                  rw [f1, f2] at this
                  exact this
                have v1 : IntKind.i64.wrap (b.tp - b.fr) = b.tp - b.fr := IntWalk.i64_in _ (by omega)
                have v2 : IntKind.i64.wrap (op.mins * (b.tp - b.fr)) = op.mins * (b.tp - b.fr) := IntWalk.i64_in _ (by omega)
                have b1 : (t.b != t.b) = false := by simp
                clear f1 f2
                go_region_held3 (fun wx => (wx.cell? ⟨w.heap.size, 0, none⟩ = some (.slice (some ⟨bo, offo, none⟩) l.length cap) ∧ wx.cell? ⟨w.heap.size, 3, none⟩ = some (.slice D ds.length capD)) ∧ (wx.cell? ⟨wo.heap.size, 1, none⟩ = some (.int .i64 (o : Int)) ∧ wx.cell? ⟨wo.heap.size, 3, none⟩ = some (.int .i64 t.a) ∧ wx.cell? ⟨wo.heap.size, 4, none⟩ = some (.int .i64 t.b)) ∧ (wx.cell? ⟨bo, offo + o * 5 + 1, none⟩ = some (.int .i64 op.mach) ∧ wx.cell? ⟨bo, offo + o * 5 + 2, none⟩ = some (.int .i64 op.mins)) ∧ (wx.cell? ⟨wr.heap.size, 4, none⟩ = some (.int .i64 b.fr) ∧ wx.cell? ⟨wr.heap.size, 5, none⟩ = some (.int .i64 b.tp)) ∧ Below w9.heap.size w9 wx)
                  (first | exact HKK.out _ (Below.refl _ _).drew | (go_split_ands; exact HKK.out _ (keepB (by assumption) hb10)))
                  (first | (go_at_call 19; refine (HFN.out _ ?_).mono ?_; (go_split_ands; assumption); rintro e w10 ⟨rfl, hb10⟩))
                rename_i hSl
                have HBZ := Lib.hid (keepB HB9.out hSl.2.2.2.2)
                have e4 := hSl.2.1.2.2
                clear v1 v2 hSl hb10
                go_wp2_with fail
                go_roundw
                case rel => exact ⟨m + 1, by omega, by go_num, HBZ.out⟩
                case measure => simp [intOf]; omega
              · have hszq' : w7.heap.size ≤ wr.heap.size := hszq
                have htb : (b.tk != t.tk) = true := by simpa using htk
                clear htk
                go_wp2_with fail
                go_roundw
                case rel => exact ⟨m + 1, by omega, by go_num, HBq.out.alloc hszq' _⟩
                case measure => simp [intOf]; omega
            · obtain rfl : bs.length = m := by omega
              go_wp2_with fail
              go_roundw
              case rel => exact ⟨i + 1, by omega, by go_num, HB6q.out⟩
              case measure => simp [intOf]; omega
        · obtain rfl : ts.length = i := by omega
          go_wp2_with fail
          ((with_reducible refine (ex49_any _).mono ?_); rintro e w7 ⟨rfl, hb7⟩)
          have HB7 := Lib.hid (keepB HBW.out hb7)
          clear hb7
          go_wp2_with fail
          go_ret
          exact ⟨rfl, HB7.out⟩
end Go.Proofs.Ytelgkangojmhdaa
