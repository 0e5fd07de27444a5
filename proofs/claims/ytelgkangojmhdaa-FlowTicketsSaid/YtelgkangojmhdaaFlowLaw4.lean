/- The law FlowBounds: its walk. -/
import Derived.Test.YtelgkangojmhdaaFlowLaw3
namespace Go.Proofs.Ytelgkangojmhdaa
open Go.RowKit

/-- A line in memory, its parts as letters. -/
def LnE (w : World) (A : Option Addr) (cap : Nat) (l : List Opn) (S : Option Addr) (capS : Nat) (ss : List (List Int)) (Ab : Option Addr) (capB : Nat) (bs : List Bn) (D : Option Addr) (capD : Nat) (ds : List M.Dn) : Prop := LnOk w ⟨A, cap, l, S, capS, ss, Ab, capB, bs, D, capD, ds⟩
section
variable {w w' : World} {A : Option Addr} {cap : Nat} {l : List Opn} {S : Option Addr} {capS : Nat} {ss : List (List Int)} {Ab : Option Addr} {capB : Nat} {bs : List Bn} {D : Option Addr} {capD : Nat} {ds : List M.Dn}
theorem LnE.o (h : LnE w A cap l S capS ss Ab capB bs D capD ds) : ORd w w.heap.size A l := LnOk.o h
theorem LnE.s (h : LnE w A cap l S capS ss Ab capB bs D capD ds) : SRd w w.heap.size S ss := LnOk.s h
theorem LnE.b (h : LnE w A cap l S capS ss Ab capB bs D capD ds) : BRd w w.heap.size Ab bs := LnOk.b h
theorem LnE.d (h : LnE w A cap l S capS ss Ab capB bs D capD ds) : M.DRd w w.heap.size D ds := LnOk.d h
theorem LnE.hcap (h : LnE w A cap l S capS ss Ab capB bs D capD ds) : l.length ≤ cap := LnOk.cap h
theorem LnE.br (h : LnE w A cap l S capS ss Ab capB bs D capD ds) : ∀ b ∈ bs, BnR b := LnOk.br h
theorem LnE.go (h : LnE w A cap l S capS ss Ab capB bs D capD ds) (hb : Below w.heap.size w w') : LnE w' A cap l S capS ss Ab capB bs D capD ds := LnOk.go h hb
theorem lnFewE (h : LnE w A cap l S capS ss Ab capB bs D capD ds) : Calls Try.prog 12 #[.agg #[.slice A l.length cap, .slice S ss.length capS, .slice Ab bs.length capB, .slice D ds.length capD]] w fun e w' => e = .returned (.bool (fewL ⟨A, cap, l, S, capS, ss, Ab, capB, bs, D, capD, ds⟩)) ∧ Below w.heap.size w w' := lnFew_any _ w h
theorem lnSimE (h : LnE w A cap l S capS ss Ab capB bs D capD ds) (hs : LnSm ⟨A, cap, l, S, capS, ss, Ab, capB, bs, D, capD, ds⟩) : Calls Try.prog 14 #[.agg #[.slice A l.length cap, .slice S ss.length capS, .slice Ab bs.length capB, .slice D ds.length capD]] w fun e w' => SimPost (simRes l ss bs ds) e w' ∧ Below w.heap.size w w' := lnSim_any _ w h hs
end

/-- The work of one operation on the bundles. -/
def sumB (l : List Opn) (o : Nat) (bs : List Bn) : Int := sm (fun b => mn l o * (b.tp - b.fr)) bs
theorem sumB_next {l : List Opn} {o : Nat} {bs : List Bn} {m : Nat} {b : Bn} (h : bs[m]? = some b) : sumB l o (bs.take (m + 1)) = sumB l o (bs.take m) + mn l o * (b.tp - b.fr) := by
  unfold sumB; rw [take_tk h, sm_snoc]
theorem sumOB_next {l : List Opn} {bs : List Bn} {q : List Int} {j : Nat} {o : Nat} (h : q[j]? = some (o : Int)) : sumOB l bs (q.take (j + 1)) = sumOB l bs (q.take j) + sumB l o bs := by
  unfold sumOB; rw [take_tk h, sm_snoc]; rfl
section
variable {l : List Opn} {ss : List (List Int)} {at_ : List Int} {bs : List Bn} {ds : List M.Dn} {ts : List Tsk}
theorem Ran.term (h : Ran l ss at_ bs ds ts) {b : Bn} (hb : b ∈ bs) {o : Nat} (ho : o < l.length) : 0 ≤ mn l o * (b.tp - b.fr) ∧ mn l o * (b.tp - b.fr) ≤ 400000 := by
  have := h.wk0 hb ho
  unfold wk at this
  omega
theorem Ran.sumB_bd (h : Ran l ss at_ bs ds ts) {o : Nat} (ho : o < l.length) (m : Nat) : 0 ≤ sumB l o (bs.take m) ∧ sumB l o (bs.take m) ≤ 24000000 := by
  have hl := h.bn.len
  have hm : (bs.take m).length ≤ 60 := by rw [List.length_take]; omega
  refine ⟨sm_pos fun b hb => (h.term (List.mem_of_mem_take hb) ho).1, ?_⟩
  have := sm_le (f := fun b : Bn => mn l o * (b.tp - b.fr)) (c := 400000) (p := bs.take m) fun b hb => (h.term (List.mem_of_mem_take hb) ho).2
  unfold sumB
  omega
theorem Ran.sumOB_bd (h : Ran l ss at_ bs ds ts) {q : List Int} (hq : ∀ o ∈ q, 0 ≤ o ∧ o < l.length) (hl : q.length ≤ 1000) (j : Nat) : 0 ≤ sumOB l bs (q.take j) ∧ sumOB l bs (q.take j) ≤ 24000000000 := by
  have hm : (q.take j).length ≤ 1000 := by rw [List.length_take]; omega
  have key : ∀ o ∈ q.take j, 0 ≤ sm (fun b : Bn => mn l o.toNat * (b.tp - b.fr)) bs ∧ sm (fun b : Bn => mn l o.toNat * (b.tp - b.fr)) bs ≤ 24000000 := by
    intro o ho
    have h1 := hq o (List.mem_of_mem_take ho)
    have := h.sumB_bd (o := o.toNat) (by omega) bs.length
    rw [List.take_length] at this
    exact this
  unfold sumOB
  refine ⟨sm_pos fun o ho => (key o ho).1, ?_⟩
  have := sm_le (f := fun o : Int => sm (fun b : Bn => mn l o.toNat * (b.tp - b.fr)) bs) (c := 24000000) (p := q.take j) fun o ho => (key o ho).2
  omega
end

set_option maxRecDepth 100000 in
set_option maxHeartbeats 4000000 in
theorem flowBounds_walk (x : Ln) (w : World) (h : LnOk w x) : Calls Try.prog 4 #[x.val] w fun e w' => e = .returned (.bool true) ∧ Below w.heap.size w w' := by
  obtain ⟨A, cap, l, S, capS, ss, Ab, capB, bs, D, capD, ds⟩ := x
  unfold Ln.val
  simp only
  have HL : Hid (LnE w A cap l S capS ss Ab capB bs D capD ds) := Lib.hid h
  clear h
  go_enter Try.func4, Try.ntmps4
  go_wp2_with fail
  obtain ⟨w1, hw1, hk1, hb1⟩ := lnBox ⟨A, cap, l, S, capS, ss, Ab, capB, bs, D, capD, ds⟩ w
  simp only at hw1 hk1
  rw [← hw1]
  have HK1 := Lib.hid hk1
  have HB1 := Lib.hid hb1
  have HL1 := Lib.hid (HL.out.go hb1)
  clear hw1 hk1 hb1
  ((with_reducible refine (lnFewE HL1.out).mono ?_); rintro e w2 ⟨rfl, hb2⟩)
  have HB2 := Lib.hid (keepB HB1.out hb2)
  have HL2 := Lib.hid (HL1.out.go hb2)
  have HK2 := Lib.hid (HK1.out.below hb2 HK1.out.lt)
  clear hb2
  cases hf : fewL ⟨A, cap, l, S, capS, ss, Ab, capB, bs, D, capD, ds⟩ with
  | false =>
    clear hf
    go_wp2_with fail
    ((with_reducible refine (ex49_any _).mono ?_); rintro e w3 ⟨rfl, hb3⟩)
    have HB3 := Lib.hid (keepB HB2.out hb3)
    clear hb3
    go_wp2_with fail
    go_ret
    exact ⟨rfl, HB3.out⟩
  | true =>
    have HS := Lib.hid (fewL_ok hf)
    have hl5 : l.length ≤ 5 := (fewL_ok hf).l
    have hb70 : bs.length ≤ 70 := (fewL_ok hf).b
    have hd21 : ds.length ≤ 21 := (fewL_ok hf).d
    have hs20 : ss.length ≤ 20 := (fewL_ok hf).s2
    have hlen : (simRes l ss bs ds).2.length ≤ 350 := simRes_len HS.out
    clear hf
    have a0 := HK2.out.cell (i := 0) rfl
    have a1 := HK2.out.cell (i := 1) rfl
    have a2 := HK2.out.cell (i := 2) rfl
    have a3 := HK2.out.cell (i := 3) rfl
    go_wp2_with fail
    ((with_reducible refine (lnSimE HL2.out HS.out).mono ?_); rintro e w3 ⟨⟨A1, c1, rfl, h1, hc1⟩, hb3⟩)
    have HB3 := Lib.hid (keepB HB2.out hb3)
    have HL3 := Lib.hid (HL2.out.go hb3)
    have HK3 := Lib.hid (HK2.out.below hb3 HK2.out.lt)
    have H1 := Lib.hid h1
    clear hb3 h1 a0 a1 a2 a3
    rcases simRes_cases l ss bs ds with ⟨hne, hnil⟩ | ⟨hz, at_, hran⟩
    · generalize simRes l ss bs ds = R at *
      obtain ⟨R1, R2⟩ := R
      simp only at hne hnil
      subst hnil
      have hneb : (R1 != 0) = true := by simpa using hne
      clear hne
      go_wp2_with fail
      ((with_reducible refine (ex49_any _).mono ?_); rintro e w4 ⟨rfl, hb4⟩)
      have HB4 := Lib.hid (keepB HB3.out hb4)
      clear hb4
      go_wp2_with fail
      go_ret
      exact ⟨rfl, HB4.out⟩
    · generalize simRes l ss bs ds = R at *
      obtain ⟨R1, ts⟩ := R
      simp only at hz hran hlen H1 hc1 ⊢
      subst hz
      have HR := Lib.hid hran
      clear hran
      have hsp0 := HR.out.span0
      have hsp1 := HR.out.span_hi
      have HORD := Lib.hid (com_zero HR.out.com).1
      have a0 := HK3.out.cell (i := 0) rfl
      go_wp2_with fail
      ((with_reducible refine (makespan_any A1 c1 ts _ H1.out (by omega)).mono ?_); rintro e w4 ⟨rfl, hb4⟩)
      obtain ⟨sp, hsp⟩ : ∃ sp, spanOf ts = sp := ⟨_, rfl⟩
      rw [hsp] at hsp0 hsp1 ⊢
      have HSP := Lib.hid hsp
      have HB4 := Lib.hid (keepB HB3.out hb4)
      have HK4 := Lib.hid (HK3.out.below hb4 HK3.out.lt)
      have HT4 := Lib.hid (H1.out.go hb4)
      have HL4 := Lib.hid (HL3.out.go hb4)
      clear hb4 a0 hsp H1
      have a0 := HK4.out.cell (i := 0) rfl
      go_wp2_with fail
      ((with_reducible refine (critical_any A cap l _ HL4.out.o (by omega) HL4.out.hcap HS.out.o HORD.out).mono ?_); rintro e w5 ⟨⟨Sm, cr, rfl, hcr, hcr0, hcr1⟩, hb5⟩)
      have HCR : Hid (∀ b ∈ bs, cr * (b.tp - b.fr) ≤ sp) := Lib.hid fun b hb => by rw [← HSP.out]; exact HR.out.crit hcr hb
      have HB5 := Lib.hid (keepB HB4.out hb5)
      have HK5 := Lib.hid (HK4.out.below hb5 HK4.out.lt)
      have HT5 := Lib.hid (HT4.out.go hb5)
      clear hb5 a0 hcr HT4 HL4 HK4 HB4
      have HKX : Hid (∀ wx, Below w5.heap.size w5 wx → wx.cell? ⟨w.heap.size, 0, none⟩ = some (.slice A l.length cap) ∧ wx.cell? ⟨w.heap.size, 1, none⟩ = some (.slice S ss.length capS) ∧ wx.cell? ⟨w.heap.size, 2, none⟩ = some (.slice Ab bs.length capB) ∧ wx.cell? ⟨w.heap.size, 3, none⟩ = some (.slice D ds.length capD)) :=
        Lib.hid fun wx hb => ⟨(HK5.out.below hb HK5.out.lt).cell (i := 0) rfl, (HK5.out.below hb HK5.out.lt).cell (i := 1) rfl, (HK5.out.below hb HK5.out.lt).cell (i := 2) rfl, (HK5.out.below hb HK5.out.lt).cell (i := 3) rfl⟩
      obtain ⟨_, _, a2, _⟩ := HKX.out w5 (Below.refl _ _)
      go_wp2_with fail
      clear a2
      go_loopw [9, 45] (fun _ j wr => ∃ i : Nat, i ≤ bs.length ∧ j = .int .i64 i ∧ Below w5.heap.size w5 wr) (fun _ j _ => bs.length - (intOf j).toNat)
      case atStart => exact ⟨0, Nat.zero_le _, rfl, Below.refl _ _⟩
      case round =>
        obtain ⟨i, hi, rfl, hb⟩ := hrel
        have HB := Lib.hid hb
        have HBW := Lib.hid (keepB HB5.out hb)
        have hbs := hb.size
        clear hb
        by_cases hlt : i < bs.length
        · obtain ⟨bb, offb, b, hA, hbb, hd, hat⟩ := HL.out.b.at_ HBW.out hlt
          have hbm : b ∈ bs := List.mem_of_getElem? hd
          have hpl := HR.out.bn.pl b hbm
          have hcb := HCR.out b hbm
          have hbr := HL.out.br b hbm
          have HBR := Lib.hid hbr
          have HBAD : Hid ((!bnBad b) = true) := by unfold bnBad; simp; exact Lib.hid (by omega)
          obtain ⟨c0, c1', c2, c3, c4, c5⟩ := hat
          have hm0 : 0 ≤ cr * (b.tp - b.fr) := Int.mul_nonneg (by omega) (by omega)
          have hm1 : ¬ sp < cr * (b.tp - b.fr) := by omega
          have hm2 : cr * (b.tp - b.fr) ≤ 1073741824 := by omega
          subst hA
          clear hd hbm hbr
          go_wp2_with fail
          obtain ⟨w6, hw6⟩ : ∃ w6, w6 = wr.alloc (.cells #[.int .i64 b.tk, .int .i64 b.gm, .int .i64 b.sz, .int .i64 b.lot, .int .i64 b.fr, .int .i64 b.tp] 42) := ⟨_, rfl⟩
          have hk6 : Blk w6 wr.heap.size 42 [.int .i64 b.tk, .int .i64 b.gm, .int .i64 b.sz, .int .i64 b.lot, .int .i64 b.fr, .int .i64 b.tp] := by rw [hw6]; exact Blk.new _ _ _
          have hb6 : Below wr.heap.size wr w6 := by rw [hw6]; exact below_new _ _
          rw [← hw6]
          have HK6 := Lib.hid hk6
          have HB6 := Lib.hid (keepB HB.out hb6)
          clear hw6 hk6 hb6 c0 c1' c2 c3 c4 c5
          ((with_reducible refine (plies_any b _ HBR.out).mono ?_); rintro e w7 ⟨rfl, hb7⟩)
          rw [HBAD.out]
          have HB7 := Lib.hid (keepB HB6.out hb7)
          have hk7 := HK6.out.below hb7 HK6.out.lt
          have d4 := hk7.cell (i := 4) rfl
          have d5 := hk7.cell (i := 5) rfl
          obtain ⟨a0, _, _, _⟩ := HKX.out w7 HB7.out
          clear hb7 hk7
          by_cases hl0 : 0 < l.length
          all_goals
            go_wp2_with fail
            go_roundw
            case rel => exact ⟨i + 1, by omega, by go_num, HB7.out⟩
            case measure => simp [intOf]; omega
        · obtain rfl : bs.length = i := by omega
          obtain ⟨_, a1, _, _⟩ := HKX.out wr HB.out
          obtain ⟨wo, rfl⟩ : ∃ wo : World, wo = wr := ⟨_, rfl⟩
          go_wp2_with fail
          clear a1
          go_loopw [10, 11, 13, 15, 73] (fun _ _ _ _ j wr => ∃ i : Nat, i ≤ ss.length ∧ j = .int .i64 i ∧ Below w5.heap.size w5 wr) (fun _ _ _ _ j _ => ss.length - (intOf j).toNat)
          case atStart => exact ⟨0, Nat.zero_le _, rfl, HB.out⟩
          case round =>
            clear HB HBW hbs
            obtain ⟨s, hs, rfl, hb⟩ := hrel
            have HB := Lib.hid hb
            have HBW := Lib.hid (keepB HB5.out hb)
            clear hb
            by_cases hls : s < ss.length
            · obtain ⟨bq, offq, q, Aq, cq, hAq, hBq, hdq, cc, hcq, hrq⟩ := HL.out.s.at_ (Below.refl _ _) hls
              have hst := HR.out.station hdq
              have HST := Lib.hid hst.2
              have hq1000 := (HS.out.s : SSmall ss).2 q (List.mem_of_getElem? hdq)
              have HQB := Lib.hid (HR.out.sumOB_bd (q := q) (fun o ho => ⟨(hst.2 o ho).1, (hst.2 o ho).2.1⟩) hq1000)
              have HSUM : Hid (sumOB l bs q ≤ sp) := by rw [← HSP.out]; exact Lib.hid (HR.out.span_station hdq)
              have cc := (HBW.out.cell (p := ⟨bq, _, none⟩) hBq).trans cc
              have HRQ := Lib.hid hrq
              obtain ⟨_, a1, _, _⟩ := HKX.out wr HB.out
              have s0 : (0 : Int) ≤ (s : Int) := by omega
              have s1 : (s : Int) < (ss.length : Int) := by omega
              subst hAq
              clear hdq hst hrq
              obtain ⟨wp, rfl⟩ : ∃ wp : World, wp = wr := ⟨_, rfl⟩
              go_wp2_with fail
              clear a1 cc
              go_loopw [11, 13, 15, 82] (fun v _ _ j wr => ∃ i : Nat, i ≤ q.length ∧ j = .int .i64 i ∧ v = .int .i64 (sumOB l bs (q.take i)) ∧ Below w5.heap.size w5 wr) (fun _ _ _ j _ => q.length - (intOf j).toNat)
              case atStart => exact ⟨0, Nat.zero_le _, rfl, rfl, HB.out⟩
              case round =>
                clear HB HBW
                obtain ⟨j, hj, rfl, rfl, hb⟩ := hrel
                have HB := Lib.hid hb
                have HBW := Lib.hid (keepB HB5.out hb)
                have hqb := HQB.out j
                clear hb
                by_cases hlj : j < q.length
                · obtain ⟨b2, off2, oi, hA2, hB2, hdo, cx⟩ := HRQ.out.at_ HBW.out hlj
                  obtain ⟨o0, o1, _⟩ := HST.out oi (List.mem_of_getElem? hdo)
                  obtain ⟨o, rfl⟩ : ∃ o : Nat, oi = (o : Int) := ⟨oi.toNat, by omega⟩
                  have ho : o < l.length := by omega
                  have HNX := Lib.hid (sumOB_next (l := l) (bs := bs) hdo)
                  have HSB := Lib.hid (HR.out.sumB_bd ho)
                  obtain ⟨S1, hS1⟩ : ∃ S1, sumOB l bs (q.take j) = S1 := ⟨_, rfl⟩
                  rw [hS1] at hqb HNX ⊢
                  obtain ⟨bo, offo, op, hAo, hbo, hopx, hato⟩ := HL.out.o.at_ (Below.refl _ _) ho
                  have hc2 := hato.2.2.1
                  have hmn : mn l o = op.mins := by unfold mn; rw [List.getD_eq_getElem?_getD, hopx]; rfl
                  have HC2 := Lib.hid hc2
                  have HMN := Lib.hid hmn
                  have HAO := Lib.hid hAo
                  obtain ⟨a0, _, a2, _⟩ := HKX.out wr HB.out
                  have j0 : (0 : Int) ≤ (j : Int) := by omega
                  have j1 : (j : Int) < (q.length : Int) := by omega
                  have i2 : ¬ (o : Int) < 0 := by omega
                  subst hA2
                  clear hdo hS1 hopx hato hc2 hmn hAo
                  obtain ⟨wt, rfl⟩ : ∃ wt : World, wt = wr := ⟨_, rfl⟩
                  go_wp2_with fail
                  clear a0 a2 cx
                  go_loopw [11, 15, 98] (fun v _ j wr => ∃ i : Nat, i ≤ bs.length ∧ j = .int .i64 i ∧ v = .int .i64 (S1 + sumB l o (bs.take i)) ∧ Below w5.heap.size w5 wr) (fun _ _ j _ => bs.length - (intOf j).toNat)
                  case atStart => exact ⟨0, Nat.zero_le _, rfl, by simp [sumB, sm], HB.out⟩
                  case round =>
                    clear HB HBW
                    obtain ⟨m, hm, rfl, rfl, hb⟩ := hrel
                    have HB := Lib.hid hb
                    have HBW := Lib.hid (keepB HB5.out hb)
                    have hsb := HSB.out m
                    clear hb
                    by_cases hlm : m < bs.length
                    · obtain ⟨bb, offb, b, hA, hbb, hd, hat⟩ := HL.out.b.at_ HBW.out hlm
                      have hbm : b ∈ bs := List.mem_of_getElem? hd
                      have hpl := HR.out.bn.pl b hbm
                      have htm := HR.out.term hbm ho
                      have HN2 := Lib.hid (sumB_next (l := l) (o := o) hd)
                      rw [HMN.out] at htm HN2
                      obtain ⟨c0, c1', c2, c3, c4, c5⟩ := hat
                      obtain ⟨S2, hS2⟩ : ∃ S2, sumB l o (bs.take m) = S2 := ⟨_, rfl⟩
                      rw [hS2] at hsb HN2 ⊢
                      have m0 : (0 : Int) ≤ (m : Int) := by omega
                      have m1 : (m : Int) < (bs.length : Int) := by omega
                      have o0' : (0 : Int) ≤ (o : Int) := by omega
                      have o1' : (o : Int) < (l.length : Int) := by omega
                      subst hA
                      clear hd hbm hS2
                      go_wp2_with fail
                      obtain ⟨w6, hw6⟩ : ∃ w6, w6 = wr.alloc (.cells #[.int .i64 b.tk, .int .i64 b.gm, .int .i64 b.sz, .int .i64 b.lot, .int .i64 b.fr, .int .i64 b.tp] 42) := ⟨_, rfl⟩
                      have hk6 : Blk w6 wr.heap.size 42 [.int .i64 b.tk, .int .i64 b.gm, .int .i64 b.sz, .int .i64 b.lot, .int .i64 b.fr, .int .i64 b.tp] := by rw [hw6]; exact Blk.new _ _ _
                      have hb6 : Below wr.heap.size wr w6 := by rw [hw6]; exact below_new _ _
                      rw [← hw6]
                      have HB6 := Lib.hid (keepB HB.out hb6)
                      have d4 := hk6.cell (i := 4) rfl
                      have d5 := hk6.cell (i := 5) rfl
                      obtain ⟨a0, _, _, _⟩ := HKX.out w6 HB6.out
                      rw [HAO.out] at a0
                      have cm := ((keepB HB5.out HB6.out).cell (p := ⟨bo, _, none⟩) hbo).trans HC2.out
                      clear hw6 hk6 hb6 c0 c1' c2 c3 c4 c5
                      have v1 : IntKind.i64.wrap (b.tp - b.fr) = b.tp - b.fr := IntWalk.i64_in _ (by omega)
                      have v2 : IntKind.i64.wrap (op.mins * (b.tp - b.fr)) = op.mins * (b.tp - b.fr) := IntWalk.i64_in _ (by omega)
                      have v3 : IntKind.i64.wrap (S1 + S2 + op.mins * (b.tp - b.fr)) = S1 + S2 + op.mins * (b.tp - b.fr) := IntWalk.i64_in _ (by omega)
                      go_quiet (fail)
                      clear v1 v2 v3
                      go_wp2_with fail
                      go_roundw
                      case rel => exact ⟨m + 1, by omega, by go_num, by rw [HN2.out]; exact congrArg (Value.int .i64) (by omega), below_drewN HB6.out _⟩
                      case measure => simp [intOf]; omega
                    · obtain rfl : bs.length = m := by omega
                      rw [List.take_length, ← HNX.out]
                      go_wp2_with fail
                      go_roundw
                      case rel => exact ⟨j + 1, by omega, by go_num, rfl, HB.out⟩
                      case measure => simp [intOf]; omega
                · obtain rfl : q.length = j := by omega
                  rw [List.take_length] at hqb ⊢
                  have hsum := HSUM.out
                  generalize sumOB l bs q = SS at *
                  have hsum2 : ¬ sp < SS := by omega
                  go_wp2_with fail
                  go_roundw
                  case rel => exact ⟨s + 1, by omega, by go_num, HB.out⟩
                  case measure => simp [intOf]; omega
            · obtain rfl : ss.length = s := by omega
              obtain ⟨wp, rfl⟩ : ∃ wp : World, wp = wr := ⟨_, rfl⟩
              go_wp2_with fail
              go_loopw [17, 19, 124] (fun _ _ j wr => ∃ i : Nat, i ≤ ts.length ∧ j = .int .i64 i ∧ Below w5.heap.size w5 wr) (fun _ _ j _ => ts.length - (intOf j).toNat)
              case atStart => exact ⟨0, Nat.zero_le _, rfl, HB.out⟩
              case round =>
                clear HB HBW
                obtain ⟨i, hi, rfl, hb⟩ := hrel
                have HB := Lib.hid hb
                have HBW := Lib.hid (keepB HB5.out hb)
                clear hb
                by_cases hlt : i < ts.length
                · obtain ⟨bt, offt, t, hA, hbt, hd, hat⟩ := HT5.out.at_ HB.out hlt
                  obtain ⟨y, o, hy⟩ := HR.out.nth hd
                  obtain ⟨c0, c1', c2, c3, c4⟩ := hat
                  have hto := hy.op
                  have ho := hy.ho
                  have htb : 0 ≤ t.a ∧ t.a ≤ t.b ∧ t.b ≤ 1073741824 := ⟨hy.a0, hy.ge, hy.mx⟩
                  rw [hto] at c1'
                  have HY := Lib.hid hy
                  obtain ⟨bo, offo, op, hAo, hbo, hopx, hato⟩ := HL.out.o.at_ (Below.refl _ _) ho
                  have hc2 := hato.2.2.1
                  have hmn : mn l o = op.mins := by unfold mn; rw [List.getD_eq_getElem?_getD, hopx]; rfl
                  have HC2 := Lib.hid hc2
                  have HMN := Lib.hid hmn
                  have HAO := Lib.hid hAo
                  obtain ⟨a0, _, a2, _⟩ := HKX.out wr HB.out
                  have i0 : (0 : Int) ≤ (o : Int) := by omega
                  have i1 : (o : Int) < (l.length : Int) := by omega
                  have i2 : ¬ (o : Int) < 0 := by omega
                  subst hA
                  clear hd hy hto hopx hato hc2 hmn hAo
                  have hsz : w.heap.size < wr.heap.size := Nat.lt_of_lt_of_le HK5.out.lt HB.out.size
                  go_wp2_with fail
                  obtain ⟨w6, hw6, e0, e1, _, e3, e4, hv6, hb6⟩ := tk_new wr t.tk (o : Int) t.st t.a t.b
                  rw [← hw6]
                  have HB6 := Lib.hid (keepB HB.out hb6)
                  have HE6 : Hid (∀ wx, Below w6.heap.size w6 wx → wx.cell? ⟨wr.heap.size, 0, none⟩ = some (.int .i64 t.tk) ∧ wx.cell? ⟨wr.heap.size, 1, none⟩ = some (.int .i64 (o : Int)) ∧ wx.cell? ⟨wr.heap.size, 3, none⟩ = some (.int .i64 t.a) ∧ wx.cell? ⟨wr.heap.size, 4, none⟩ = some (.int .i64 t.b)) :=
                    Lib.hid fun wx hb => ⟨(hb.cell (p := ⟨wr.heap.size, _, none⟩) hv6).trans e0, (hb.cell (p := ⟨wr.heap.size, _, none⟩) hv6).trans e1, (hb.cell (p := ⟨wr.heap.size, _, none⟩) hv6).trans e3, (hb.cell (p := ⟨wr.heap.size, _, none⟩) hv6).trans e4⟩
                  clear hw6 hb6 c0 c1' c2 c3 c4 e0 e1 e3 e4 a0 a2
                  obtain ⟨wt, rfl⟩ : ∃ wt : World, wt = wr := ⟨_, rfl⟩
                  go_loopw [19, 142] (fun _ j wr => ∃ i : Nat, i ≤ bs.length ∧ j = .int .i64 i ∧ Below w6.heap.size w6 wr) (fun _ j _ => bs.length - (intOf j).toNat)
                  case atStart => exact ⟨0, Nat.zero_le _, rfl, Below.refl _ _⟩
                  case round =>
                    obtain ⟨m, hm, rfl, hb⟩ := hrel
                    have HBq := Lib.hid hb
                    have HBW2 := Lib.hid (keepB HB6.out hb)
                    have HBW3 := Lib.hid (keepB HB5.out HBW2.out)
                    have hszq := hb.size
                    clear hb
                    by_cases hlm : m < bs.length
                    · obtain ⟨bb, offb, b, hA, hbb, hd, hat⟩ := HL.out.b.at_ HBW3.out hlm
                      have hbm : b ∈ bs := List.mem_of_getElem? hd
                      have hpl := HR.out.bn.pl b hbm
                      have htm := HR.out.term hbm ho
                      rw [HMN.out] at htm
                      obtain ⟨c0, c1', c2, c3, c4, c5⟩ := hat
                      have hcase : (b.tk == t.tk) = false ∨ ((b.tk == t.tk) = true ∧ ((ds.length : Int) == 0) = false) ∨ ((b.tk == t.tk) = true ∧ ((ds.length : Int) == 0) = true ∧ ((t.b - t.a != op.mins * (b.tp - b.fr)) = false)) := by
                        by_cases e : b.tk = t.tk
                        · by_cases e2 : ds.length = 0
                          · refine .inr (.inr ⟨by simpa using e, by simp [e2], ?_⟩)
                            have hxb : y = b := bn_uniq HR.out.bn HY.out.mem hbm (by rw [← HY.out.tk, e])
                            subst hxb
                            have hds : ds = [] := List.length_eq_zero_iff.1 e2
                            have hfe := HY.out.fe
                            have hen := HY.out.en
                            rw [hds] at hfe hen
                            rw [fin_none hfe] at hen
                            unfold wk at hen
                            rw [HMN.out] at hen
                            simp only [bne_eq_false_iff_eq]
                            omega
                          · exact .inr (.inl ⟨by simpa using e, by simp; exact fun e3 => e2 (by rw [e3]; rfl)⟩)
                        · exact .inl (by simpa using e)
                      have m0 : (0 : Int) ≤ (m : Int) := by omega
                      have m1 : (m : Int) < (bs.length : Int) := by omega
                      subst hA
                      clear hd hbm
                      go_wp2_with fail
                      obtain ⟨w7, hw7⟩ : ∃ w7, w7 = wr.alloc (.cells #[.int .i64 b.tk, .int .i64 b.gm, .int .i64 b.sz, .int .i64 b.lot, .int .i64 b.fr, .int .i64 b.tp] 42) := ⟨_, rfl⟩
                      have hk7 : Blk w7 wr.heap.size 42 [.int .i64 b.tk, .int .i64 b.gm, .int .i64 b.sz, .int .i64 b.lot, .int .i64 b.fr, .int .i64 b.tp] := by rw [hw7]; exact Blk.new _ _ _
                      have hb7 : Below wr.heap.size wr w7 := by rw [hw7]; exact below_new _ _
                      rw [← hw7]
                      have HB7 := Lib.hid (keepB HBq.out hb7)
                      have HBW7 := Lib.hid (keepB HBW2.out hb7)
                      have d0 := hk7.cell (i := 0) rfl
                      have d4 := hk7.cell (i := 4) rfl
                      have d5 := hk7.cell (i := 5) rfl
                      obtain ⟨a0, _, _, a3⟩ := HKX.out w7 HBW7.out
                      obtain ⟨e0, e1, e3, e4⟩ := HE6.out w7 HB7.out
                      rw [HAO.out] at a0
                      have cm := ((keepB HB5.out HBW7.out).cell (p := ⟨bo, _, none⟩) hbo).trans HC2.out
                      clear hw7 hk7 hb7 c0 c1' c2 c3 c4 c5
                      have v1 : IntKind.i64.wrap (b.tp - b.fr) = b.tp - b.fr := IntWalk.i64_in _ (by omega)
                      have v2 : IntKind.i64.wrap (op.mins * (b.tp - b.fr)) = op.mins * (b.tp - b.fr) := IntWalk.i64_in _ (by omega)
                      have v3 : IntKind.i64.wrap (t.b - t.a) = t.b - t.a := IntWalk.i64_in _ (by omega)
                      rcases hcase with q1 | ⟨q1, q2⟩ | ⟨q1, q2, q3⟩
                      · go_quiet (fail)
                        clear v1 v2 v3
                        go_wp2_with fail
                        go_roundw
                        case rel => exact ⟨m + 1, by omega, by go_num, below_drewN HB7.out _⟩
                        case measure => simp [intOf]; omega
                      · go_quiet (fail)
                        clear v1 v2 v3
                        go_wp2_with fail
                        go_roundw
                        case rel => exact ⟨m + 1, by omega, by go_num, below_drewN HB7.out _⟩
                        case measure => simp [intOf]; omega
                      · go_quiet (fail)
                        clear v1 v2 v3
                        go_wp2_with fail
                        go_roundw
                        case rel => exact ⟨m + 1, by omega, by go_num, below_drewN HB7.out _⟩
                        case measure => simp [intOf]; omega
                    · obtain rfl : bs.length = m := by omega
                      go_wp2_with fail
                      go_roundw
                      case rel => exact ⟨i + 1, by omega, by go_num, HBW2.out⟩
                      case measure => simp [intOf]; omega
                · obtain rfl : ts.length = i := by omega
                  go_wp2_with fail
                  ((with_reducible refine (ex49_any _).mono ?_); rintro e w6 ⟨rfl, hb6⟩)
                  have HB6 := Lib.hid (keepB HBW.out hb6)
                  clear hb6
                  go_wp2_with fail
                  go_ret
                  exact ⟨rfl, HB6.out⟩
end Go.Proofs.Ytelgkangojmhdaa
