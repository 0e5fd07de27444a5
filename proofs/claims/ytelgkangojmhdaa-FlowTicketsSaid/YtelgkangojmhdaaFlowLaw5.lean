/- The law FlowSingle: its walk. -/
import Derived.Test.YtelgkangojmhdaaFlowLaw4
import Derived.Deep.RegionHeld3
namespace Go.Proofs.Ytelgkangojmhdaa
open Go.RowKit

def allOps (n : Nat) : List Int := (List.range n).map Int.ofNat
theorem allOps_at {n i : Nat} (h : i < n) : (allOps n)[i]? = some (i : Int) := by unfold allOps; rw [List.getElem?_map, List.getElem?_range h]; rfl
theorem allOps_len (n : Nat) : (allOps n).length = n := by unfold allOps; simp
theorem allOps_mem {n : Nat} {o : Int} (h : o ∈ allOps n) : 0 ≤ o ∧ o < n := by
  unfold allOps at h
  obtain ⟨a, ha, rfl⟩ := List.mem_map.1 h
  have := List.mem_range.1 ha
  constructor
  · exact Int.natCast_nonneg a
  · show ((a : Nat) : Int) < n; omega

set_option maxRecDepth 100000 in
set_option maxHeartbeats 4000000 in
theorem flowSingle_walk (x : Ln) (w : World) (h : LnOk w x) : Calls Try.prog 10 #[x.val] w fun e w' => e = .returned (.bool true) ∧ Below w.heap.size w w' := by
  obtain ⟨A, cap, l, S, capS, ss, Ab, capB, bs, D, capD, ds⟩ := x
  unfold Ln.val
  simp only
  have HL : Hid (LnE w A cap l S capS ss Ab capB bs D capD ds) := Lib.hid h
  clear h
  go_enter Try.func10, Try.ntmps10
  go_wp2_with fail
  obtain ⟨w1, hw1, hk1, hb1⟩ := lnBox ⟨A, cap, l, S, capS, ss, Ab, capB, bs, D, capD, ds⟩ w
  simp only at hw1 hk1
  rw [← hw1]
  have HK1 := Lib.hid hk1
  have HB1 := Lib.hid hb1
  have HL1 := Lib.hid (HL.out.go hb1)
  clear hw1 hk1 hb1
  ((with_reducible refine (lnFewE HL1.out).mono ?_); rintro e w2 ⟨rfl, hb2⟩)
  have HB2 := Lib.hid (keepB HB1.out hb2)
  have HL2 := Lib.hid (HL1.out.go hb2)
  have HK2 := Lib.hid (HK1.out.below hb2 HK1.out.lt)
  clear hb2
  cases hf : fewL ⟨A, cap, l, S, capS, ss, Ab, capB, bs, D, capD, ds⟩ with
  | false =>
    clear hf
    go_wp2_with fail
    ((with_reducible refine (ex49_any _).mono ?_); rintro e w3 ⟨rfl, hb3⟩)
    have HB3 := Lib.hid (keepB HB2.out hb3)
    clear hb3
    go_wp2_with fail
    go_ret
    exact ⟨rfl, HB3.out⟩
  | true =>
    have HS := Lib.hid (fewL_ok hf)
    have hl5 : l.length ≤ 5 := (fewL_ok hf).l
    have hb70 : bs.length ≤ 70 := (fewL_ok hf).b
    have hd21 : ds.length ≤ 21 := (fewL_ok hf).d
    have hs20 : ss.length ≤ 20 := (fewL_ok hf).s2
    have hlen : (simRes l ss bs ds).2.length ≤ 350 := simRes_len HS.out
    clear hf
    have a0 := HK2.out.cell (i := 0) rfl
    have a1 := HK2.out.cell (i := 1) rfl
    have a2 := HK2.out.cell (i := 2) rfl
    have a3 := HK2.out.cell (i := 3) rfl
    by_cases hg1 : ((ss.length : Int) != 1) = true
    · clear hlen
      go_wp2_with fail
      ((with_reducible refine (ex49_any _).mono ?_); rintro e w3 ⟨rfl, hb3⟩)
      have HB3 := Lib.hid (keepB HB2.out hb3)
      clear hb3
      go_wp2_with fail
      go_ret
      exact ⟨rfl, HB3.out⟩
    have hg2 : ((ss.length : Int) != 1) = false := by simpa using hg1
    by_cases hg3 : ((ds.length : Int) != 0) = true
    · clear hlen hg1
      go_wp2_with fail
      ((with_reducible refine (ex49_any _).mono ?_); rintro e w3 ⟨rfl, hb3⟩)
      have HB3 := Lib.hid (keepB HB2.out hb3)
      clear hb3
      go_wp2_with fail
      go_ret
      exact ⟨rfl, HB3.out⟩
    have hg4 : ((ds.length : Int) != 0) = false := by simpa using hg3
    clear hg1 hg3
    go_wp2_with fail
    ((with_reducible refine (lnSimE HL2.out HS.out).mono ?_); rintro e w3 ⟨⟨A1, c1, rfl, h1, hc1⟩, hb3⟩)
    have HB3 := Lib.hid (keepB HB2.out hb3)
    have HL3 := Lib.hid (HL2.out.go hb3)
    have HK3 := Lib.hid (HK2.out.below hb3 HK2.out.lt)
    have H1 := Lib.hid h1
    clear hb3 h1 a0 a1 a2 a3
    rcases simRes_cases l ss bs ds with ⟨hne, hnil⟩ | ⟨hz, at_, hran⟩
    · generalize simRes l ss bs ds = R at *
      obtain ⟨R1, R2⟩ := R
      simp only at hne hnil
      subst hnil
      have hneb : (R1 != 0) = true := by simpa using hne
      clear hne
      go_wp2_with fail
      ((with_reducible refine (ex49_any _).mono ?_); rintro e w4 ⟨rfl, hb4⟩)
      have HB4 := Lib.hid (keepB HB3.out hb4)
      clear hb4
      go_wp2_with fail
      go_ret
      exact ⟨rfl, HB4.out⟩
    · generalize simRes l ss bs ds = R at *
      obtain ⟨R1, ts⟩ := R
      simp only at hz hran hlen H1 hc1 ⊢
      subst hz
      have HR := Lib.hid hran
      clear hran
      have hss1 : ss.length = 1 := by have := bne_eq_false_iff_eq.1 hg2; omega
      have hds0 : ds = [] := List.length_eq_zero_iff.1 (by have := bne_eq_false_iff_eq.1 hg4; omega)
      have HSP : Hid (spanOf ts = sumOB l bs (allOps l.length)) := by
        have hr := HR.out
        rw [hds0] at hr
        exact Lib.hid (hr.span_single hss1)
      have HQB := Lib.hid (HR.out.sumOB_bd (q := allOps l.length) (fun o ho => allOps_mem ho) (by rw [allOps_len]; omega))
      have HKX : Hid (∀ wx, Below w3.heap.size w3 wx → wx.cell? ⟨w.heap.size, 0, none⟩ = some (.slice A l.length cap) ∧ wx.cell? ⟨w.heap.size, 2, none⟩ = some (.slice Ab bs.length capB)) :=
        Lib.hid fun wx hb => ⟨(HK3.out.below hb HK3.out.lt).cell (i := 0) rfl, (HK3.out.below hb HK3.out.lt).cell (i := 2) rfl⟩
      have a0 := (HKX.out w3 (Below.refl _ _)).1
      clear hss1 hds0 hg2 hg4
      go_wp2_with fail
      clear a0
      go_loopw [5, 7, 9, 37] (fun v _ _ j wr => ∃ i : Nat, i ≤ l.length ∧ j = .int .i64 i ∧ v = .int .i64 (sumOB l bs ((allOps l.length).take i)) ∧ Below w3.heap.size w3 wr) (fun _ _ _ j _ => l.length - (intOf j).toNat)
      case atStart => exact ⟨0, Nat.zero_le _, rfl, rfl, Below.refl _ _⟩
      case round =>
        obtain ⟨o, ho', rfl, rfl, hb⟩ := hrel
        have HB := Lib.hid hb
        have HBW := Lib.hid (keepB HB3.out hb)
        have hqb := HQB.out o
        have hbs := hb.size
        clear hb
        by_cases ho : o < l.length
        · have HNX := Lib.hid (sumOB_next (l := l) (bs := bs) (allOps_at ho))
          have HSB := Lib.hid (HR.out.sumB_bd ho)
          obtain ⟨S1, hS1⟩ : ∃ S1, sumOB l bs ((allOps l.length).take o) = S1 := ⟨_, rfl⟩
          rw [hS1] at hqb HNX ⊢
          obtain ⟨bo, offo, op, hAo, hbo, hopx, hato⟩ := HL.out.o.at_ HBW.out ho
          obtain ⟨z0, z1, z2, ⟨Af, cf, z3, _, _⟩, ⟨Au, cu, z4, _, _⟩⟩ := hato
          have hmn : mn l o = op.mins := by unfold mn; rw [List.getD_eq_getElem?_getD, hopx]; rfl
          have HMN := Lib.hid hmn
          have a2 := (HKX.out wr HB.out).2
          have o0 : (0 : Int) ≤ (o : Int) := by omega
          have o1 : (o : Int) < (l.length : Int) := by omega
          have hsz2 : w.heap.size < wr.heap.size := Nat.lt_of_lt_of_le HK3.out.lt hbs
          clear hS1 hopx hmn
          go_wp2_with fail
          obtain ⟨w5, hw5⟩ : ∃ w5, w5 = wr.alloc (.cells #[.string op.name, .int .i64 op.mach, .int .i64 op.mins, .slice Af op.after.length cf, .slice Au op.uses.length cu] 46) := ⟨_, rfl⟩
          have hk5 : Blk w5 wr.heap.size 46 [.string op.name, .int .i64 op.mach, .int .i64 op.mins, .slice Af op.after.length cf, .slice Au op.uses.length cu] := by rw [hw5]; exact Blk.new _ _ _
          have hb5 : Below wr.heap.size wr w5 := by rw [hw5]; exact below_new _ _
          rw [← hw5]
          have HK5 := Lib.hid hk5
          have HB5 := Lib.hid (keepB HB.out hb5)
          clear hw5 hk5 hb5 z0 z1 z2 z3 z4 a2
          obtain ⟨wo, rfl⟩ : ∃ wo : World, wo = wr := ⟨_, rfl⟩
          go_loopw [5, 9, 44] (fun v _ j wr => ∃ i : Nat, i ≤ bs.length ∧ j = .int .i64 i ∧ v = .int .i64 (S1 + sumB l o (bs.take i)) ∧ Below w5.heap.size w5 wr) (fun _ _ j _ => bs.length - (intOf j).toNat)
          case atStart => exact ⟨0, Nat.zero_le _, rfl, by simp [sumB, sm], Below.refl _ _⟩
          case round =>
            obtain ⟨m, hm, rfl, rfl, hb⟩ := hrel
            have HBq := Lib.hid hb
            have HB3q := Lib.hid (keepB HB5.out hb)
            have HBWq := Lib.hid (keepB HB3.out HB3q.out)
            have hsb := HSB.out m
            clear hb
            by_cases hlm : m < bs.length
            · obtain ⟨bb, offb, b, hA, hbb, hd, hat⟩ := HL.out.b.at_ HBWq.out hlm
              have hbm : b ∈ bs := List.mem_of_getElem? hd
              have hpl := HR.out.bn.pl b hbm
              have htm := HR.out.term hbm ho
              have HN2 := Lib.hid (sumB_next (l := l) (o := o) hd)
              rw [HMN.out] at htm HN2
              obtain ⟨c0, c1', c2, c3, c4, c5⟩ := hat
              obtain ⟨S2, hS2⟩ : ∃ S2, sumB l o (bs.take m) = S2 := ⟨_, rfl⟩
              rw [hS2] at hsb HN2 ⊢
              have m0 : (0 : Int) ≤ (m : Int) := by omega
              have m1 : (m : Int) < (bs.length : Int) := by omega
              have k2 := (HK5.out.below HBq.out HK5.out.lt).cell (i := 2) rfl
              have hk5l : wo.heap.size < wr.heap.size := (HK5.out.below HBq.out HK5.out.lt).lt
              subst hA
              clear hd hbm hS2
              go_wp2_with fail
              go_roundw
              case rel => exact ⟨m + 1, by omega, by go_num, by rw [HN2.out]; exact congrArg (Value.int .i64) (by omega), HBq.out.alloc HBq.out.size _⟩
              case measure => simp [intOf]; omega
            · obtain rfl : bs.length = m := by omega
              rw [List.take_length, ← HNX.out]
              go_wp2_with fail
              go_roundw
              case rel => exact ⟨o + 1, by omega, by go_num, rfl, HB3q.out⟩
              case measure => simp [intOf]; omega
        · obtain rfl : l.length = o := by omega
          have htk : (allOps l.length).take l.length = allOps l.length := List.take_of_length_le (by rw [allOps_len]; omega)
          rw [htk] at hqb ⊢
          rw [← HSP.out] at hqb ⊢
          clear htk
          have hT := H1.out.go HB.out
          have HT := Lib.hid hT
          clear hT
          go_wp2_with fail
          ((with_reducible refine (makespan_any A1 c1 ts _ HT.out (by omega)).mono ?_); rintro e w5 ⟨rfl, hb5⟩)
          have HB5 := Lib.hid (keepB HBW.out hb5)
          clear hb5
          generalize spanOf ts = sp at *
          have he : (sp == sp) = true := by simp
          go_wp2_with fail
          ((with_reducible refine (ex49_any _).mono ?_); rintro e w6 ⟨rfl, hb6⟩)
          have HB6 := Lib.hid (keepB HB5.out hb6)
          clear hb6
          go_wp2_with fail
          go_ret
          exact ⟨rfl, HB6.out⟩
end Go.Proofs.Ytelgkangojmhdaa
