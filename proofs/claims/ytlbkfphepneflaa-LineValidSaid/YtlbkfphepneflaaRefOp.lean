/- Walks of the reference's single, sorted, sound and Order of operations. -/
import Derived.Test.YtlbkfphepneflaaArr2
namespace Go.Proofs.Ytlbkfphepneflaa
open Go.RowKit

theorem singErr_long {l : List Opn} (h : 16 < l.length) : singErr l = 5 := by unfold singErr; rw [if_pos h]
theorem singErr_one {l : List Opn} {k : Nat} (h16 : l.length ≤ 16) (h : errUpto l k = 0) (he : oneErr l k ≠ 0) (hk : k < l.length) : singErr l = oneErr l k := by
  unfold singErr; rw [if_neg (by omega)]; exact errUpto_stop h he _ hk

set_option maxRecDepth 100000 in
set_option maxHeartbeats 2000000 in
theorem single_any (A : Option Addr) (cap : Nat) (l : List Opn) (w : World) (h : ORd w w.heap.size A l) (hn : l.length ≤ 1000) (hs : OSmall l) :
    Calls Try.prog 38 #[.slice A l.length cap, .int .i64 (-1)] w fun e w' => e = .returned (.int .i64 (singErr l)) ∧ Below w.heap.size w w' := by
  have H := Lib.hid h
  have HS := Lib.hid hs
  clear h hs
  by_cases hlong : 16 < l.length
  · have HE := Lib.hid (singErr_long hlong)
    go_enter Try.func38, Try.ntmps38
    go_wp2
    go_ret
    exact ⟨ret_int HE.out.symm, Below.refl _ _⟩
  · go_enter Try.func38, Try.ntmps38
    go_wp2_with fail
    go_loopw [5, 6, 7] (fun j _ _ wr => ∃ k : Nat, k ≤ l.length ∧ j = .int .i64 k ∧ errUpto l k = 0 ∧ Below w.heap.size w wr) (fun j _ _ _ => l.length - (intOf j).toNat)
    case atStart => exact ⟨0, Nat.zero_le _, rfl, rfl, Below.refl _ _⟩
    case round =>
      obtain ⟨i, hi, rfl, hu0, hb0⟩ := hrel
      have HU0 := Lib.hid hu0
      have HB0 := Lib.hid hb0
      have hsz0 := hb0.size
      clear hu0 hb0
      obtain ⟨wo, rfl⟩ : ∃ wo : World, wo = wr := ⟨_, rfl⟩
      by_cases hlt0 : i < l.length
      · obtain ⟨b, off, o, rfl, hB, hd, hat⟩ := H.out.at_ (Below.refl _ _) hlt0
        obtain ⟨c0', c1', c2', ⟨Aa, ca, c3', a1, a2⟩, ⟨Au, cu, c4', u1, u2⟩⟩ := hat
        have c0 := (HB0.out.cell (p := ⟨b, _, none⟩) hB).trans c0'
        have c1 := (HB0.out.cell (p := ⟨b, _, none⟩) hB).trans c1'
        have c2 := (HB0.out.cell (p := ⟨b, _, none⟩) hB).trans c2'
        have c3 := (HB0.out.cell (p := ⟨b, _, none⟩) hB).trans c3'
        have c4 := (HB0.out.cell (p := ⟨b, _, none⟩) hB).trans c4'
        have hso := HS.out o (List.mem_of_getElem? hd)
        have HD := Lib.hid hd
        have HA := Lib.hid a2
        have hso1 := hso.2.1
        have hso2 := hso.1
        clear c0' c1' c2' c3' c4' hd a2 u1 u2 hso
        go_wp2_with fail
        ((with_reducible refine (refName_any o.name _ (by omega)).mono ?_); rintro e w1 ⟨rfl, rfl⟩)
        cases hnm : nameOk o.name.data.toList with
        | false =>
          have HE1 := oneErr_name HD.out hnm
          have HE := Lib.hid ((singErr_one (by omega) HU0.out (by rw [HE1]; omega) hlt0).trans HE1)
          clear hnm HE1
          go_wp2
          go_ret
          exact ⟨ret_int HE.out.symm, HB0.out.alloc hsz0 _⟩
        | true =>
          have HN := Lib.hid hnm
          clear hnm
          have HZ := Lib.hid (opNew wo o Aa Au ca cu 38)
          go_wp2_with fail
          revert HZ
          generalize wo.alloc (.cells #[.string o.name, .int .i64 o.mach, .int .i64 o.mins, .slice Aa o.after.length ca, .slice Au o.uses.length cu] 38) = w0
          intro HZ
          obtain ⟨z0, z1, z2, z3, z4, hz0, hbw⟩ := HZ.out
          have HBW := Lib.hid (HB0.out.trans (hbw.mono hsz0))
          have HZ0 := Lib.hid z0
          have HZ1 := Lib.hid z1
          have HZ2 := Lib.hid z2
          have HZ3 := Lib.hid z3
          clear hbw z0 z1 z2 z3 z4 HZ c0 c1 c2 c3 c4
          go_loopw [7] (fun j wr => ∃ k : Nat, k ≤ i ∧ j = .int .i64 k ∧ (l.take k).any (sameName o) = false ∧ Below (wo.heap.size + 1) w0 wr) (fun j _ => i - (intOf j).toNat)
          case atStart => exact ⟨0, Nat.zero_le _, rfl, rfl, Below.refl _ _⟩
          case round =>
            obtain ⟨k, hk, rfl, hu, hb⟩ := hrel
            have HU := Lib.hid hu
            have hsz := hb.size
            have hsz' : wo.heap.size < wr.heap.size := by omega
            have hsz1 : wo.heap.size + 1 ≤ wr.heap.size := by omega
            have z0 := (hb.cell (p := ⟨wo.heap.size, 0, none⟩) (by simp)).trans HZ0.out
            have z1 := (hb.cell (p := ⟨wo.heap.size, 1, none⟩) (by simp)).trans HZ1.out
            have z2 := (hb.cell (p := ⟨wo.heap.size, 2, none⟩) (by simp)).trans HZ2.out
            have z3 := (hb.cell (p := ⟨wo.heap.size, 3, none⟩) (by simp)).trans HZ3.out
            have HB := Lib.hid hb
            have HBW2 := Lib.hid (HBW.out.trans (hb.mono (by omega)))
            clear hu hb
            by_cases hlt : k < i
            · obtain ⟨b', off', p, e', hB', hp, hpat⟩ := H.out.at_ HBW2.out (show k < l.length by omega)
              cases e'
              obtain ⟨c0, c1, c2, ⟨Ap, cp, c3, p1, p2⟩, ⟨Aq, cq, c4, q1, q2⟩⟩ := hpat
              have HPD := Lib.hid hp
              clear hp p1 p2 q1 q2 z1 z2 z3 hB' c1 c2 c3 c4
              have hk0 : (0 : Int) ≤ (k : Int) := by omega
              have hk1 : (k : Int) < (l.length : Int) := by omega
              cases hsn : sameName o p with
              | true =>
                have HE1 := oneErr_dup HD.out HN.out (k := k) (by rw [List.getElem?_take, if_pos hlt]; exact HPD.out) hsn
                have HE := Lib.hid ((singErr_one (by omega) HU0.out (by rw [HE1]; omega) hlt0).trans HE1)
                have hsb : (p.name.toList == o.name.toList) = true := by rw [← same_toList]; exact hsn
                clear hsn HE1
                go_wp2
                go_quiet (fail)
                go_wp2
                go_ret
                exact ⟨ret_int HE.out.symm, below_drewN HBW2.out _⟩
              | false =>
                have HE := Lib.hid (any_take_succ HPD.out HU.out hsn)
                have hsb : (p.name.toList == o.name.toList) = false := by rw [← same_toList]; exact hsn
                clear hsn
                go_wp2
                go_quiet (fail)
                go_wp2
                go_roundw
                case rel => exact ⟨k + 1, by omega, by go_num, HE.out, below_drewN HB.out _⟩
                case measure => simp [intOf]; omega
            · have hki : k = i := by omega
              subst hki
              by_cases hr : o.mach < 0 ∨ 8 ≤ o.mach ∨ o.mins < 1 ∨ 10000 < o.mins
              · have HE1 := oneErr_range HD.out HN.out HU.out (rangeBad_num hr)
                have HE := Lib.hid ((singErr_one (by omega) HU0.out (by rw [HE1]; omega) hlt0).trans HE1)
                clear HE1
                go_wp2
                all_goals
                  go_ret
                  exact ⟨ret_int HE.out.symm, HBW2.out⟩
              · have r1 : 0 ≤ o.mach := by omega
                have r2 : o.mach < 8 := by omega
                have r3 : 1 ≤ o.mins := by omega
                have r4 : o.mins ≤ 10000 := by omega
                have HI := Lib.hid ((HA.out.below HBW2.out).more (show w.heap.size ≤ wr.heap.size by omega))
                clear hr
                go_wp2_with fail
                ((with_reducible refine (within_any Aa ca o.after l.length _ HI.out (by omega)).mono ?_); rintro e w2 ⟨rfl, rfl⟩)
                cases hix : idxOk o.after l.length with
                | false =>
                  have HE1 := oneErr_range HD.out HN.out HU.out (rangeBad_idx hix)
                  have HE := Lib.hid ((singErr_one (by omega) HU0.out (by rw [HE1]; omega) hlt0).trans HE1)
                  clear hix HE1
                  go_wp2
                  go_ret
                  exact ⟨ret_int HE.out.symm, HBW2.out⟩
                | true =>
                  have HR := Lib.hid (rangeBad_false r1 r2 r3 r4 hix)
                  clear hix
                  go_wp2_with fail
                  ((with_reducible refine (twice_any Aa ca o.after _ HI.out (by omega) a1).mono ?_); rintro e w2 ⟨rfl, hb2⟩)
                  have HB2 := Lib.hid (HBW2.out.trans (hb2.mono (by omega)))
                  clear hb2
                  cases hdp : dup o.after with
                  | true =>
                    have HE1 := oneErr_twice HD.out HN.out HU.out HR.out hdp
                    have HE := Lib.hid ((singErr_one (by omega) HU0.out (by rw [HE1]; omega) hlt0).trans HE1)
                    clear hdp HE1
                    go_wp2
                    go_ret
                    exact ⟨ret_int HE.out.symm, HB2.out⟩
                  | false =>
                    have HE := Lib.hid (errUpto_go HU0.out (oneErr_ok HD.out HN.out HU.out HR.out hdp))
                    clear hdp
                    go_wp2
                    go_roundw
                    case rel => exact ⟨k + 1, by omega, by go_num, HE.out, HB2.out⟩
                    case measure => simp [intOf]; omega
      · have hil : i = l.length := by omega
        subst hil
        have HE := Lib.hid (singErr_zero (by omega) HU0.out)
        go_wp2
        go_ret
        exact ⟨ret_int HE.out.symm, HB0.out⟩
end Go.Proofs.Ytlbkfphepneflaa
