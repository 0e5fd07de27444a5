/- line.Check: the walk. -/
import Derived.Test.YtlbkfphepneflaaChkPlain
namespace Go.Proofs.Ytlbkfphepneflaa
open Go.RowKit

set_option maxRecDepth 100000 in
set_option maxHeartbeats 4000000 in
theorem check_any (A : Option Addr) (cap : Nat) (l : List Opn) (c : Int) (S : Option Addr) (capS : Nat) (ss : List (List Int)) (w : World) (h : ORd w w.heap.size A l) (hn : l.length ≤ 1000) (hcap : l.length ≤ cap) (hs : OSmall l)
    (hS : SRd w w.heap.size S ss) (hsm : SSmall ss) :
    Calls Try.prog 19 #[.slice A l.length cap, .int .i64 c, .slice S ss.length capS] w fun e w' => e = .returned (.int .i64 (chkErr l c ss)) ∧ Below w.heap.size w w' := by
  have H := Lib.hid h
  have HS := Lib.hid hs
  have HSS := Lib.hid hS
  have HSM := Lib.hid hsm.2
  have hsl := hsm.1
  clear h hs hS hsm
  go_enter Try.func19, Try.ntmps19
  go_wp2_with fail
  ((with_reducible refine (bound_any A cap l c _ H.out hn hcap HS.out).mono ?_); rintro e w1 ⟨rfl, hb1⟩)
  have HB1 := Lib.hid hb1
  have hs1 := hb1.size
  clear hb1
  by_cases hz : bndErr l c = 0
  · have HZ := Lib.hid hz
    obtain ⟨ho, hc0, hc1, -⟩ := bndErr_zero hz
    have HSD := Lib.hid (sound_of (ordErr_zero ho).1)
    have hl16 := (sound_of (ordErr_zero ho).1).len
    clear hz ho
    rw [HZ.out]
    have hmk := mkInts l.length (by omega)
    go_wp2_with fail
    clear hmk
    have HR0 : Hid (Row (w1.alloc (.cells (intCells (List.replicate l.length 0)) 3)) w1.heap.size (fillM 0 l.length)) := by rw [fillM_zero]; exact Row.new w1 _
    go_loopw [10, 40] (fun _ j wr => ∃ q : Nat, q ≤ l.length ∧ j = .int .i64 q ∧ Row wr w1.heap.size (fillM q l.length) ∧ Below w1.heap.size w1 wr) (fun _ j _ => l.length - (intOf j).toNat)
    case atStart => exact ⟨0, Nat.zero_le _, rfl, HR0.out, (Below.refl _ _).alloc (Nat.le_refl _) _⟩
    case round =>
      obtain ⟨q, hq, rfl, hrow, hb⟩ := hrel
      have HF := Lib.hid hrow
      have HB9 := Lib.hid hb
      have hrl9 := hrow.lt
      have hrf := hrow.free
      clear hrow hb HR0
      by_cases hlq : q < l.length
      · have cy := HF.out.cell (i := q) (x := 0) (fillM_hi hlq)
        have cf := hrf q
        clear hrf
        have HF' := Lib.hid (HF.out.put q (-1))
        rw [fillM_next hlq] at HF'
        have HB9' := Lib.hid (HB9.out.setCell (p := ⟨w1.heap.size, q, none⟩) (Nat.le_refl _) (.int .i64 (-1)))
        go_wp2
        go_roundw
        case rel => exact ⟨q + 1, by omega, by go_num, HF'.out, HB9'.out⟩
        case measure => simp [intOf]; omega
      · obtain rfl : l.length = q := by omega
        have HF' : Hid (Row wr w1.heap.size (noAt l.length)) := by
          have h1 := HF.out
          unfold fillM at h1
          rw [Nat.sub_self, List.replicate_zero, List.append_nil] at h1
          exact h1
        clear HF hrf
        go_wp2_with fail
        go_loopw [11, 12, 14, 49] (fun _ _ _ j wr => ∃ (k : Nat) (at_ : List Int), k ≤ ss.length ∧ j = .int .i64 k ∧ puts l.length (flat (ss.take k)) = (0, at_) ∧ Row wr w1.heap.size at_ ∧ Below w1.heap.size w1 wr) (fun _ _ _ j _ => ss.length - (intOf j).toNat)
        case atStart => exact ⟨0, noAt l.length, Nat.zero_le _, rfl, rfl, HF'.out, HB9.out⟩
        case round =>
          clear HF' HB9 hrl9
          obtain ⟨k, at_, hk, rfl, hp, hrow, hb⟩ := hrel
          have HP := Lib.hid hp
          have HR := Lib.hid hrow
          have HB := Lib.hid hb
          have HBW := Lib.hid (HB1.out.trans (hb.mono hs1))
          have hrl := hrow.lt
          clear hp hrow hb
          by_cases hlt : k < ss.length
          · obtain ⟨b, off, q, Aq, cq, rfl, hB, hd, cs, hcq, hrq⟩ := HSS.out.at_ (Below.refl _ _) hlt
            have cs := (HBW.out.cell (p := ⟨b, _, none⟩) hB).trans cs
            have HD := Lib.hid hd
            have hql := HSM.out q (List.mem_of_getElem? hd)
            have HQ := Lib.hid hrq
            clear hd hrq hcq
            have HP0 : Hid (puts l.length (pre ss q k 0) = (0, at_)) := by rw [pre_zero]; exact HP.out
            go_wp2_with fail
            clear cs
            obtain ⟨w5, rfl⟩ : ∃ w5 : World, w5 = wr := ⟨_, rfl⟩
            go_loopw [14, 56] (fun _ j wr => ∃ (j' : Nat) (at_ : List Int), j' ≤ q.length ∧ j = .int .i64 j' ∧ puts l.length (pre ss q k j') = (0, at_) ∧ Row wr w1.heap.size at_ ∧ Below w1.heap.size w1 wr) (fun _ j _ => q.length - (intOf j).toNat)
            case atStart => exact ⟨0, at_, Nat.zero_le _, rfl, HP0.out, HR.out, HB.out⟩
            case round =>
              clear HP0 HP HR HB hrl HBW
              obtain ⟨j, at1, hj, rfl, hp, hrow, hb⟩ := hrel
              have HP := Lib.hid hp
              have HR := Lib.hid hrow
              have HB := Lib.hid hb
              have HBW := Lib.hid (HB1.out.trans (hb.mono hs1))
              have hrl := hrow.lt
              have hlen := (puts_len _ _ hp).1
              have HLEN := Lib.hid hlen
              clear hp hrow hb hlen
              by_cases hlj : j < q.length
              · obtain ⟨b2, off2, x, rfl, hB2, hdx, cx⟩ := HQ.out.at_ HBW.out hlj
                have HDX := Lib.hid hdx
                clear hdx
                by_cases hx : x < 0 ∨ (l.length : Int) ≤ x
                · have HE := Lib.hid (chk_put HZ.out (puts_bad HD.out HDX.out HP.out hx) (by omega))
                  rcases hx with hx | hx
                  · go_wp2
                    go_ret
                    exact ⟨ret_int HE.out.symm, HBW.out⟩
                  · have hx0 : 0 ≤ x := by omega
                    go_wp2
                    go_ret
                    exact ⟨ret_int HE.out.symm, HBW.out⟩
                · obtain ⟨xn, rfl⟩ : ∃ xn : Nat, x = (xn : Int) := ⟨x.toNat, by omega⟩
                  have hxn : xn < l.length := by omega
                  have cy := HR.out.cell (getD_some (E := at1) (t := xn) (by rw [HLEN.out]; exact hxn))
                  have cf := HR.out.free xn
                  have HPN := Lib.hid (puts_next (n := l.length) (at_ := at1) ss k HDX.out HP.out (by omega) (by omega))
                  have HPT := Lib.hid (puts_twice (n := l.length) HD.out HDX.out HP.out (by omega) (by omega))
                  have e1 : ((xn : Int)).toNat = xn := by simp
                  rw [e1] at HPN HPT
                  clear hx e1
                  have HR' := Lib.hid (HR.out.put xn (k : Int))
                  have HB' := Lib.hid (HB.out.setCell (p := ⟨w1.heap.size, xn, none⟩) (Nat.le_refl _) (.int .i64 (k : Int)))
                  revert HPN HPT cy
                  generalize at1.getD xn 0 = y
                  intro cy HPN HPT
                  by_cases hy : y = -1
                  · have hyb : (y != -1) = false := by simp [hy]
                    have HPN' := Lib.hid (HPN.out hy)
                    clear hy
                    go_wp2
                    go_roundw
                    case rel => exact ⟨j + 1, _, by omega, by go_num, HPN'.out, HR'.out, HB'.out⟩
                    case measure => simp [intOf]; omega
                  · have hyb : (y != -1) = true := by simpa using hy
                    have HE := Lib.hid (chk_put HZ.out (HPT.out hy) (by omega))
                    clear hy
                    go_wp2
                    go_ret
                    exact ⟨ret_int HE.out.symm, HBW.out⟩
              · obtain rfl : q.length = j := by omega
                have HP' : Hid (puts l.length (flat (ss.take (k + 1))) = (0, at1)) := by rw [← pre_all HD.out]; exact HP.out
                go_wp2
                go_roundw
                case rel => exact ⟨k + 1, at1, by omega, by go_num, HP'.out, HR.out, HB.out⟩
                case measure => simp [intOf]; omega
          · obtain rfl : ss.length = k := by omega
            have HP' : Hid (puts l.length (flat ss) = (0, at_)) := by have h1 := HP.out; rw [List.take_length] at h1; exact h1
            have HLEN := Lib.hid (puts_len _ _ HP'.out).1
            have HRNG := Lib.hid (puts_len _ _ HP'.out).2
            clear HP
            go_wp2_with fail
            go_loop [16, 81] (fun _ j => ∃ q : Nat, q ≤ l.length ∧ j = .int .i64 q ∧ hasB (at_.take q) (-1) = false) (fun _ j => l.length - (intOf j).toNat)
            case atStart => exact ⟨0, Nat.zero_le _, rfl, rfl⟩
            case round =>
              obtain ⟨q, hq, rfl, hu⟩ := hrel
              have HU := Lib.hid hu
              clear hu
              by_cases hlq : q < l.length
              · have hga := getD_some (E := at_) (t := q) (by rw [HLEN.out]; exact hlq)
                have cy := HR.out.cell hga
                have HGA := Lib.hid hga
                clear hga
                revert HGA cy
                generalize at_.getD q 0 = y
                intro cy HGA
                by_cases hy : y = -1
                · have hyb : (y == -1) = true := by simp [hy]
                  have HE := Lib.hid (chk_gap HZ.out HP'.out (by have h1 := hasB_found HGA.out; rw [hy] at h1; exact h1))
                  clear hy
                  go_wp2
                  go_ret
                  exact ⟨ret_int HE.out.symm, HBW.out⟩
                · have hyb : (y == -1) = false := by simp [hy]
                  have HU' := Lib.hid (hasB_step HGA.out HU.out hy)
                  clear hy
                  go_wp2
                  go_round
                  case rel => exact ⟨q + 1, by omega, by go_num, HU'.out⟩
                  case measure => simp [intOf]; omega
              · obtain rfl : l.length = q := by omega
                have HG : Hid (hasB at_ (-1) = false) := by have h1 := HU.out; rw [← HLEN.out, List.take_length] at h1; exact h1
                clear HU
                go_wp2_with fail
                go_loop [18, 19, 21, 90] (fun _ _ _ j => ∃ k : Nat, k ≤ ss.length ∧ j = .int .i64 k ∧ (ss.take k).any (overS l c) = false) (fun _ _ _ j => ss.length - (intOf j).toNat)
                case atStart => exact ⟨0, Nat.zero_le _, rfl, rfl⟩
                case round =>
                  obtain ⟨k, hk', rfl, hu⟩ := hrel
                  have HU := Lib.hid hu
                  clear hu
                  by_cases hlt' : k < ss.length
                  · obtain ⟨b, off, q, Aq, cq, rfl, hB, hd, cs, hcq, hrq⟩ := HSS.out.at_ (Below.refl _ _) hlt'
                    have cs := (HBW.out.cell (p := ⟨b, _, none⟩) hB).trans cs
                    have HD := Lib.hid hd
                    have hql := HSM.out q (List.mem_of_getElem? hd)
                    have HQ := Lib.hid hrq
                    have HQR : Hid (∀ x ∈ q, 0 ≤ x ∧ x < l.length) := fun x hx => HRNG.out (k, x) (mem_flat.2 ⟨q, HD.out, hx⟩)
                    clear hd hrq hcq
                    go_wp2_with fail
                    clear cs
                    go_loop [19, 21, 96] (fun s _ j => ∃ j' : Nat, j' ≤ q.length ∧ j = .int .i64 j' ∧ s = .int .i64 (sumS l (q.take j'))) (fun _ _ j => q.length - (intOf j).toNat)
                    case atStart => exact ⟨0, Nat.zero_le _, rfl, rfl⟩
                    case round =>
                      obtain ⟨j, hj, rfl, rfl⟩ := hrel
                      have sb := sumS_bnd HSD.out HQR.out hql j
                      have sb0 := sb.1
                      have sb1 := sb.2
                      clear sb
                      by_cases hlj : j < q.length
                      · obtain ⟨b2, off2, x, rfl, hB2, hdx, cx⟩ := HQ.out.at_ HBW.out hlj
                        obtain ⟨x0, x1⟩ := HQR.out x (List.mem_of_getElem? hdx)
                        have HST := Lib.hid (sumS_snoc (l := l) hdx)
                        clear hdx
                        obtain ⟨xn, rfl⟩ : ∃ xn : Nat, x = (xn : Int) := ⟨x.toNat, by omega⟩
                        have hxn : xn < l.length := by omega
                        obtain ⟨b3, off3, o, rfl, hB3, hdo, hat0⟩ := H.out.at_ (Below.refl _ _) hxn
                        have c2 := (HBW.out.cell (p := ⟨b3, _, none⟩) hB3).trans hat0.2.2.1
                        have hm0 := (HSD.out.mins o (List.mem_of_getElem? hdo)).1
                        have hm1 := (HSD.out.mins o (List.mem_of_getElem? hdo)).2
                        have e1 : ((xn : Int)).toNat = xn := by simp
                        have HMN : Hid (sumS l (q.take (j + 1)) = sumS l (q.take j) + o.mins) := by show _ = _; rw [HST.out, e1, mn_at hdo]
                        clear hat0 hdo HST e1
                        go_wp2
                        go_round
                        case rel => exact ⟨j + 1, by omega, by go_num, by rw [HMN.out]⟩
                        case measure => simp [intOf]; omega
                      · obtain rfl : q.length = j := by omega
                        rw [List.take_length] at sb0 sb1
                        rw [List.take_length]
                        by_cases hov : c < sumS l q
                        · have HE := Lib.hid (chk_over HZ.out HP'.out HG.out (any_hit HD.out (by unfold overS; simpa using hov)))
                          go_wp2
                          go_ret
                          exact ⟨ret_int HE.out.symm, HBW.out⟩
                        · have HU' := Lib.hid (any_snoc HD.out HU.out (by unfold overS; simpa using hov))
                          go_wp2
                          go_round
                          case rel => exact ⟨k + 1, by omega, by go_num, HU'.out⟩
                          case measure => simp [intOf]; omega
                  · obtain rfl : ss.length = k := by omega
                    have HOV := Lib.hid (any_done HU.out)
                    clear HU
                    go_wp2_with fail
                    obtain ⟨w5, rfl⟩ : ∃ w5 : World, w5 = wr := ⟨_, rfl⟩
                    go_loopw [22, 23, 25, 114] (fun _ _ _ j wr => ∃ i : Nat, i ≤ l.length ∧ j = .int .i64 i ∧ (List.range i).any (badO l at_) = false ∧ Row wr w1.heap.size at_ ∧ Below w.heap.size w wr) (fun _ _ _ j _ => l.length - (intOf j).toNat)
                    case atStart => exact ⟨0, Nat.zero_le _, rfl, rfl, HR.out, HBW.out⟩
                    case round =>
                      clear HR HBW HB hrl
                      obtain ⟨i, hi, rfl, hu, hrow, hb⟩ := hrel
                      have HU := Lib.hid hu
                      have HR := Lib.hid hrow
                      have HB := Lib.hid hb
                      have hsz := hb.size
                      have hrl := hrow.lt
                      clear hu hrow hb
                      by_cases hil : i < l.length
                      · obtain ⟨b, off, o, rfl, hB, hd, hat0⟩ := H.out.at_ (Below.refl _ _) hil
                        obtain ⟨c0, c1, c2, ⟨Aa, ca, c3, a1, a2⟩, ⟨Au, cu, c4, u1, u2⟩⟩ := hat0
                        have c0 := (HB.out.cell (p := ⟨b, _, none⟩) hB).trans c0
                        have c1 := (HB.out.cell (p := ⟨b, _, none⟩) hB).trans c1
                        have c2 := (HB.out.cell (p := ⟨b, _, none⟩) hB).trans c2
                        have c3 := (HB.out.cell (p := ⟨b, _, none⟩) hB).trans c3
                        have c4 := (HB.out.cell (p := ⟨b, _, none⟩) hB).trans c4
                        have HA := Lib.hid a2
                        have HAF := Lib.hid (af_at hd)
                        have hso := (HS.out o (List.mem_of_getElem? hd)).2.1
                        have HDX := Lib.hid (HSD.out.idx o (List.mem_of_getElem? hd))
                        have HZ2 := Lib.hid (opNew wr o Aa Au ca cu 38)
                        have HR2 := Lib.hid (HR.out.alloc (.cells #[.string o.name, .int .i64 o.mach, .int .i64 o.mins, .slice Aa o.after.length ca, .slice Au o.uses.length cu] 38))
                        have HB2 := Lib.hid (HB.out.alloc hsz (.cells #[.string o.name, .int .i64 o.mach, .int .i64 o.mins, .slice Aa o.after.length ca, .slice Au o.uses.length cu] 38))
                        clear hd a1 a2 u1 u2
                        go_wp2_with fail
                        revert HZ2 HR2 HB2
                        generalize wr.alloc (.cells #[.string o.name, .int .i64 o.mach, .int .i64 o.mins, .slice Aa o.after.length ca, .slice Au o.uses.length cu] 38) = w2
                        intro HZ2 HR2 HB2
                        clear c0 c1 c2 c3 c4 HZ2
                        have hsz2 := HB2.out.size
                        have hrl2 := HR2.out.lt
                        obtain ⟨w6, rfl⟩ : ∃ w6 : World, w6 = wr := ⟨_, rfl⟩
                        go_loopw [25, 122] (fun _ j wq => ∃ (j' : Nat), j' ≤ o.after.length ∧ j = .int .i64 j' ∧ Row wq w1.heap.size at_ ∧ Below w.heap.size w wq ∧ (o.after.take j').any (badA at_ i) = false) (fun _ j _ => o.after.length - (intOf j).toNat)
                        case atStart => exact ⟨0, Nat.zero_le _, rfl, HR2.out, HB2.out, rfl⟩
                        case round =>
                          clear HR2 HB2 hsz2 hrl2
                          obtain ⟨j, hj, rfl, hrow, hb, hu⟩ := hrel
                          have HUJ := Lib.hid hu
                          have HR2 := Lib.hid hrow
                          have HB2 := Lib.hid hb
                          have hsz2 := hb.size
                          have hrl2 := hrow.lt
                          clear hu hrow hb
                          by_cases hlj : j < o.after.length
                          · obtain ⟨b2, off2, x, rfl, hB2, hdx, cx⟩ := HA.out.at_ HB2.out hlj
                            obtain ⟨x0, x1⟩ := HDX.out x (List.mem_of_getElem? hdx)
                            have HDXX := Lib.hid hdx
                            clear hdx
                            obtain ⟨xn, rfl⟩ : ∃ xn : Nat, x = (xn : Int) := ⟨x.toNat, by omega⟩
                            have hxn : xn < l.length := by omega
                            have cy := HR2.out.cell (getD_some (E := at_) (t := xn) (by rw [HLEN.out]; exact hxn))
                            have cz := HR2.out.cell (getD_some (E := at_) (t := i) (by rw [HLEN.out]; exact hil))
                            have HBA : Hid (badA at_ i (xn : Int) = decide (at_.getD i 0 < at_.getD xn 0)) := rfl
                            revert HBA cy cz
                            generalize at_.getD xn 0 = y
                            generalize at_.getD i 0 = z
                            intro cy cz HBA
                            have hi0 : (0 : Int) ≤ (i : Int) := by omega
                            have hi1 : (i : Int) < (l.length : Int) := by omega
                            have hx0 : (0 : Int) ≤ (xn : Int) := by omega
                            by_cases hzy : z < y
                            · have HE := Lib.hid (chk_order HZ.out HP'.out HG.out HOV.out (range_any_hit hil (by unfold badO; rw [HAF.out]; exact any_hit HDXX.out (by rw [HBA.out]; simpa using hzy))))
                              go_wp2
                              go_quiet (fail)
                              go_wp2
                              go_ret
                              exact ⟨ret_int HE.out.symm, below_drewN HB2.out _⟩
                            · have HU' := Lib.hid (any_snoc HDXX.out HUJ.out (by rw [HBA.out]; simpa using hzy))
                              go_wp2
                              go_quiet (fail)
                              go_wp2
                              go_roundw
                              case rel => exact ⟨j + 1, by omega, by go_num, HR2.out.drewN _, below_drewN HB2.out _, HU'.out⟩
                              case measure => simp [intOf]; omega
                          · obtain rfl : o.after.length = j := by omega
                            have HU' := Lib.hid (range_any_snoc HU.out (show badO l at_ i = false from by unfold badO; rw [HAF.out]; exact any_done HUJ.out))
                            go_wp2
                            go_roundw
                            case rel => exact ⟨i + 1, by omega, by go_num, HU'.out, HR2.out, HB2.out⟩
                            case measure => simp [intOf]; omega
                      · obtain rfl : l.length = i := by omega
                        have HE := Lib.hid (chk_ok HZ.out HP'.out HG.out HOV.out HU.out)
                        go_wp2
                        go_ret
                        exact ⟨ret_int HE.out.symm, HB.out⟩
  · have HE := Lib.hid (chk_bnd (ss := ss) hz)
    have hne : (bndErr l c != 0) = true := by simpa using hz
    clear hz
    go_wp2
    go_ret
    exact ⟨ret_int HE.out.symm, HB1.out⟩
end Go.Proofs.Ytlbkfphepneflaa
