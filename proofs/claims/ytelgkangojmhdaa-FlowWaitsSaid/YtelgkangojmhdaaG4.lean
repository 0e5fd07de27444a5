/- Several texts as one: Chk, RefChk, RefChk2. -/
import Derived.Test.YtelgkangojmhdaaG3
/- line.Check: the walk. -/
namespace Go.Proofs.Ytelgkangojmhdaa
open Go.RowKit

set_option maxRecDepth 100000 in
set_option maxHeartbeats 4000000 in
theorem check_any (A : Option Addr) (cap : Nat) (l : List Opn) (c : Int) (S : Option Addr) (capS : Nat) (ss : List (List Int)) (w : World) (h : ORd w w.heap.size A l) (hn : l.length ≤ 1000) (hcap : l.length ≤ cap) (hs : OSmall l)
    (hS : SRd w w.heap.size S ss) (hsm : SSmall ss) :
    Calls Try.prog 16 #[.slice A l.length cap, .int .i64 c, .slice S ss.length capS] w fun e w' => e = .returned (.int .i64 (chkErr l c ss)) ∧ Below w.heap.size w w' := by
  have H := Lib.hid h
  have HS := Lib.hid hs
  have HSS := Lib.hid hS
  have HSM := Lib.hid hsm.2
  have hsl := hsm.1
  clear h hs hS hsm
  go_enter Try.func16, Try.ntmps16
  go_wp2_with fail
  ((with_reducible refine (bound_any A cap l c _ H.out hn hcap HS.out).mono ?_); rintro e w1 ⟨rfl, hb1⟩)
  have HB1 := Lib.hid hb1
  have hs1 := hb1.size
  clear hb1
  by_cases hz : bndErr l c = 0
  · have HZ := Lib.hid hz
    obtain ⟨ho, hc0, hc1, -⟩ := bndErr_zero hz
    have HSD := Lib.hid (sound_of (ordErr_zero ho).1)
    have hl16 := (sound_of (ordErr_zero ho).1).len
    clear hz ho
    rw [HZ.out]
    have hmk := mkInts l.length (by omega)
    go_wp2_with fail
    clear hmk
    have HR0 : Hid (Row (w1.alloc (.cells (intCells (List.replicate l.length 0)) 3)) w1.heap.size (fillM 0 l.length)) := by rw [fillM_zero]; exact Row.new w1 _
    go_loopw [10, 40] (fun _ j wr => ∃ q : Nat, q ≤ l.length ∧ j = .int .i64 q ∧ Row wr w1.heap.size (fillM q l.length) ∧ Below w1.heap.size w1 wr) (fun _ j _ => l.length - (intOf j).toNat)
    case atStart => exact ⟨0, Nat.zero_le _, rfl, HR0.out, (Below.refl _ _).alloc (Nat.le_refl _) _⟩
    case round =>
      obtain ⟨q, hq, rfl, hrow, hb⟩ := hrel
      have HF := Lib.hid hrow
      have HB9 := Lib.hid hb
      have hrl9 := hrow.lt
      have hrf := hrow.free
      clear hrow hb HR0
      by_cases hlq : q < l.length
      · have cy := HF.out.cell (i := q) (x := 0) (fillM_hi hlq)
        have cf := hrf q
        clear hrf
        have HF' := Lib.hid (HF.out.put q (-1))
        rw [fillM_next hlq] at HF'
        have HB9' := Lib.hid (HB9.out.setCell (p := ⟨w1.heap.size, q, none⟩) (Nat.le_refl _) (.int .i64 (-1)))
        go_wp2
        go_roundw
        case rel => exact ⟨q + 1, by omega, by go_num, HF'.out, HB9'.out⟩
        case measure => simp [intOf]; omega
      · obtain rfl : l.length = q := by omega
        have HF' : Hid (Row wr w1.heap.size (noAt l.length)) := by
          have h1 := HF.out
          unfold fillM at h1
          rw [Nat.sub_self, List.replicate_zero, List.append_nil] at h1
          exact h1
        clear HF hrf
        go_wp2_with fail
        go_loopw [11, 12, 14, 49] (fun _ _ _ j wr => ∃ (k : Nat) (at_ : List Int), k ≤ ss.length ∧ j = .int .i64 k ∧ puts l.length (flat (ss.take k)) = (0, at_) ∧ Row wr w1.heap.size at_ ∧ Below w1.heap.size w1 wr) (fun _ _ _ j _ => ss.length - (intOf j).toNat)
        case atStart => exact ⟨0, noAt l.length, Nat.zero_le _, rfl, rfl, HF'.out, HB9.out⟩
        case round =>
          clear HF' HB9 hrl9
          obtain ⟨k, at_, hk, rfl, hp, hrow, hb⟩ := hrel
          have HP := Lib.hid hp
          have HR := Lib.hid hrow
          have HB := Lib.hid hb
          have HBW := Lib.hid (HB1.out.trans (hb.mono hs1))
          have hrl := hrow.lt
          clear hp hrow hb
          by_cases hlt : k < ss.length
          · obtain ⟨b, off, q, Aq, cq, rfl, hB, hd, cs, hcq, hrq⟩ := HSS.out.at_ (Below.refl _ _) hlt
            have cs := (HBW.out.cell (p := ⟨b, _, none⟩) hB).trans cs
            have HD := Lib.hid hd
            have hql := HSM.out q (List.mem_of_getElem? hd)
            have HQ := Lib.hid hrq
            clear hd hrq hcq
            have HP0 : Hid (puts l.length (pre ss q k 0) = (0, at_)) := by rw [pre_zero]; exact HP.out
            go_wp2_with fail
            clear cs
            obtain ⟨w5, rfl⟩ : ∃ w5 : World, w5 = wr := ⟨_, rfl⟩
            go_loopw [14, 56] (fun _ j wr => ∃ (j' : Nat) (at_ : List Int), j' ≤ q.length ∧ j = .int .i64 j' ∧ puts l.length (pre ss q k j') = (0, at_) ∧ Row wr w1.heap.size at_ ∧ Below w1.heap.size w1 wr) (fun _ j _ => q.length - (intOf j).toNat)
            case atStart => exact ⟨0, at_, Nat.zero_le _, rfl, HP0.out, HR.out, HB.out⟩
            case round =>
              clear HP0 HP HR HB hrl HBW
              obtain ⟨j, at1, hj, rfl, hp, hrow, hb⟩ := hrel
              have HP := Lib.hid hp
              have HR := Lib.hid hrow
              have HB := Lib.hid hb
              have HBW := Lib.hid (HB1.out.trans (hb.mono hs1))
              have hrl := hrow.lt
              have hlen := (puts_len _ _ hp).1
              have HLEN := Lib.hid hlen
              clear hp hrow hb hlen
              by_cases hlj : j < q.length
              · obtain ⟨b2, off2, x, rfl, hB2, hdx, cx⟩ := HQ.out.at_ HBW.out hlj
                have HDX := Lib.hid hdx
                clear hdx
                by_cases hx : x < 0 ∨ (l.length : Int) ≤ x
                · have HE := Lib.hid (chk_put HZ.out (puts_bad HD.out HDX.out HP.out hx) (by omega))
                  rcases hx with hx | hx
                  · go_wp2
                    go_ret
                    exact ⟨ret_int HE.out.symm, HBW.out⟩
                  · have hx0 : 0 ≤ x := by omega
                    go_wp2
                    go_ret
                    exact ⟨ret_int HE.out.symm, HBW.out⟩
                · obtain ⟨xn, rfl⟩ : ∃ xn : Nat, x = (xn : Int) := ⟨x.toNat, by omega⟩
                  have hxn : xn < l.length := by omega
                  have cy := HR.out.cell (getD_some (E := at1) (t := xn) (by rw [HLEN.out]; exact hxn))
                  have cf := HR.out.free xn
                  have HPN := Lib.hid (puts_next (n := l.length) (at_ := at1) ss k HDX.out HP.out (by omega) (by omega))
                  have HPT := Lib.hid (puts_twice (n := l.length) HD.out HDX.out HP.out (by omega) (by omega))
                  have e1 : ((xn : Int)).toNat = xn := by simp
                  rw [e1] at HPN HPT
                  clear hx e1
                  have HR' := Lib.hid (HR.out.put xn (k : Int))
                  have HB' := Lib.hid (HB.out.setCell (p := ⟨w1.heap.size, xn, none⟩) (Nat.le_refl _) (.int .i64 (k : Int)))
                  revert HPN HPT cy
                  generalize at1.getD xn 0 = y
                  intro cy HPN HPT
                  by_cases hy : y = -1
                  · have hyb : (y != -1) = false := by simp [hy]
                    have HPN' := Lib.hid (HPN.out hy)
                    clear hy
                    go_wp2
                    go_roundw
                    case rel => exact ⟨j + 1, _, by omega, by go_num, HPN'.out, HR'.out, HB'.out⟩
                    case measure => simp [intOf]; omega
                  · have hyb : (y != -1) = true := by simpa using hy
                    have HE := Lib.hid (chk_put HZ.out (HPT.out hy) (by omega))
                    clear hy
                    go_wp2
                    go_ret
                    exact ⟨ret_int HE.out.symm, HBW.out⟩
              · obtain rfl : q.length = j := by omega
                have HP' : Hid (puts l.length (flat (ss.take (k + 1))) = (0, at1)) := by rw [← pre_all HD.out]; exact HP.out
                go_wp2
                go_roundw
                case rel => exact ⟨k + 1, at1, by omega, by go_num, HP'.out, HR.out, HB.out⟩
                case measure => simp [intOf]; omega
          · obtain rfl : ss.length = k := by omega
            have HP' : Hid (puts l.length (flat ss) = (0, at_)) := by have h1 := HP.out; rw [List.take_length] at h1; exact h1
            have HLEN := Lib.hid (puts_len _ _ HP'.out).1
            have HRNG := Lib.hid (puts_len _ _ HP'.out).2
            clear HP
            go_wp2_with fail
            go_loop [16, 81] (fun _ j => ∃ q : Nat, q ≤ l.length ∧ j = .int .i64 q ∧ hasB (at_.take q) (-1) = false) (fun _ j => l.length - (intOf j).toNat)
            case atStart => exact ⟨0, Nat.zero_le _, rfl, rfl⟩
            case round =>
              obtain ⟨q, hq, rfl, hu⟩ := hrel
              have HU := Lib.hid hu
              clear hu
              by_cases hlq : q < l.length
              · have hga := getD_some (E := at_) (t := q) (by rw [HLEN.out]; exact hlq)
                have cy := HR.out.cell hga
                have HGA := Lib.hid hga
                clear hga
                revert HGA cy
                generalize at_.getD q 0 = y
                intro cy HGA
                by_cases hy : y = -1
                · have hyb : (y == -1) = true := by simp [hy]
                  have HE := Lib.hid (chk_gap HZ.out HP'.out (by have h1 := hasB_found HGA.out; rw [hy] at h1; exact h1))
                  clear hy
                  go_wp2
                  go_ret
                  exact ⟨ret_int HE.out.symm, HBW.out⟩
                · have hyb : (y == -1) = false := by simp [hy]
                  have HU' := Lib.hid (hasB_step HGA.out HU.out hy)
                  clear hy
                  go_wp2
                  go_round
                  case rel => exact ⟨q + 1, by omega, by go_num, HU'.out⟩
                  case measure => simp [intOf]; omega
              · obtain rfl : l.length = q := by omega
                have HG : Hid (hasB at_ (-1) = false) := by have h1 := HU.out; rw [← HLEN.out, List.take_length] at h1; exact h1
                clear HU
                go_wp2_with fail
                go_loop [18, 19, 21, 90] (fun _ _ _ j => ∃ k : Nat, k ≤ ss.length ∧ j = .int .i64 k ∧ (ss.take k).any (overS l c) = false) (fun _ _ _ j => ss.length - (intOf j).toNat)
                case atStart => exact ⟨0, Nat.zero_le _, rfl, rfl⟩
                case round =>
                  obtain ⟨k, hk', rfl, hu⟩ := hrel
                  have HU := Lib.hid hu
                  clear hu
                  by_cases hlt' : k < ss.length
                  · obtain ⟨b, off, q, Aq, cq, rfl, hB, hd, cs, hcq, hrq⟩ := HSS.out.at_ (Below.refl _ _) hlt'
                    have cs := (HBW.out.cell (p := ⟨b, _, none⟩) hB).trans cs
                    have HD := Lib.hid hd
                    have hql := HSM.out q (List.mem_of_getElem? hd)
                    have HQ := Lib.hid hrq
                    have HQR : Hid (∀ x ∈ q, 0 ≤ x ∧ x < l.length) := fun x hx => HRNG.out (k, x) (mem_flat.2 ⟨q, HD.out, hx⟩)
                    clear hd hrq hcq
                    go_wp2_with fail
                    clear cs
                    go_loop [19, 21, 96] (fun s _ j => ∃ j' : Nat, j' ≤ q.length ∧ j = .int .i64 j' ∧ s = .int .i64 (sumS l (q.take j'))) (fun _ _ j => q.length - (intOf j).toNat)
                    case atStart => exact ⟨0, Nat.zero_le _, rfl, rfl⟩
                    case round =>
                      obtain ⟨j, hj, rfl, rfl⟩ := hrel
                      have sb := sumS_bnd HSD.out HQR.out hql j
                      have sb0 := sb.1
                      have sb1 := sb.2
                      clear sb
                      by_cases hlj : j < q.length
                      · obtain ⟨b2, off2, x, rfl, hB2, hdx, cx⟩ := HQ.out.at_ HBW.out hlj
                        obtain ⟨x0, x1⟩ := HQR.out x (List.mem_of_getElem? hdx)
                        have HST := Lib.hid (sumS_snoc (l := l) hdx)
                        clear hdx
                        obtain ⟨xn, rfl⟩ : ∃ xn : Nat, x = (xn : Int) := ⟨x.toNat, by omega⟩
                        have hxn : xn < l.length := by omega
                        obtain ⟨b3, off3, o, rfl, hB3, hdo, hat0⟩ := H.out.at_ (Below.refl _ _) hxn
                        have c2 := (HBW.out.cell (p := ⟨b3, _, none⟩) hB3).trans hat0.2.2.1
                        have hm0 := (HSD.out.mins o (List.mem_of_getElem? hdo)).1
                        have hm1 := (HSD.out.mins o (List.mem_of_getElem? hdo)).2
                        have e1 : ((xn : Int)).toNat = xn := by simp
                        have HMN : Hid (sumS l (q.take (j + 1)) = sumS l (q.take j) + o.mins) := by show _ = _; rw [HST.out, e1, mn_at hdo]
                        clear hat0 hdo HST e1
                        go_wp2
                        go_round
                        case rel => exact ⟨j + 1, by omega, by go_num, by rw [HMN.out]⟩
                        case measure => simp [intOf]; omega
                      · obtain rfl : q.length = j := by omega
                        rw [List.take_length] at sb0 sb1
                        rw [List.take_length]
                        by_cases hov : c < sumS l q
                        · have HE := Lib.hid (chk_over HZ.out HP'.out HG.out (any_hit HD.out (by unfold overS; simpa using hov)))
                          go_wp2
                          go_ret
                          exact ⟨ret_int HE.out.symm, HBW.out⟩
                        · have HU' := Lib.hid (any_snoc HD.out HU.out (by unfold overS; simpa using hov))
                          go_wp2
                          go_round
                          case rel => exact ⟨k + 1, by omega, by go_num, HU'.out⟩
                          case measure => simp [intOf]; omega
                  · obtain rfl : ss.length = k := by omega
                    have HOV := Lib.hid (any_done HU.out)
                    clear HU
                    go_wp2_with fail
                    obtain ⟨w5, rfl⟩ : ∃ w5 : World, w5 = wr := ⟨_, rfl⟩
                    go_loopw [22, 23, 25, 114] (fun _ _ _ j wr => ∃ i : Nat, i ≤ l.length ∧ j = .int .i64 i ∧ (List.range i).any (badO l at_) = false ∧ Row wr w1.heap.size at_ ∧ Below w.heap.size w wr) (fun _ _ _ j _ => l.length - (intOf j).toNat)
                    case atStart => exact ⟨0, Nat.zero_le _, rfl, rfl, HR.out, HBW.out⟩
                    case round =>
                      clear HR HBW HB hrl
                      obtain ⟨i, hi, rfl, hu, hrow, hb⟩ := hrel
                      have HU := Lib.hid hu
                      have HR := Lib.hid hrow
                      have HB := Lib.hid hb
                      have hsz := hb.size
                      have hrl := hrow.lt
                      clear hu hrow hb
                      by_cases hil : i < l.length
                      · obtain ⟨b, off, o, rfl, hB, hd, hat0⟩ := H.out.at_ (Below.refl _ _) hil
                        obtain ⟨c0, c1, c2, ⟨Aa, ca, c3, a1, a2⟩, ⟨Au, cu, c4, u1, u2⟩⟩ := hat0
                        have c0 := (HB.out.cell (p := ⟨b, _, none⟩) hB).trans c0
                        have c1 := (HB.out.cell (p := ⟨b, _, none⟩) hB).trans c1
                        have c2 := (HB.out.cell (p := ⟨b, _, none⟩) hB).trans c2
                        have c3 := (HB.out.cell (p := ⟨b, _, none⟩) hB).trans c3
                        have c4 := (HB.out.cell (p := ⟨b, _, none⟩) hB).trans c4
                        have HA := Lib.hid a2
                        have HAF := Lib.hid (af_at hd)
                        have hso := (HS.out o (List.mem_of_getElem? hd)).2.1
                        have HDX := Lib.hid (HSD.out.idx o (List.mem_of_getElem? hd))
                        have HZ2 := Lib.hid (opNew wr o Aa Au ca cu 46)
                        have HR2 := Lib.hid (HR.out.alloc (.cells #[.string o.name, .int .i64 o.mach, .int .i64 o.mins, .slice Aa o.after.length ca, .slice Au o.uses.length cu] 46))
                        have HB2 := Lib.hid (HB.out.alloc hsz (.cells #[.string o.name, .int .i64 o.mach, .int .i64 o.mins, .slice Aa o.after.length ca, .slice Au o.uses.length cu] 46))
                        clear hd a1 a2 u1 u2
                        go_wp2_with fail
                        revert HZ2 HR2 HB2
                        generalize wr.alloc (.cells #[.string o.name, .int .i64 o.mach, .int .i64 o.mins, .slice Aa o.after.length ca, .slice Au o.uses.length cu] 46) = w2
                        intro HZ2 HR2 HB2
                        clear c0 c1 c2 c3 c4 HZ2
                        have hsz2 := HB2.out.size
                        have hrl2 := HR2.out.lt
                        obtain ⟨w6, rfl⟩ : ∃ w6 : World, w6 = wr := ⟨_, rfl⟩
                        go_loopw [25, 122] (fun _ j wq => ∃ (j' : Nat), j' ≤ o.after.length ∧ j = .int .i64 j' ∧ Row wq w1.heap.size at_ ∧ Below w.heap.size w wq ∧ (o.after.take j').any (badA at_ i) = false) (fun _ j _ => o.after.length - (intOf j).toNat)
                        case atStart => exact ⟨0, Nat.zero_le _, rfl, HR2.out, HB2.out, rfl⟩
                        case round =>
                          clear HR2 HB2 hsz2 hrl2
                          obtain ⟨j, hj, rfl, hrow, hb, hu⟩ := hrel
                          have HUJ := Lib.hid hu
                          have HR2 := Lib.hid hrow
                          have HB2 := Lib.hid hb
                          have hsz2 := hb.size
                          have hrl2 := hrow.lt
                          clear hu hrow hb
                          by_cases hlj : j < o.after.length
                          · obtain ⟨b2, off2, x, rfl, hB2, hdx, cx⟩ := HA.out.at_ HB2.out hlj
                            obtain ⟨x0, x1⟩ := HDX.out x (List.mem_of_getElem? hdx)
                            have HDXX := Lib.hid hdx
                            clear hdx
                            obtain ⟨xn, rfl⟩ : ∃ xn : Nat, x = (xn : Int) := ⟨x.toNat, by omega⟩
                            have hxn : xn < l.length := by omega
                            have cy := HR2.out.cell (getD_some (E := at_) (t := xn) (by rw [HLEN.out]; exact hxn))
                            have cz := HR2.out.cell (getD_some (E := at_) (t := i) (by rw [HLEN.out]; exact hil))
                            have HBA : Hid (badA at_ i (xn : Int) = decide (at_.getD i 0 < at_.getD xn 0)) := rfl
                            revert HBA cy cz
                            generalize at_.getD xn 0 = y
                            generalize at_.getD i 0 = z
                            intro cy cz HBA
                            have hi0 : (0 : Int) ≤ (i : Int) := by omega
                            have hi1 : (i : Int) < (l.length : Int) := by omega
                            have hx0 : (0 : Int) ≤ (xn : Int) := by omega
                            by_cases hzy : z < y
                            · have HE := Lib.hid (chk_order HZ.out HP'.out HG.out HOV.out (range_any_hit hil (by unfold badO; rw [HAF.out]; exact any_hit HDXX.out (by rw [HBA.out]; simpa using hzy))))
                              go_wp2
                              go_quiet (fail)
                              go_wp2
                              go_ret
                              exact ⟨ret_int HE.out.symm, below_drewN HB2.out _⟩
                            · have HU' := Lib.hid (any_snoc HDXX.out HUJ.out (by rw [HBA.out]; simpa using hzy))
                              go_wp2
                              go_quiet (fail)
                              go_wp2
                              go_roundw
                              case rel => exact ⟨j + 1, by omega, by go_num, HR2.out.drewN _, below_drewN HB2.out _, HU'.out⟩
                              case measure => simp [intOf]; omega
                          · obtain rfl : o.after.length = j := by omega
                            have HU' := Lib.hid (range_any_snoc HU.out (show badO l at_ i = false from by unfold badO; rw [HAF.out]; exact any_done HUJ.out))
                            go_wp2
                            go_roundw
                            case rel => exact ⟨i + 1, by omega, by go_num, HU'.out, HR2.out, HB2.out⟩
                            case measure => simp [intOf]; omega
                      · obtain rfl : l.length = i := by omega
                        have HE := Lib.hid (chk_ok HZ.out HP'.out HG.out HOV.out HU.out)
                        go_wp2
                        go_ret
                        exact ⟨ret_int HE.out.symm, HB.out⟩
  · have HE := Lib.hid (chk_bnd (ss := ss) hz)
    have hne : (bndErr l c != 0) = true := by simpa using hz
    clear hz
    go_wp2
    go_ret
    exact ⟨ret_int HE.out.symm, HB1.out⟩
end Go.Proofs.Ytelgkangojmhdaa
/- The reference's Stations, loaded, Check, Same, Small: the walks. -/
namespace Go.Proofs.Ytelgkangojmhdaa
open Go.RowKit

theorem puts_ge {n : Nat} : ∀ (L : List (Nat × Int)) (at_ : List Int), puts n L = (0, at_) → ∀ x ∈ at_, -1 ≤ x := by
  refine snoc_ind ?_ ?_
  · intro at_ h; unfold puts at h; cases h; intro x hx; have := (List.mem_replicate.1 hx).2; omega
  · intro L p ih at_ h
    obtain ⟨at0, h0⟩ := puts_ok [p] L at_ h
    rw [puts_append, h0] at h
    obtain ⟨h1, h2, _, rfl⟩ := stp_ok h
    intro x hx
    rcases List.mem_or_eq_of_mem_set hx with hx | rfl
    · exact ih at0 h0 x hx
    · omega
def StPost (n : Nat) (ss : List (List Int)) (e : Ending) (w' : World) : Prop :=
  ∃ A c, e = .returned (.tuple #[.slice A (puts n (flat ss)).2.length c, .int .i64 (puts n (flat ss)).1]) ∧ IRd w' w'.heap.size A (puts n (flat ss)).2
theorem stPost_bad {n : Nat} {ss : List (List Int)} {x : Int} {w' : World} (h : puts n (flat ss) = (x, [])) : StPost n ss (.returned (.tuple #[.slice none 0 0, .int .i64 x])) w' := by
  refine ⟨none, 0, by rw [h]; rfl, ?_⟩
  rw [h]; intro h'; exact absurd rfl h'
theorem stPost_ok {n : Nat} {ss : List (List Int)} {at_ : List Int} {A : Option Addr} {c : Nat} {w' : World} (h : puts n (flat ss) = (0, at_)) (hl : at_.length = n) (hr : IRd w' w'.heap.size A at_) : StPost n ss (.returned (.tuple #[.slice A n c, .int .i64 0])) w' := by
  refine ⟨A, c, by rw [h, hl], ?_⟩
  rw [h]; exact hr

set_option maxRecDepth 100000 in
set_option maxHeartbeats 4000000 in
theorem stations_any (n : Nat) (S : Option Addr) (capS : Nat) (ss : List (List Int)) (w : World) (hn : n ≤ 1000) (hS : SRd w w.heap.size S ss) (hsm : SSmall ss) :
    Calls Try.prog 35 #[.int .i64 n, .slice S ss.length capS] w fun e w' => StPost n ss e w' ∧ Below w.heap.size w w' := by
  have HSS := Lib.hid hS
  have HSM := Lib.hid hsm.2
  have hsl := hsm.1
  clear hS hsm
  have hmk := mkInts n (by omega)
  go_enter Try.func35, Try.ntmps35
  go_wp2_with fail
  clear hmk
  have HR0 : Hid (Row (w.alloc (.cells (intCells (List.replicate n 0)) 3)) w.heap.size (fillM 0 n)) := by rw [fillM_zero]; exact Row.new w _
  go_loopw [7] (fun j wr => ∃ q : Nat, q ≤ n ∧ j = .int .i64 q ∧ Row wr w.heap.size (fillM q n) ∧ Below w.heap.size w wr) (fun j _ => n - (intOf j).toNat)
  case atStart => exact ⟨0, Nat.zero_le _, rfl, HR0.out, (Below.refl _ _).alloc (Nat.le_refl _) _⟩
  case round =>
    obtain ⟨q, hq, rfl, hrow, hb⟩ := hrel
    have HF := Lib.hid hrow
    have HB9 := Lib.hid hb
    have hrl9 := hrow.lt
    have hrf := hrow.free
    clear hrow hb HR0
    by_cases hlq : q < n
    · have cy := HF.out.cell (i := q) (x := 0) (fillM_hi hlq)
      have cf := hrf q
      clear hrf
      have HF' := Lib.hid (HF.out.put q (-1))
      rw [fillM_next hlq] at HF'
      have HB9' := Lib.hid (HB9.out.setCell (p := ⟨w.heap.size, q, none⟩) (Nat.le_refl _) (.int .i64 (-1)))
      go_wp2
      go_roundw
      case rel => exact ⟨q + 1, by omega, by go_num, HF'.out, HB9'.out⟩
      case measure => simp [intOf]; omega
    · obtain rfl : n = q := by omega
      have HF' : Hid (Row wr w.heap.size (noAt n)) := by
        have h1 := HF.out
        unfold fillM at h1
        rw [Nat.sub_self, List.replicate_zero, List.append_nil] at h1
        exact h1
      clear HF hrf
      go_wp2_with fail
      go_loopw [8, 9, 10] (fun j _ _ wr => ∃ (k : Nat) (at_ : List Int), k ≤ ss.length ∧ j = .int .i64 k ∧ puts n (flat (ss.take k)) = (0, at_) ∧ Row wr w.heap.size at_ ∧ Below w.heap.size w wr) (fun j _ _ _ => ss.length - (intOf j).toNat)
      case atStart => exact ⟨0, noAt n, Nat.zero_le _, rfl, rfl, HF'.out, HB9.out⟩
      case round =>
        clear HF' HB9 hrl9
        obtain ⟨k, at_, hk, rfl, hp, hrow, hb⟩ := hrel
        have HP := Lib.hid hp
        have HR := Lib.hid hrow
        have HB := Lib.hid hb
        have hrl := hrow.lt
        clear hp hrow hb
        by_cases hlt : k < ss.length
        · obtain ⟨b, off, q, Aq, cq, rfl, hB, hd, cs0, hcq, hrq⟩ := HSS.out.at_ (Below.refl _ _) hlt
          have HD := Lib.hid hd
          have hql := HSM.out q (List.mem_of_getElem? hd)
          have HQ := Lib.hid hrq
          have HCS := Lib.hid cs0
          clear hd hrq hcq cs0
          have HP0 : Hid (puts n (pre ss q k 0) = (0, at_)) := by rw [pre_zero]; exact HP.out
          go_wp2_with fail
          obtain ⟨w5, rfl⟩ : ∃ w5 : World, w5 = wr := ⟨_, rfl⟩
          go_loopw [9, 10] (fun j _ wr => ∃ (j' : Nat) (at_ : List Int), j' ≤ q.length ∧ j = .int .i64 j' ∧ puts n (pre ss q k j') = (0, at_) ∧ Row wr w.heap.size at_ ∧ Below w.heap.size w wr) (fun j _ _ => q.length - (intOf j).toNat)
          case atStart => exact ⟨0, at_, Nat.zero_le _, rfl, HP0.out, HR.out, HB.out⟩
          case round =>
            clear HP0 HP HR HB hrl
            obtain ⟨j, at1, hj, rfl, hp, hrow, hb⟩ := hrel
            have HP := Lib.hid hp
            have HR := Lib.hid hrow
            have HB := Lib.hid hb
            have hrl := hrow.lt
            have HLEN := Lib.hid (puts_len _ _ hp).1
            have HGE := Lib.hid (puts_ge _ _ hp)
            have cs := (hb.cell (p := ⟨b, _, none⟩) hB).trans HCS.out
            clear hp hrow hb
            by_cases hlj : j < q.length
            · obtain ⟨b2, off2, x, rfl, hB2, hdx, cx⟩ := HQ.out.at_ HB.out hlj
              have HDX := Lib.hid hdx
              clear hdx
              by_cases hx : x < 0 ∨ (n : Int) ≤ x
              · have HE := Lib.hid (puts_bad HD.out HDX.out HP.out hx)
                rcases hx with hx | hx
                · go_wp2
                  go_ret2
                  exact ⟨stPost_bad HE.out, HB.out⟩
                · have hx0 : 0 ≤ x := by omega
                  go_wp2
                  go_ret2
                  exact ⟨stPost_bad HE.out, HB.out⟩
              · obtain ⟨xn, rfl⟩ : ∃ xn : Nat, x = (xn : Int) := ⟨x.toNat, by omega⟩
                have hxn : xn < n := by omega
                have hga := getD_some (E := at1) (t := xn) (by rw [HLEN.out]; exact hxn)
                have cy := HR.out.cell hga
                have hy1 := HGE.out _ (List.mem_of_getElem? hga)
                have cf := HR.out.free xn
                have HPN := Lib.hid (puts_next (n := n) (at_ := at1) ss k HDX.out HP.out (by omega) (by omega))
                have HPT := Lib.hid (puts_twice (n := n) HD.out HDX.out HP.out (by omega) (by omega))
                have e1 : ((xn : Int)).toNat = xn := by simp
                rw [e1] at HPN HPT
                clear hx e1 hga
                have HR' := Lib.hid (HR.out.put xn (k : Int))
                have HB' := Lib.hid (HB.out.setCell (p := ⟨w.heap.size, xn, none⟩) (Nat.le_refl _) (.int .i64 (k : Int)))
                revert HPN HPT cy hy1
                generalize at1.getD xn 0 = y
                intro cy hy1 HPN HPT
                by_cases hy : 0 ≤ y
                · have HE := Lib.hid (HPT.out (by omega))
                  go_wp2
                  go_ret2
                  exact ⟨stPost_bad HE.out, HB.out⟩
                · have HPN' := Lib.hid (HPN.out (by omega))
                  go_wp2
                  go_roundw
                  case rel => exact ⟨j + 1, _, by omega, by go_num, HPN'.out, HR'.out, HB'.out⟩
                  case measure => simp [intOf]; omega
            · obtain rfl : q.length = j := by omega
              have HP' : Hid (puts n (flat (ss.take (k + 1))) = (0, at1)) := by rw [← pre_all HD.out]; exact HP.out
              go_wp2
              go_roundw
              case rel => exact ⟨k + 1, at1, by omega, by go_num, HP'.out, HR.out, HB.out⟩
              case measure => simp [intOf]; omega
        · obtain rfl : ss.length = k := by omega
          have HP' : Hid (puts n (flat ss) = (0, at_)) := by have h1 := HP.out; rw [List.take_length] at h1; exact h1
          have HLEN := Lib.hid (puts_len _ _ HP'.out).1
          clear HP
          go_wp2
          go_ret2
          exact ⟨stPost_ok HP'.out HLEN.out (HR.out.ird HR.out.lt), HB.out⟩

set_option maxRecDepth 100000 in
set_option maxHeartbeats 2000000 in
theorem loaded_any (A : Option Addr) (cap : Nat) (l : List Opn) (c : Int) (S : Option Addr) (capS : Nat) (ss : List (List Int)) (w : World) (h : ORd w w.heap.size A l) (hsd : Sound l)
    (hS : SRd w w.heap.size S ss) (hsm : SSmall ss) (hr : ∀ q ∈ ss, ∀ x ∈ q, 0 ≤ x ∧ x < l.length) :
    Calls Try.prog 76 #[.slice A l.length cap, .int .i64 c, .slice S ss.length capS] w fun e w' => e = .returned (.bool (ss.any (overS l c))) ∧ w = w' := by
  have H := Lib.hid h
  have HSD := Lib.hid hsd
  have hl16 := hsd.len
  have HSS := Lib.hid hS
  have HSM := Lib.hid hsm.2
  have HRNG := Lib.hid hr
  have hsl := hsm.1
  clear h hsd hS hsm hr
  go_enter Try.func76, Try.ntmps76
  go_wp2_with fail
  go_loop [7, 8, 9] (fun j _ _ => ∃ k : Nat, k ≤ ss.length ∧ j = .int .i64 k ∧ (ss.take k).any (overS l c) = false) (fun j _ _ => ss.length - (intOf j).toNat)
  case atStart => exact ⟨0, Nat.zero_le _, rfl, rfl⟩
  case round =>
    obtain ⟨k, hk', rfl, hu⟩ := hrel
    have HU := Lib.hid hu
    clear hu
    by_cases hlt' : k < ss.length
    · obtain ⟨b, off, q, Aq, cq, rfl, hB, hd, cs, hcq, hrq⟩ := HSS.out.at_ (Below.refl _ _) hlt'
      have HD := Lib.hid hd
      have hql := HSM.out q (List.mem_of_getElem? hd)
      have HQ := Lib.hid hrq
      have HQR := Lib.hid (HRNG.out q (List.mem_of_getElem? hd))
      clear hd hrq hcq
      go_wp2_with fail
      go_loop [8, 9] (fun s j => ∃ j' : Nat, j' ≤ q.length ∧ j = .int .i64 j' ∧ s = .int .i64 (sumS l (q.take j'))) (fun _ j => q.length - (intOf j).toNat)
      case atStart => exact ⟨0, Nat.zero_le _, rfl, rfl⟩
      case round =>
        obtain ⟨j, hj, rfl, rfl⟩ := hrel
        have sb := sumS_bnd HSD.out HQR.out hql j
        have sb0 := sb.1
        have sb1 := sb.2
        clear sb
        by_cases hlj : j < q.length
        · obtain ⟨b2, off2, x, rfl, hB2, hdx, cx⟩ := HQ.out.at_ (Below.refl _ _) hlj
          obtain ⟨x0, x1⟩ := HQR.out x (List.mem_of_getElem? hdx)
          have HST := Lib.hid (sumS_snoc (l := l) hdx)
          clear hdx
          obtain ⟨xn, rfl⟩ : ∃ xn : Nat, x = (xn : Int) := ⟨x.toNat, by omega⟩
          have hxn : xn < l.length := by omega
          obtain ⟨b3, off3, o, rfl, hB3, hdo, hat0⟩ := H.out.at_ (Below.refl _ _) hxn
          have c2 := hat0.2.2.1
          have hm0 := (HSD.out.mins o (List.mem_of_getElem? hdo)).1
          have hm1 := (HSD.out.mins o (List.mem_of_getElem? hdo)).2
          have e1 : ((xn : Int)).toNat = xn := by simp
          have HMN : Hid (sumS l (q.take (j + 1)) = sumS l (q.take j) + o.mins) := by show _ = _; rw [HST.out, e1, mn_at hdo]
          clear hat0 hdo HST e1
          go_wp2
          go_round
          case rel => exact ⟨j + 1, by omega, by go_num, by rw [HMN.out]⟩
          case measure => simp [intOf]; omega
        · obtain rfl : q.length = j := by omega
          rw [List.take_length] at sb0 sb1
          rw [List.take_length]
          by_cases hov : c < sumS l q
          · have HE := Lib.hid (any_hit (p := overS l c) HD.out (by unfold overS; simpa using hov))
            go_wp2
            go_ret
            exact ⟨ret_bool HE.out.symm, rfl⟩
          · have HU' := Lib.hid (any_snoc HD.out HU.out (by unfold overS; simpa using hov))
            go_wp2
            go_round
            case rel => exact ⟨k + 1, by omega, by go_num, HU'.out⟩
            case measure => simp [intOf]; omega
    · obtain rfl : ss.length = k := by omega
      have HOV := Lib.hid (any_done HU.out)
      clear HU
      go_wp2
      go_ret
      exact ⟨ret_bool HOV.out.symm, rfl⟩

def smallQ (q : List Int) : Bool := decide (20 < q.length)
def smallS (ss : List (List Int)) : Bool := decide (ss.length ≤ 20) && !ss.any smallQ
theorem smallS_ok {ss : List (List Int)} (h : smallS ss = true) : ss.length ≤ 20 ∧ SSmall ss := by
  unfold smallS at h
  rw [Bool.and_eq_true, decide_eq_true_iff, Bool.not_eq_true', List.any_eq_false] at h
  refine ⟨h.1, by have := h.1; omega, fun q hq => ?_⟩
  have := h.2 q hq
  unfold smallQ at this
  simp at this
  omega
set_option maxRecDepth 100000 in
set_option maxHeartbeats 2000000 in
theorem small_any (S : Option Addr) (capS : Nat) (ss : List (List Int)) (w : World) (hS : SRd w w.heap.size S ss) (hn : ss.length ≤ 9223372036854775807) :
    Calls Try.prog 28 #[.slice S ss.length capS] w fun e w' => e = .returned (.bool (smallS ss)) ∧ w = w' := by
  have HSS := Lib.hid hS
  clear hS
  go_enter Try.func28, Try.ntmps28
  go_wp2_with fail
  go_loop [3] (fun j => ∃ k : Nat, k ≤ ss.length ∧ k ≤ 20 ∧ j = .int .i64 k ∧ (ss.take k).any smallQ = false) (fun j => ss.length - (intOf j).toNat)
  case atStart => exact ⟨0, Nat.zero_le _, Nat.zero_le _, rfl, rfl⟩
  case round =>
    obtain ⟨k, hk, hk20, rfl, hu⟩ := hrel
    have HU := Lib.hid hu
    clear hu
    by_cases hlt : k < ss.length
    · by_cases h20 : k < 20
      · obtain ⟨b, off, q, Aq, cq, rfl, hB, hd, cs, hcq, hrq⟩ := HSS.out.at_ (Below.refl _ _) hlt
        have HD := Lib.hid hd
        clear hd hrq hcq
        by_cases hq : 20 < q.length
        · have HE : Hid (smallS ss = false) := by
            show _ = _
            unfold smallS; rw [any_hit (p := smallQ) HD.out (by unfold smallQ; simpa using hq)]; simp
          go_wp2
          go_ret
          exact ⟨ret_bool HE.out.symm, rfl⟩
        · have HU' := Lib.hid (any_snoc HD.out HU.out (by unfold smallQ; simpa using hq))
          go_wp2
          go_round
          case rel => exact ⟨k + 1, by omega, by omega, by go_num, HU'.out⟩
          case measure => simp [intOf]; omega
      · have hl20 : decide (ss.length ≤ 20) = false := by simp; omega
        have HE : Hid (smallS ss = false) := by show _ = _; unfold smallS; rw [hl20]; rfl
        have hk' : k = 20 := by omega
        subst hk'
        go_wp2
        go_ret
        exact ⟨ret_bool (by rw [HE.out]; simp; omega), rfl⟩
    · obtain rfl : ss.length = k := by omega
      have HE : Hid (smallS ss = true) := by show _ = _; unfold smallS; rw [any_done HU.out, decide_eq_true hk20]; rfl
      go_wp2
      go_ret
      exact ⟨ret_bool (by rw [HE.out]; simp; omega), rfl⟩
end Go.Proofs.Ytelgkangojmhdaa
/- The reference's Check and Same: the walks. -/
namespace Go.Proofs.Ytelgkangojmhdaa
open Go.RowKit

set_option maxRecDepth 100000 in
set_option maxHeartbeats 4000000 in
theorem refCheck_any (A : Option Addr) (cap : Nat) (l : List Opn) (c : Int) (S : Option Addr) (capS : Nat) (ss : List (List Int)) (w : World) (h : ORd w w.heap.size A l) (hn : l.length ≤ 1000) (hs : OSmall l)
    (hS : SRd w w.heap.size S ss) (hsm : SSmall ss) :
    Calls Try.prog 57 #[.slice A l.length cap, .int .i64 c, .slice S ss.length capS] w fun e w' => e = .returned (.int .i64 (chkErr l c ss)) ∧ Below w.heap.size w w' := by
  have H := Lib.hid h
  have HS := Lib.hid hs
  have HSS := Lib.hid hS
  have HSM := Lib.hid hsm
  clear h hs hS hsm
  go_enter Try.func57, Try.ntmps57
  go_wp2_with fail
  ((with_reducible refine (begin_any A cap l c _ H.out hn HS.out).mono ?_); rintro e w1 ⟨rfl, hb1⟩)
  have HB1 := Lib.hid hb1
  have HS1 := Lib.hid ((HSS.out.below hb1).more hb1.size)
  have hs1 := hb1.size
  clear hb1
  by_cases hz : bndErr l c = 0
  · have HZ := Lib.hid hz
    obtain ⟨ho, hc0, hc1, -⟩ := bndErr_zero hz
    have HSD := Lib.hid (sound_of (ordErr_zero ho).1)
    have hl16 := (sound_of (ordErr_zero ho).1).len
    clear hz ho
    rw [HZ.out]
    go_wp2_with fail
    ((with_reducible refine (stations_any l.length S capS ss _ hn HS1.out HSM.out).mono ?_); rintro e w2 ⟨⟨A2, c2, rfl, hi2⟩, hb2⟩)
    have HB2 := Lib.hid (HB1.out.trans (hb2.mono hs1))
    have HI2 := Lib.hid hi2
    have hs2 := HB2.out.size
    clear hb2 hi2
    by_cases hp : (puts l.length (flat ss)).1 = 0
    · have HP : Hid (puts l.length (flat ss) = (0, (puts l.length (flat ss)).2)) := by show _ = _; rw [← hp]
      have HP1 := Lib.hid hp
      rw [hp]
      clear hp
      have HLEN := Lib.hid (puts_len _ _ HP.out).1
      have HRNG := Lib.hid (puts_len _ _ HP.out).2
      revert HI2 HP HLEN HP1
      generalize (puts l.length (flat ss)).2 = at_
      intro HI2 HP HP1 HLEN
      rw [HLEN.out]
      go_wp2_with fail
      have hk := has46_any A2 c2 at_ (-1) w2 HI2.out (by rw [HLEN.out]; omega)
      rw [HLEN.out] at hk
      ((with_reducible refine hk.mono ?_); rintro e w3 ⟨rfl, rfl⟩)
      clear hk
      cases hg : hasB at_ (-1) with
      | true =>
        have HE := Lib.hid (chk_gap HZ.out HP.out hg)
        clear hg
        go_wp2
        go_ret
        exact ⟨ret_int HE.out.symm, HB2.out⟩
      | false =>
        have HG := Lib.hid hg
        clear hg
        have HO2 := Lib.hid ((H.out.below HB2.out).more hs2)
        have HS2 := Lib.hid ((HSS.out.below HB2.out).more hs2)
        have HR2 : Hid (∀ q ∈ ss, ∀ x ∈ q, 0 ≤ x ∧ x < l.length) := fun q hq x hx => by
          obtain ⟨k, hk, e⟩ := List.getElem_of_mem hq
          exact HRNG.out (k, x) (mem_flat.2 ⟨q, by rw [List.getElem?_eq_getElem hk, e], hx⟩)
        go_wp2_with fail
        ((with_reducible refine (loaded_any A cap l c S capS ss _ HO2.out HSD.out HS2.out HSM.out HR2.out).mono ?_); rintro e w3 ⟨rfl, rfl⟩)
        cases ho : ss.any (overS l c) with
        | true =>
          have HE := Lib.hid (chk_over HZ.out HP.out HG.out ho)
          clear ho
          go_wp2
          go_ret
          exact ⟨ret_int HE.out.symm, HB2.out⟩
        | false =>
          have HOV := Lib.hid ho
          clear ho
          go_wp2_with fail
          go_loopw [10, 11] (fun j _ wr => ∃ i : Nat, i ≤ l.length ∧ j = .int .i64 i ∧ (List.range i).any (badO l at_) = false ∧ IRd wr w2.heap.size A2 at_ ∧ Below w.heap.size w wr) (fun j _ _ => l.length - (intOf j).toNat)
          case atStart => exact ⟨0, Nat.zero_le _, rfl, rfl, HI2.out, HB2.out⟩
          case round =>
            clear HB2 HI2 HO2 HS2
            obtain ⟨i, hi, rfl, hu, hird, hb⟩ := hrel
            have HU := Lib.hid hu
            have HI := Lib.hid hird
            have HB := Lib.hid hb
            clear hu hird hb
            by_cases hil : i < l.length
            · obtain ⟨b, off, o, rfl, hB, hd, hat0⟩ := H.out.at_ (Below.refl _ _) hil
              obtain ⟨_, _, _, ⟨Aa, ca, c3, a1, a2⟩, _⟩ := hat0
              have HC3 := Lib.hid c3
              have HA := Lib.hid a2
              have HAF := Lib.hid (af_at hd)
              have hso := (HS.out o (List.mem_of_getElem? hd)).2.1
              have HDX := Lib.hid (HSD.out.idx o (List.mem_of_getElem? hd))
              clear hd a1 a2 c3
              go_wp2_with fail
              obtain ⟨w6, rfl⟩ : ∃ w6 : World, w6 = wr := ⟨_, rfl⟩
              go_loopw [11] (fun j wq => ∃ (j' : Nat), j' ≤ o.after.length ∧ j = .int .i64 j' ∧ IRd wq w2.heap.size A2 at_ ∧ Below w.heap.size w wq ∧ (o.after.take j').any (badA at_ i) = false) (fun j _ => o.after.length - (intOf j).toNat)
              case atStart => exact ⟨0, Nat.zero_le _, rfl, HI.out, HB.out, rfl⟩
              case round =>
                clear HI HB
                obtain ⟨j, hj, rfl, hird, hb, hu⟩ := hrel
                have HUJ := Lib.hid hu
                have HI := Lib.hid hird
                have HB := Lib.hid hb
                have c3 := (hb.cell (p := ⟨b, _, none⟩) hB).trans HC3.out
                clear hu hird hb
                by_cases hlj : j < o.after.length
                · obtain ⟨b2, off2, x, rfl, hB2, hdx, cx⟩ := HA.out.at_ HB.out hlj
                  obtain ⟨x0, x1⟩ := HDX.out x (List.mem_of_getElem? hdx)
                  have HDXX := Lib.hid hdx
                  clear hdx
                  obtain ⟨xn, rfl⟩ : ∃ xn : Nat, x = (xn : Int) := ⟨x.toNat, by omega⟩
                  have hxn : xn < l.length := by omega
                  obtain ⟨b4, off4, y, rfl, hB4, hdy, cy⟩ := HI.out.at_ (Below.refl _ _) (show xn < at_.length by rw [HLEN.out]; exact hxn)
                  obtain ⟨b5, off5, z, e5, hB5, hdz, cz⟩ := HI.out.at_ (Below.refl _ _) (show i < at_.length by rw [HLEN.out]; exact hil)
                  cases e5
                  have HBA : Hid (badA at_ i (xn : Int) = decide (z < y)) := by
                    show _ = _
                    unfold badA
                    rw [show ((xn : Int)).toNat = xn from by simp, List.getD_eq_getElem?_getD, hdz, List.getD_eq_getElem?_getD, hdy]; rfl
                  have hi0 : (0 : Int) ≤ (i : Int) := by omega
                  have hi1 : (i : Int) < (l.length : Int) := by omega
                  have hx0 : (0 : Int) ≤ (xn : Int) := by omega
                  have hj0 : (0 : Int) ≤ (j : Int) := by omega
                  have hj1 : (j : Int) < (o.after.length : Int) := by omega
                  clear hdy hdz
                  by_cases hzy : z < y
                  · have HE := Lib.hid (chk_order HZ.out HP.out HG.out HOV.out (range_any_hit hil (by unfold badO; rw [HAF.out]; exact any_hit HDXX.out (by rw [HBA.out]; simpa using hzy))))
                    go_wp2
                    go_quiet (fail)
                    go_wp2
                    go_ret
                    exact ⟨ret_int HE.out.symm, below_drewN HB.out _⟩
                  · have HU' := Lib.hid (any_snoc HDXX.out HUJ.out (by rw [HBA.out]; simpa using hzy))
                    go_wp2
                    go_quiet (fail)
                    go_wp2
                    go_roundw
                    case rel => exact ⟨j + 1, by omega, by go_num, HI.out, below_drewN HB.out _, HU'.out⟩
                    case measure => simp [intOf]; omega
                · obtain rfl : o.after.length = j := by omega
                  have HU' := Lib.hid (range_any_snoc HU.out (show badO l at_ i = false from by unfold badO; rw [HAF.out]; exact any_done HUJ.out))
                  go_wp2
                  go_roundw
                  case rel => exact ⟨i + 1, by omega, by go_num, HU'.out, HI.out, HB.out⟩
                  case measure => simp [intOf]; omega
            · obtain rfl : l.length = i := by omega
              have HE := Lib.hid (chk_ok HZ.out HP.out HG.out HOV.out HU.out)
              go_wp2
              go_ret
              exact ⟨ret_int HE.out.symm, HB.out⟩
    · have HE := Lib.hid (chk_put (l := l) (c := c) (ss := ss) (x := (puts l.length (flat ss)).1) (y := (puts l.length (flat ss)).2) HZ.out rfl hp)
      have hne : ((puts l.length (flat ss)).1 != 0) = true := by simpa using hp
      clear hp
      go_wp2
      go_ret
      exact ⟨ret_int HE.out.symm, HB2.out⟩
  · have HE := Lib.hid (chk_bnd (ss := ss) hz)
    have hne : (bndErr l c != 0) = true := by simpa using hz
    clear hz
    go_wp2
    go_ret
    exact ⟨ret_int HE.out.symm, HB1.out⟩
end Go.Proofs.Ytelgkangojmhdaa
