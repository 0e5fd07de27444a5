/- The reference's Check and Same: the walks. -/
import Derived.Test.YtlbkfphepneflaaRefChk
namespace Go.Proofs.Ytlbkfphepneflaa
open Go.RowKit

set_option maxRecDepth 100000 in
set_option maxHeartbeats 4000000 in
theorem refCheck_any (A : Option Addr) (cap : Nat) (l : List Opn) (c : Int) (S : Option Addr) (capS : Nat) (ss : List (List Int)) (w : World) (h : ORd w w.heap.size A l) (hn : l.length ≤ 1000) (hs : OSmall l)
    (hS : SRd w w.heap.size S ss) (hsm : SSmall ss) :
    Calls Try.prog 20 #[.slice A l.length cap, .int .i64 c, .slice S ss.length capS] w fun e w' => e = .returned (.int .i64 (chkErr l c ss)) ∧ Below w.heap.size w w' := by
  have H := Lib.hid h
  have HS := Lib.hid hs
  have HSS := Lib.hid hS
  have HSM := Lib.hid hsm
  clear h hs hS hsm
  go_enter Try.func20, Try.ntmps20
  go_wp2_with fail
  ((with_reducible refine (begin_any A cap l c _ H.out hn HS.out).mono ?_); rintro e w1 ⟨rfl, hb1⟩)
  have HB1 := Lib.hid hb1
  have HS1 := Lib.hid ((HSS.out.below hb1).more hb1.size)
  have hs1 := hb1.size
  clear hb1
  by_cases hz : bndErr l c = 0
  · have HZ := Lib.hid hz
    obtain ⟨ho, hc0, hc1, -⟩ := bndErr_zero hz
    have HSD := Lib.hid (sound_of (ordErr_zero ho).1)
    have hl16 := (sound_of (ordErr_zero ho).1).len
    clear hz ho
    rw [HZ.out]
    go_wp2_with fail
    ((with_reducible refine (stations_any l.length S capS ss _ hn HS1.out HSM.out).mono ?_); rintro e w2 ⟨⟨A2, c2, rfl, hi2⟩, hb2⟩)
    have HB2 := Lib.hid (HB1.out.trans (hb2.mono hs1))
    have HI2 := Lib.hid hi2
    have hs2 := HB2.out.size
    clear hb2 hi2
    by_cases hp : (puts l.length (flat ss)).1 = 0
    · have HP : Hid (puts l.length (flat ss) = (0, (puts l.length (flat ss)).2)) := by show _ = _; rw [← hp]
      have HP1 := Lib.hid hp
      rw [hp]
      clear hp
      have HLEN := Lib.hid (puts_len _ _ HP.out).1
      have HRNG := Lib.hid (puts_len _ _ HP.out).2
      revert HI2 HP HLEN HP1
      generalize (puts l.length (flat ss)).2 = at_
      intro HI2 HP HP1 HLEN
      rw [HLEN.out]
      go_wp2_with fail
      have hk := has46_any A2 c2 at_ (-1) w2 HI2.out (by rw [HLEN.out]; omega)
      rw [HLEN.out] at hk
      ((with_reducible refine hk.mono ?_); rintro e w3 ⟨rfl, rfl⟩)
      clear hk
      cases hg : hasB at_ (-1) with
      | true =>
        have HE := Lib.hid (chk_gap HZ.out HP.out hg)
        clear hg
        go_wp2
        go_ret
        exact ⟨ret_int HE.out.symm, HB2.out⟩
      | false =>
        have HG := Lib.hid hg
        clear hg
        have HO2 := Lib.hid ((H.out.below HB2.out).more hs2)
        have HS2 := Lib.hid ((HSS.out.below HB2.out).more hs2)
        have HR2 : Hid (∀ q ∈ ss, ∀ x ∈ q, 0 ≤ x ∧ x < l.length) := fun q hq x hx => by
          obtain ⟨k, hk, e⟩ := List.getElem_of_mem hq
          exact HRNG.out (k, x) (mem_flat.2 ⟨q, by rw [List.getElem?_eq_getElem hk, e], hx⟩)
        go_wp2_with fail
        ((with_reducible refine (loaded_any A cap l c S capS ss _ HO2.out HSD.out HS2.out HSM.out HR2.out).mono ?_); rintro e w3 ⟨rfl, rfl⟩)
        cases ho : ss.any (overS l c) with
        | true =>
          have HE := Lib.hid (chk_over HZ.out HP.out HG.out ho)
          clear ho
          go_wp2
          go_ret
          exact ⟨ret_int HE.out.symm, HB2.out⟩
        | false =>
          have HOV := Lib.hid ho
          clear ho
          go_wp2_with fail
          go_loopw [10, 11] (fun j _ wr => ∃ i : Nat, i ≤ l.length ∧ j = .int .i64 i ∧ (List.range i).any (badO l at_) = false ∧ IRd wr w2.heap.size A2 at_ ∧ Below w.heap.size w wr) (fun j _ _ => l.length - (intOf j).toNat)
          case atStart => exact ⟨0, Nat.zero_le _, rfl, rfl, HI2.out, HB2.out⟩
          case round =>
            clear HB2 HI2 HO2 HS2
            obtain ⟨i, hi, rfl, hu, hird, hb⟩ := hrel
            have HU := Lib.hid hu
            have HI := Lib.hid hird
            have HB := Lib.hid hb
            clear hu hird hb
            by_cases hil : i < l.length
            · obtain ⟨b, off, o, rfl, hB, hd, hat0⟩ := H.out.at_ (Below.refl _ _) hil
              obtain ⟨_, _, _, ⟨Aa, ca, c3, a1, a2⟩, _⟩ := hat0
              have HC3 := Lib.hid c3
              have HA := Lib.hid a2
              have HAF := Lib.hid (af_at hd)
              have hso := (HS.out o (List.mem_of_getElem? hd)).2.1
              have HDX := Lib.hid (HSD.out.idx o (List.mem_of_getElem? hd))
              clear hd a1 a2 c3
              go_wp2_with fail
              obtain ⟨w6, rfl⟩ : ∃ w6 : World, w6 = wr := ⟨_, rfl⟩
              go_loopw [11] (fun j wq => ∃ (j' : Nat), j' ≤ o.after.length ∧ j = .int .i64 j' ∧ IRd wq w2.heap.size A2 at_ ∧ Below w.heap.size w wq ∧ (o.after.take j').any (badA at_ i) = false) (fun j _ => o.after.length - (intOf j).toNat)
              case atStart => exact ⟨0, Nat.zero_le _, rfl, HI.out, HB.out, rfl⟩
              case round =>
                clear HI HB
                obtain ⟨j, hj, rfl, hird, hb, hu⟩ := hrel
                have HUJ := Lib.hid hu
                have HI := Lib.hid hird
                have HB := Lib.hid hb
                have c3 := (hb.cell (p := ⟨b, _, none⟩) hB).trans HC3.out
                clear hu hird hb
                by_cases hlj : j < o.after.length
                · obtain ⟨b2, off2, x, rfl, hB2, hdx, cx⟩ := HA.out.at_ HB.out hlj
                  obtain ⟨x0, x1⟩ := HDX.out x (List.mem_of_getElem? hdx)
                  have HDXX := Lib.hid hdx
                  clear hdx
                  obtain ⟨xn, rfl⟩ : ∃ xn : Nat, x = (xn : Int) := ⟨x.toNat, by omega⟩
                  have hxn : xn < l.length := by omega
                  obtain ⟨b4, off4, y, rfl, hB4, hdy, cy⟩ := HI.out.at_ (Below.refl _ _) (show xn < at_.length by rw [HLEN.out]; exact hxn)
                  obtain ⟨b5, off5, z, e5, hB5, hdz, cz⟩ := HI.out.at_ (Below.refl _ _) (show i < at_.length by rw [HLEN.out]; exact hil)
                  cases e5
                  have HBA : Hid (badA at_ i (xn : Int) = decide (z < y)) := by
                    show _ = _
                    unfold badA
                    rw [show ((xn : Int)).toNat = xn from by simp, List.getD_eq_getElem?_getD, hdz, List.getD_eq_getElem?_getD, hdy]; rfl
                  have hi0 : (0 : Int) ≤ (i : Int) := by omega
                  have hi1 : (i : Int) < (l.length : Int) := by omega
                  have hx0 : (0 : Int) ≤ (xn : Int) := by omega
                  have hj0 : (0 : Int) ≤ (j : Int) := by omega
                  have hj1 : (j : Int) < (o.after.length : Int) := by omega
                  clear hdy hdz
                  by_cases hzy : z < y
                  · have HE := Lib.hid (chk_order HZ.out HP.out HG.out HOV.out (range_any_hit hil (by unfold badO; rw [HAF.out]; exact any_hit HDXX.out (by rw [HBA.out]; simpa using hzy))))
                    go_wp2
                    go_quiet (fail)
                    go_wp2
                    go_ret
                    exact ⟨ret_int HE.out.symm, below_drewN HB.out _⟩
                  · have HU' := Lib.hid (any_snoc HDXX.out HUJ.out (by rw [HBA.out]; simpa using hzy))
                    go_wp2
                    go_quiet (fail)
                    go_wp2
                    go_roundw
                    case rel => exact ⟨j + 1, by omega, by go_num, HI.out, below_drewN HB.out _, HU'.out⟩
                    case measure => simp [intOf]; omega
                · obtain rfl : o.after.length = j := by omega
                  have HU' := Lib.hid (range_any_snoc HU.out (show badO l at_ i = false from by unfold badO; rw [HAF.out]; exact any_done HUJ.out))
                  go_wp2
                  go_roundw
                  case rel => exact ⟨i + 1, by omega, by go_num, HU'.out, HI.out, HB.out⟩
                  case measure => simp [intOf]; omega
            · obtain rfl : l.length = i := by omega
              have HE := Lib.hid (chk_ok HZ.out HP.out HG.out HOV.out HU.out)
              go_wp2
              go_ret
              exact ⟨ret_int HE.out.symm, HB.out⟩
    · have HE := Lib.hid (chk_put (l := l) (c := c) (ss := ss) (x := (puts l.length (flat ss)).1) (y := (puts l.length (flat ss)).2) HZ.out rfl hp)
      have hne : ((puts l.length (flat ss)).1 != 0) = true := by simpa using hp
      clear hp
      go_wp2
      go_ret
      exact ⟨ret_int HE.out.symm, HB2.out⟩
  · have HE := Lib.hid (chk_bnd (ss := ss) hz)
    have hne : (bndErr l c != 0) = true := by simpa using hz
    clear hz
    go_wp2
    go_ret
    exact ⟨ret_int HE.out.symm, HB1.out⟩
end Go.Proofs.Ytlbkfphepneflaa
