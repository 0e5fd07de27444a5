/- The reference of the flow: Check: the walk. -/
import Derived.Test.YtelgkangojmhdaaFRef3
import Derived.Test.YtelgkangojmhdaaFRef5
import Derived.Test.YtelgkangojmhdaaFRef6
namespace Go.Proofs.Ytelgkangojmhdaa
open Go.RowKit

section
variable {l : List Opn} {ss : List (List Int)} {at_ : List Int} {bs : List Bn} {ds : List M.Dn} {ts : List Tsk}
theorem chkF_com (h : comErr l ss bs ds ≠ 0) : chkF l ss bs ds ts = comErr l ss bs ds := by unfold chkF; rw [if_pos h]
theorem chkF_early (hz : comErr l ss bs ds = 0) (hp : puts l.length (flat ss) = (0, at_)) (h0 : tsksErr l at_ bs ds ts ts.length = 0) (h1 : ts.any (earlyB l ts) = true) : chkF l ss bs ds ts = 21 := by
  unfold chkF; rw [if_neg (by rw [hz]; simp), hp]; dsimp only; rw [if_neg (by rw [h0]; simp), if_pos h1]
theorem chkF_clash (hz : comErr l ss bs ds = 0) (hp : puts l.length (flat ss) = (0, at_)) (h0 : tsksErr l at_ bs ds ts ts.length = 0) (h1 : ts.any (earlyB l ts) = false) (h2 : clashN ts ts.length = true) : chkF l ss bs ds ts = 14 := by
  unfold chkF; rw [if_neg (by rw [hz]; simp), hp]; dsimp only; rw [if_neg (by rw [h0]; simp), if_neg (by rw [h1]; simp), if_pos h2]
theorem chkF_gap (hz : comErr l ss bs ds = 0) (hp : puts l.length (flat ss) = (0, at_)) (h0 : tsksErr l at_ bs ds ts ts.length = 0) (h1 : ts.any (earlyB l ts) = false) (h2 : clashN ts ts.length = false) (h3 : ts.length < l.length * bs.length) : chkF l ss bs ds ts = 20 := by
  unfold chkF; rw [if_neg (by rw [hz]; simp), hp]; dsimp only; rw [if_neg (by rw [h0]; simp), if_neg (by rw [h1]; simp), if_neg (by rw [h2]; simp), if_pos h3]
theorem chkF_ok (hz : comErr l ss bs ds = 0) (hp : puts l.length (flat ss) = (0, at_)) (h0 : tsksErr l at_ bs ds ts ts.length = 0) (h1 : ts.any (earlyB l ts) = false) (h2 : clashN ts ts.length = false) (h3 : ¬ ts.length < l.length * bs.length) : chkF l ss bs ds ts = 0 := by
  unfold chkF; rw [if_neg (by rw [hz]; simp), hp]; dsimp only; rw [if_neg (by rw [h0]; simp), if_neg (by rw [h1]; simp), if_neg (by rw [h2]; simp), if_neg h3]
theorem tsks_op (h0 : tsksErr l at_ bs ds ts ts.length = 0) {i : Nat} {t : Tsk} (ht : ts[i]? = some t) : ∃ b, TkGood l at_ bs ds (ts.take i) t b := by
  have hi := (List.getElem?_eq_some_iff.1 ht).1
  have := tsksErr_zero h0 i hi
  rw [tgetD ht] at this
  exact tskErr_zero.1 this
end

set_option maxRecDepth 100000 in
set_option maxHeartbeats 8000000 in
theorem refCheck49_any (A : Option Addr) (cap : Nat) (l : List Opn) (S : Option Addr) (capS : Nat) (ss : List (List Int)) (Ab : Option Addr) (capB : Nat) (bs : List Bn) (D : Option Addr) (capD : Nat) (ds : List M.Dn) (Tk : Option Addr) (capT : Nat) (ts : List Tsk) (w : World)
    (h : ORd w w.heap.size A l) (hn : l.length ≤ 1000) (hs : OSmall l) (hS : SRd w w.heap.size S ss) (hsm : SSmall ss) (hB : BRd w w.heap.size Ab bs) (hbl : bs.length ≤ 1000) (hbr : ∀ b ∈ bs, BnR b) (hD : M.DRd w w.heap.size D ds) (hdl : ds.length ≤ 1000)
    (hT : TRd w w.heap.size Tk ts) (htl : ts.length ≤ 1000) (htc : ts.length ≤ capT) :
    Calls Try.prog 26 #[.slice A l.length cap, .slice S ss.length capS, .slice Ab bs.length capB, .slice D ds.length capD, .slice Tk ts.length capT] w fun e w' => e = .returned (.int .i64 (chkF l ss bs ds ts)) ∧ Below w.heap.size w w' := by
  have HO := Lib.hid h
  have HS := Lib.hid hs
  have HSS := Lib.hid hS
  have HSM := Lib.hid hsm
  have HBB := Lib.hid hB
  have HBR := Lib.hid hbr
  have HDD := Lib.hid hD
  have HTT := Lib.hid hT
  clear h hs hS hsm hB hbr hD hT
  go_enter Try.func26, Try.ntmps26
  go_wp2_with fail
  ((with_reducible refine (refCommon_any A cap l S capS ss Ab capB bs D capD ds _ HO.out hn HS.out HSS.out HSM.out HBB.out hbl HBR.out HDD.out hdl).mono ?_); rintro e w1 ⟨rfl, hb1⟩)
  have HB1 := Lib.hid hb1
  clear hb1
  by_cases hz : comErr l ss bs ds = 0
  · have HZ := Lib.hid hz
    obtain ⟨at_, hp, hg, hf⟩ := flowOk_of hz
    have HP := Lib.hid hp
    obtain ⟨ho, _, hbo, _⟩ := com_zero hz
    have HSD := Lib.hid (sound_of (ordErr_zero ho).1)
    have HBO := Lib.hid hbo
    have hl16 := hf.len
    have hb60 := hbo.len
    have hlb : l.length * bs.length ≤ 16 * 60 := Nat.mul_le_mul hl16 hb60
    have hlb0 : (0 : Int) ≤ (l.length : Int) * (bs.length : Int) := Int.mul_nonneg (by omega) (by omega)
    have hlb1 : (l.length : Int) * (bs.length : Int) ≤ 960 := by
      have := Int.mul_le_mul (show (l.length : Int) ≤ 16 by omega) (show (bs.length : Int) ≤ 60 by omega) (by omega) (by omega)
      omega
    clear hz hp hg hf ho hbo
    rw [HZ.out]
    go_wp2_with fail
    ((with_reducible refine (stations_any l.length S capS ss _ hn (HSS.out.go HB1.out) HSM.out).mono ?_); rintro e w2 ⟨hst, hb2⟩)
    obtain ⟨Aa, ca, rfl, hra, hla⟩ := stOk_of hst HP.out
    have HB2 := Lib.hid (HB1.out.trans (hb2.mono HB1.out.size))
    have HRA := Lib.hid hra
    have HLA := Lib.hid hla
    clear hst hb2 hra hla
    go_wp2_with fail
    go_loopw [14, 15] (fun j _ wr => ∃ k : Nat, k ≤ ts.length ∧ j = .int .i64 k ∧ tsksErr l at_ bs ds ts k = 0 ∧ Below w2.heap.size w2 wr) (fun j _ _ => ts.length - (intOf j).toNat)
    case atStart => exact ⟨0, Nat.zero_le _, rfl, rfl, Below.refl _ _⟩
    case round =>
      obtain ⟨k, hk, rfl, hok, hbw⟩ := hrel
      have HOK := Lib.hid hok
      have HBW2 := Lib.hid hbw
      have HBW := Lib.hid (HB2.out.trans (hbw.mono HB2.out.size))
      clear hok hbw
      by_cases hlt : k < ts.length
      · obtain ⟨t, ht⟩ : ∃ t, ts[k]? = some t := ⟨_, List.getElem?_eq_getElem hlt⟩
        have HT := Lib.hid ht
        clear ht
        go_wp2_with fail
        ((with_reducible refine (single_any49 A cap l Aa ca at_ Ab capB bs D capD ds Tk capT ts k t _ (HO.out.go HBW.out) HSD.out (HRA.out.go HBW2.out) HLA.out (HBB.out.go HBW.out) HBO.out (dgo HDD.out HBW.out) hdl (HTT.out.go HBW.out) (by omega) htc HT.out).mono ?_); rintro e w3 ⟨rfl, hb3⟩)
        have HB3 := Lib.hid (HBW.out.trans (hb3.mono HBW.out.size))
        have HB32 := Lib.hid (HBW2.out.trans (hb3.mono HBW2.out.size))
        clear hb3
        by_cases he : tskErr l at_ bs ds (ts.take k) t = 0
        · have HN : Hid (tsksErr l at_ bs ds ts (k + 1) = 0) := (tsksErr_succ HOK.out HT.out).trans he
          rw [he]
          clear he
          go_wp2_with fail
          go_roundw
          case rel => exact ⟨k + 1, by omega, by go_num, HN.out, HB32.out⟩
          case measure => simp [intOf]; omega
        · have HE := Lib.hid (chkF_stop HZ.out HP.out HOK.out HT.out rfl he)
          have hne : (tskErr l at_ bs ds (ts.take k) t != 0) = true := by simpa using he
          clear he
          generalize tskErr l at_ bs ds (ts.take k) t = te at *
          go_wp2_with fail
          go_ret
          exact ⟨ret_int HE.out.symm, HB3.out⟩
      · obtain rfl : ts.length = k := by omega
        obtain ⟨wo, rfl⟩ : ∃ wo : World, wo = wr := ⟨_, rfl⟩
        go_wp2_with fail
        go_loopw [16] (fun j wr => ∃ k : Nat, k ≤ ts.length ∧ j = .int .i64 k ∧ (ts.take k).any (earlyB l ts) = false ∧ Below w.heap.size w wr) (fun j _ => ts.length - (intOf j).toNat)
        case atStart => exact ⟨0, Nat.zero_le _, rfl, rfl, HBW.out⟩
        case round =>
          clear HBW HBW2
          obtain ⟨k, hk, rfl, hea, hbw⟩ := hrel
          have HEA := Lib.hid hea
          have HBW := Lib.hid hbw
          clear hea hbw
          by_cases hlt : k < ts.length
          · obtain ⟨b, off, t, hA, hB, hd, hat⟩ := HTT.out.at_ HBW.out hlt
            obtain ⟨b', hgood⟩ := tsks_op HOK.out hd
            obtain ⟨o, hto⟩ : ∃ o : Nat, t.op = o := ⟨t.op.toNat, by have := hgood.o0; omega⟩
            have ho : o < l.length := by have := hgood.o1; omega
            obtain ⟨c0, c1, c2, c3, c4⟩ := hat
            have HD := Lib.hid hd
            have HTO := Lib.hid hto
            have i0 : (0 : Int) ≤ (k : Int) := by omega
            have i1 : (k : Int) < (ts.length : Int) := by omega
            subst hA
            clear hd hto hgood
            go_wp2_with fail
            ((with_reducible refine (early_any A cap l (some ⟨b, off, none⟩) capT ts t o _ (HO.out.go HBW.out) HS.out (HTT.out.go HBW.out) (by omega) HTO.out ho).mono ?_); rintro e w3 ⟨rfl, hb3⟩)
            have HB3 := Lib.hid (HBW.out.trans (hb3.mono HBW.out.size))
            clear hb3 c0 c1 c2 c3 c4
            cases he : earlyB l ts t with
            | true =>
              have HE := Lib.hid (chkF_early HZ.out HP.out HOK.out (any_hit HD.out he))
              clear he
              go_wp2_with fail
              go_ret
              exact ⟨ret_int HE.out.symm, HB3.out⟩
            | false =>
              have HN := Lib.hid (any_snoc HD.out HEA.out he)
              clear he
              go_wp2_with fail
              go_roundw
              case rel => exact ⟨k + 1, by omega, by go_num, HN.out, HB3.out⟩
              case measure => simp [intOf]; omega
          · obtain rfl : ts.length = k := by omega
            have HEF := Lib.hid (any_done HEA.out)
            go_wp2_with fail
            ((with_reducible refine (clash_any Tk capT ts _ (HTT.out.go HBW.out) (by omega)).mono ?_); rintro e w3 ⟨rfl, hb3⟩)
            have HB3 := Lib.hid (HBW.out.trans (hb3.mono HBW.out.size))
            clear hb3
            cases hc : clashN ts ts.length with
            | true =>
              have HE := Lib.hid (chkF_clash HZ.out HP.out HOK.out HEF.out hc)
              clear hc
              go_wp2_with fail
              go_ret
              exact ⟨ret_int HE.out.symm, HB3.out⟩
            | false =>
              by_cases hgap : ts.length < l.length * bs.length
              · have HE := Lib.hid (chkF_gap HZ.out HP.out HOK.out HEF.out hc hgap)
                have hgi : (ts.length : Int) < (l.length : Int) * (bs.length : Int) := by rw [← Int.natCast_mul]; omega
                clear hc hgap
                go_wp2_with fail
                go_ret
                exact ⟨ret_int HE.out.symm, HB3.out⟩
              · have HE := Lib.hid (chkF_ok HZ.out HP.out HOK.out HEF.out hc hgap)
                have hgi : ¬ (ts.length : Int) < (l.length : Int) * (bs.length : Int) := by rw [← Int.natCast_mul]; omega
                clear hc hgap
                go_wp2_with fail
                go_ret
                exact ⟨ret_int HE.out.symm, HB3.out⟩
  · have HE := Lib.hid (chkF_com (ts := ts) hz)
    have hzb : (comErr l ss bs ds != 0) = true := by simpa using hz
    clear hz
    go_wp2
    go_ret
    exact ⟨ret_int HE.out.symm, HB1.out⟩
end Go.Proofs.Ytelgkangojmhdaa
