/- The reference's fits and search: plain functions and walks. -/
import Derived.Test.YtlbkfphepneflaaRefChk2
import Derived.Test.YtlbkfphepneflaaAppend
namespace Go.Proofs.Ytlbkfphepneflaa
open Go.RowKit

def fitBad (l : List Opn) (at_ : List Int) (i : Nat) (s : Int) (k : Nat) : Bool :=
  (hasB (af l i) k && decide (s < at_.getD k 0)) || (hasB (af l k) i && decide (at_.getD k 0 < s))
def fitSum (l : List Opn) (at_ : List Int) (s : Int) : Nat → Int
  | 0 => 0
  | k + 1 => fitSum l at_ s k + if at_.getD k 0 = s then mn l k else 0
def fitB (l : List Opn) (c : Int) (at_ : List Int) (i : Nat) (s : Int) : Bool := !((List.range i).any (fitBad l at_ i s)) && decide (mn l i + fitSum l at_ s i ≤ c)
theorem fit_no {l : List Opn} {c : Int} {at_ : List Int} {i k : Nat} {s : Int} (hk : k < i) (h : fitBad l at_ i s k = true) : fitB l c at_ i s = false := by
  unfold fitB; rw [range_any_hit hk h]; rfl
theorem fit_end {l : List Opn} {c : Int} {at_ : List Int} {i : Nat} {s : Int} (h : (List.range i).any (fitBad l at_ i s) = false) : fitB l c at_ i s = decide (mn l i + fitSum l at_ s i ≤ c) := by
  unfold fitB; rw [h]; rfl
theorem fitSum_bnd {l : List Opn} (hsd : Sound l) (at_ : List Int) (s : Int) : ∀ k, k ≤ l.length → 0 ≤ fitSum l at_ s k ∧ fitSum l at_ s k ≤ 10000 * k := by
  intro k
  induction k with
  | zero => intro _; simp [fitSum]
  | succ k ih =>
    intro hk
    have h1 := ih (by omega)
    have h2 := hsd.mins _ (getD_mem (show k < l.length by omega))
    unfold fitSum
    unfold mn
    split <;> omega
theorem fitSum_in {l : List Opn} {at_ : List Int} {s : Int} {k : Nat} (h : at_.getD k 0 = s) : fitSum l at_ s (k + 1) = fitSum l at_ s k + mn l k := by
  conv => lhs; unfold fitSum
  rw [if_pos h]
theorem fitSum_out {l : List Opn} {at_ : List Int} {s : Int} {k : Nat} (h : ¬ at_.getD k 0 = s) : fitSum l at_ s (k + 1) = fitSum l at_ s k := by
  conv => lhs; unfold fitSum
  rw [if_neg h]; omega

set_option maxRecDepth 100000 in
set_option maxHeartbeats 4000000 in
theorem fits_any (A : Option Addr) (cap : Nat) (l : List Opn) (c : Int) (At : Option Addr) (capA : Nat) (at_ : List Int) (i : Nat) (s : Int) (w : World) (h : ORd w w.heap.size A l) (hs : OSmall l) (hsd : Sound l)
    (hat : IRd w w.heap.size At at_) (hla : at_.length = i) (hi : i < l.length) :
    Calls Try.prog 37 #[.slice A l.length cap, .int .i64 c, .slice At i capA, .int .i64 i, .int .i64 s] w fun e w' => e = .returned (.bool (fitB l c at_ i s)) ∧ w = w' := by
  have HS := Lib.hid hs
  have HSD := Lib.hid hsd
  have hn : l.length ≤ 16 := hsd.len
  have HAT := Lib.hid hat
  have HLA := Lib.hid hla
  have H := Lib.hid h
  obtain ⟨b, off, o, rfl, hB, hd, hat0⟩ := h.at_ (Below.refl _ _) hi
  obtain ⟨_, _, c2, ⟨Aa, ca, c3, a1, a2⟩, _⟩ := hat0
  have HA := Lib.hid a2
  have HAF := Lib.hid (af_at hd)
  have HMN := Lib.hid (mn_at hd)
  have hso := (hs o (List.mem_of_getElem? hd)).2.1
  have hm0 := (hsd.mins o (List.mem_of_getElem? hd)).1
  have hm1 := (hsd.mins o (List.mem_of_getElem? hd)).2
  clear h hs hsd hat hla hd a1 a2
  go_enter Try.func37, Try.ntmps37
  go_wp2_with fail
  go_loop [11, 12] (fun v j => ∃ k : Nat, k ≤ i ∧ j = .int .i64 k ∧ v = .int .i64 (o.mins + fitSum l at_ s k) ∧ (List.range k).any (fitBad l at_ i s) = false) (fun _ j => i - (intOf j).toNat)
  case atStart => exact ⟨0, Nat.zero_le _, rfl, by simp [fitSum], rfl⟩
  case round =>
    obtain ⟨k, hk, rfl, rfl, hu⟩ := hrel
    have HU := Lib.hid hu
    have hf0 := (fitSum_bnd HSD.out at_ s k (by omega)).1
    have hf1 := (fitSum_bnd HSD.out at_ s k (by omega)).2
    clear hu
    by_cases hlt : k < i
    · obtain ⟨b2, off2, y, rfl, hB2, hdy, cy⟩ := HAT.out.at_ (Below.refl _ _) (show k < at_.length by rw [HLA.out]; exact hlt)
      obtain ⟨b3, off3, p, e3, hB3, hdp, hatp⟩ := H.out.at_ (Below.refl _ _) (show k < l.length by omega)
      cases e3
      obtain ⟨_, _, d2, ⟨Ap, cp, d3, p1, p2⟩, _⟩ := hatp
      have HY : Hid (at_.getD k 0 = y) := by show _ = _; rw [List.getD_eq_getElem?_getD, hdy]; rfl
      have HAP := Lib.hid p2
      have hsp := (HS.out p (List.mem_of_getElem? hdp)).2.1
      have hp0 := (HSD.out.mins p (List.mem_of_getElem? hdp)).1
      have hp1 := (HSD.out.mins p (List.mem_of_getElem? hdp)).2
      have HFI := Lib.hid (fitSum_in (l := l) (at_ := at_) (s := s) (k := k))
      have HFO := Lib.hid (fitSum_out (l := l) (at_ := at_) (s := s) (k := k))
      have HBAD : Hid (fitBad l at_ i s k = ((hasB o.after k && decide (s < y)) || (hasB p.after i && decide (y < s)))) := by
        show _ = _
        unfold fitBad; rw [HAF.out, af_at hdp, HY.out]
      rw [HY.out, mn_at hdp] at HFI
      rw [HY.out] at HFO
      have HNO := Lib.hid (fit_no (l := l) (c := c) (at_ := at_) (s := s) hlt)
      have HNX := Lib.hid (range_any_snoc HU.out)
      clear hdy hdp p1 p2
      have hk0 : (0 : Int) ≤ (k : Int) := by omega
      by_cases hys : y = s
      · have hysb : (y == s) = true := by simp [hys]
        have HF := Lib.hid (HFI.out hys)
        have hn1 : ¬ s < y := by omega
        have hn2 : ¬ y < s := by omega
        have HB : Hid (fitBad l at_ i s k = false) := by show _ = _; rw [HBAD.out, decide_eq_false hn1, decide_eq_false hn2]; simp
        clear hys
        cases hh1 : hasB o.after k <;> cases hh2 : hasB p.after i
        all_goals
          have HH1 := Lib.hid hh1
          have HH2 := Lib.hid hh2
          clear hh1 hh2
          go_wp2_with fail
          ((with_reducible refine (has46_any Aa ca o.after k _ HA.out (by omega)).mono ?_); rintro e w1 ⟨rfl, rfl⟩)
          rw [HH1.out]
          go_wp2_with fail
          ((with_reducible refine (has46_any Ap cp p.after i _ HAP.out (by omega)).mono ?_); rintro e w1 ⟨rfl, rfl⟩)
          rw [HH2.out]
          go_wp2
          go_round
          case rel => exact ⟨k + 1, by omega, by go_num, by rw [HF.out]; go_num, HNX.out HB.out⟩
          case measure => simp [intOf]; omega
      · have hysb : (y == s) = false := by simp [hys]
        have HF := Lib.hid (HFO.out hys)
        have HNE := Lib.hid hys
        clear hys
        cases hh1 : hasB o.after k
        all_goals
          have HH1 := Lib.hid hh1
          clear hh1
          go_wp2_with fail
          ((with_reducible refine (has46_any Aa ca o.after k _ HA.out (by omega)).mono ?_); rintro e w1 ⟨rfl, rfl⟩)
          rw [HH1.out]
          rw [HH1.out] at HBAD
        · cases hh2 : hasB p.after i
          · have HH2 := Lib.hid hh2
            have HB : Hid (fitBad l at_ i s k = false) := by rw [HBAD.out, hh2]; rfl
            clear hh2
            go_wp2_with fail
            ((with_reducible refine (has46_any Ap cp p.after i _ HAP.out (by omega)).mono ?_); rintro e w1 ⟨rfl, rfl⟩)
            rw [HH2.out]
            go_wp2
            go_round
            case rel => exact ⟨k + 1, by omega, by go_num, by rw [HF.out], HNX.out HB.out⟩
            case measure => simp [intOf]; omega
          · have HH2 := Lib.hid hh2
            by_cases hlys : y < s
            · have HB : Hid (fitBad l at_ i s k = true) := by rw [HBAD.out, hh2, decide_eq_true hlys]; rfl
              have HE := Lib.hid (HNO.out HB.out)
              clear hh2
              go_wp2_with fail
              ((with_reducible refine (has46_any Ap cp p.after i _ HAP.out (by omega)).mono ?_); rintro e w1 ⟨rfl, rfl⟩)
              rw [HH2.out]
              go_wp2
              go_ret
              exact ⟨ret_bool HE.out.symm, rfl⟩
            · have HB : Hid (fitBad l at_ i s k = false) := by rw [HBAD.out, hh2, decide_eq_false hlys]; rfl
              clear hh2
              go_wp2_with fail
              ((with_reducible refine (has46_any Ap cp p.after i _ HAP.out (by omega)).mono ?_); rintro e w1 ⟨rfl, rfl⟩)
              rw [HH2.out]
              go_wp2
              go_round
              case rel => exact ⟨k + 1, by omega, by go_num, by rw [HF.out], HNX.out HB.out⟩
              case measure => simp [intOf]; omega
        · by_cases hlsy : s < y
          · have HB : Hid (fitBad l at_ i s k = true) := by rw [HBAD.out, decide_eq_true hlsy]; rfl
            have HE := Lib.hid (HNO.out HB.out)
            go_wp2
            go_ret
            exact ⟨ret_bool HE.out.symm, rfl⟩
          · have hlys : y < s := by have := HNE.out; omega
            rw [decide_eq_false hlsy, decide_eq_true hlys] at HBAD
            cases hh2 : hasB p.after i
            · have HH2 := Lib.hid hh2
              have HB : Hid (fitBad l at_ i s k = false) := by rw [HBAD.out, hh2]; rfl
              clear hh2
              go_wp2_with fail
              ((with_reducible refine (has46_any Ap cp p.after i _ HAP.out (by omega)).mono ?_); rintro e w1 ⟨rfl, rfl⟩)
              rw [HH2.out]
              go_wp2
              go_round
              case rel => exact ⟨k + 1, by omega, by go_num, by rw [HF.out], HNX.out HB.out⟩
              case measure => simp [intOf]; omega
            · have HH2 := Lib.hid hh2
              have HB : Hid (fitBad l at_ i s k = true) := by rw [HBAD.out, hh2]; rfl
              have HE := Lib.hid (HNO.out HB.out)
              clear hh2
              go_wp2_with fail
              ((with_reducible refine (has46_any Ap cp p.after i _ HAP.out (by omega)).mono ?_); rintro e w1 ⟨rfl, rfl⟩)
              rw [HH2.out]
              go_wp2
              go_ret
              exact ⟨ret_bool HE.out.symm, rfl⟩
    · obtain rfl : i = k := by omega
      have HE := Lib.hid (fit_end (c := c) HU.out)
      rw [HMN.out] at HE
      go_wp2
      go_ret
      exact ⟨ret_bool HE.out.symm, rfl⟩
end Go.Proofs.Ytlbkfphepneflaa
