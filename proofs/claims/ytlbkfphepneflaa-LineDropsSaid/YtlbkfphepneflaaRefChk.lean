/- The reference's Stations, loaded, Check, Same, Small: the walks. -/
import Derived.Test.YtlbkfphepneflaaChk
namespace Go.Proofs.Ytlbkfphepneflaa
open Go.RowKit

theorem puts_ge {n : Nat} : ∀ (L : List (Nat × Int)) (at_ : List Int), puts n L = (0, at_) → ∀ x ∈ at_, -1 ≤ x := by
  refine snoc_ind ?_ ?_
  · intro at_ h; unfold puts at h; cases h; intro x hx; have := (List.mem_replicate.1 hx).2; omega
  · intro L p ih at_ h
    obtain ⟨at0, h0⟩ := puts_ok [p] L at_ h
    rw [puts_append, h0] at h
    obtain ⟨h1, h2, _, rfl⟩ := stp_ok h
    intro x hx
    rcases List.mem_or_eq_of_mem_set hx with hx | rfl
    · exact ih at0 h0 x hx
    · omega
def StPost (n : Nat) (ss : List (List Int)) (e : Ending) (w' : World) : Prop :=
  ∃ A c, e = .returned (.tuple #[.slice A (puts n (flat ss)).2.length c, .int .i64 (puts n (flat ss)).1]) ∧ IRd w' w'.heap.size A (puts n (flat ss)).2
theorem stPost_bad {n : Nat} {ss : List (List Int)} {x : Int} {w' : World} (h : puts n (flat ss) = (x, [])) : StPost n ss (.returned (.tuple #[.slice none 0 0, .int .i64 x])) w' := by
  refine ⟨none, 0, by rw [h]; rfl, ?_⟩
  rw [h]; intro h'; exact absurd rfl h'
theorem stPost_ok {n : Nat} {ss : List (List Int)} {at_ : List Int} {A : Option Addr} {c : Nat} {w' : World} (h : puts n (flat ss) = (0, at_)) (hl : at_.length = n) (hr : IRd w' w'.heap.size A at_) : StPost n ss (.returned (.tuple #[.slice A n c, .int .i64 0])) w' := by
  refine ⟨A, c, by rw [h, hl], ?_⟩
  rw [h]; exact hr

set_option maxRecDepth 100000 in
set_option maxHeartbeats 4000000 in
theorem stations_any (n : Nat) (S : Option Addr) (capS : Nat) (ss : List (List Int)) (w : World) (hn : n ≤ 1000) (hS : SRd w w.heap.size S ss) (hsm : SSmall ss) :
    Calls Try.prog 30 #[.int .i64 n, .slice S ss.length capS] w fun e w' => StPost n ss e w' ∧ Below w.heap.size w w' := by
  have HSS := Lib.hid hS
  have HSM := Lib.hid hsm.2
  have hsl := hsm.1
  clear hS hsm
  have hmk := mkInts n (by omega)
  go_enter Try.func30, Try.ntmps30
  go_wp2_with fail
  clear hmk
  have HR0 : Hid (Row (w.alloc (.cells (intCells (List.replicate n 0)) 3)) w.heap.size (fillM 0 n)) := by rw [fillM_zero]; exact Row.new w _
  go_loopw [7] (fun j wr => ∃ q : Nat, q ≤ n ∧ j = .int .i64 q ∧ Row wr w.heap.size (fillM q n) ∧ Below w.heap.size w wr) (fun j _ => n - (intOf j).toNat)
  case atStart => exact ⟨0, Nat.zero_le _, rfl, HR0.out, (Below.refl _ _).alloc (Nat.le_refl _) _⟩
  case round =>
    obtain ⟨q, hq, rfl, hrow, hb⟩ := hrel
    have HF := Lib.hid hrow
    have HB9 := Lib.hid hb
    have hrl9 := hrow.lt
    have hrf := hrow.free
    clear hrow hb HR0
    by_cases hlq : q < n
    · have cy := HF.out.cell (i := q) (x := 0) (fillM_hi hlq)
      have cf := hrf q
      clear hrf
      have HF' := Lib.hid (HF.out.put q (-1))
      rw [fillM_next hlq] at HF'
      have HB9' := Lib.hid (HB9.out.setCell (p := ⟨w.heap.size, q, none⟩) (Nat.le_refl _) (.int .i64 (-1)))
      go_wp2
      go_roundw
      case rel => exact ⟨q + 1, by omega, by go_num, HF'.out, HB9'.out⟩
      case measure => simp [intOf]; omega
    · obtain rfl : n = q := by omega
      have HF' : Hid (Row wr w.heap.size (noAt n)) := by
        have h1 := HF.out
        unfold fillM at h1
        rw [Nat.sub_self, List.replicate_zero, List.append_nil] at h1
        exact h1
      clear HF hrf
      go_wp2_with fail
      go_loopw [8, 9, 10] (fun j _ _ wr => ∃ (k : Nat) (at_ : List Int), k ≤ ss.length ∧ j = .int .i64 k ∧ puts n (flat (ss.take k)) = (0, at_) ∧ Row wr w.heap.size at_ ∧ Below w.heap.size w wr) (fun j _ _ _ => ss.length - (intOf j).toNat)
      case atStart => exact ⟨0, noAt n, Nat.zero_le _, rfl, rfl, HF'.out, HB9.out⟩
      case round =>
        clear HF' HB9 hrl9
        obtain ⟨k, at_, hk, rfl, hp, hrow, hb⟩ := hrel
        have HP := Lib.hid hp
        have HR := Lib.hid hrow
        have HB := Lib.hid hb
        have hrl := hrow.lt
        clear hp hrow hb
        by_cases hlt : k < ss.length
        · obtain ⟨b, off, q, Aq, cq, rfl, hB, hd, cs0, hcq, hrq⟩ := HSS.out.at_ (Below.refl _ _) hlt
          have HD := Lib.hid hd
          have hql := HSM.out q (List.mem_of_getElem? hd)
          have HQ := Lib.hid hrq
          have HCS := Lib.hid cs0
          clear hd hrq hcq cs0
          have HP0 : Hid (puts n (pre ss q k 0) = (0, at_)) := by rw [pre_zero]; exact HP.out
          go_wp2_with fail
          obtain ⟨w5, rfl⟩ : ∃ w5 : World, w5 = wr := ⟨_, rfl⟩
          go_loopw [9, 10] (fun j _ wr => ∃ (j' : Nat) (at_ : List Int), j' ≤ q.length ∧ j = .int .i64 j' ∧ puts n (pre ss q k j') = (0, at_) ∧ Row wr w.heap.size at_ ∧ Below w.heap.size w wr) (fun j _ _ => q.length - (intOf j).toNat)
          case atStart => exact ⟨0, at_, Nat.zero_le _, rfl, HP0.out, HR.out, HB.out⟩
          case round =>
            clear HP0 HP HR HB hrl
            obtain ⟨j, at1, hj, rfl, hp, hrow, hb⟩ := hrel
            have HP := Lib.hid hp
            have HR := Lib.hid hrow
            have HB := Lib.hid hb
            have hrl := hrow.lt
            have HLEN := Lib.hid (puts_len _ _ hp).1
            have HGE := Lib.hid (puts_ge _ _ hp)
            have cs := (hb.cell (p := ⟨b, _, none⟩) hB).trans HCS.out
            clear hp hrow hb
            by_cases hlj : j < q.length
            · obtain ⟨b2, off2, x, rfl, hB2, hdx, cx⟩ := HQ.out.at_ HB.out hlj
              have HDX := Lib.hid hdx
              clear hdx
              by_cases hx : x < 0 ∨ (n : Int) ≤ x
              · have HE := Lib.hid (puts_bad HD.out HDX.out HP.out hx)
                rcases hx with hx | hx
                · go_wp2
                  go_ret2
                  exact ⟨stPost_bad HE.out, HB.out⟩
                · have hx0 : 0 ≤ x := by omega
                  go_wp2
                  go_ret2
                  exact ⟨stPost_bad HE.out, HB.out⟩
              · obtain ⟨xn, rfl⟩ : ∃ xn : Nat, x = (xn : Int) := ⟨x.toNat, by omega⟩
                have hxn : xn < n := by omega
                have hga := getD_some (E := at1) (t := xn) (by rw [HLEN.out]; exact hxn)
                have cy := HR.out.cell hga
                have hy1 := HGE.out _ (List.mem_of_getElem? hga)
                have cf := HR.out.free xn
                have HPN := Lib.hid (puts_next (n := n) (at_ := at1) ss k HDX.out HP.out (by omega) (by omega))
                have HPT := Lib.hid (puts_twice (n := n) HD.out HDX.out HP.out (by omega) (by omega))
                have e1 : ((xn : Int)).toNat = xn := by simp
                rw [e1] at HPN HPT
                clear hx e1 hga
                have HR' := Lib.hid (HR.out.put xn (k : Int))
                have HB' := Lib.hid (HB.out.setCell (p := ⟨w.heap.size, xn, none⟩) (Nat.le_refl _) (.int .i64 (k : Int)))
                revert HPN HPT cy hy1
                generalize at1.getD xn 0 = y
                intro cy hy1 HPN HPT
                by_cases hy : 0 ≤ y
                · have HE := Lib.hid (HPT.out (by omega))
                  go_wp2
                  go_ret2
                  exact ⟨stPost_bad HE.out, HB.out⟩
                · have HPN' := Lib.hid (HPN.out (by omega))
                  go_wp2
                  go_roundw
                  case rel => exact ⟨j + 1, _, by omega, by go_num, HPN'.out, HR'.out, HB'.out⟩
                  case measure => simp [intOf]; omega
            · obtain rfl : q.length = j := by omega
              have HP' : Hid (puts n (flat (ss.take (k + 1))) = (0, at1)) := by rw [← pre_all HD.out]; exact HP.out
              go_wp2
              go_roundw
              case rel => exact ⟨k + 1, at1, by omega, by go_num, HP'.out, HR.out, HB.out⟩
              case measure => simp [intOf]; omega
        · obtain rfl : ss.length = k := by omega
          have HP' : Hid (puts n (flat ss) = (0, at_)) := by have h1 := HP.out; rw [List.take_length] at h1; exact h1
          have HLEN := Lib.hid (puts_len _ _ HP'.out).1
          clear HP
          go_wp2
          go_ret2
          exact ⟨stPost_ok HP'.out HLEN.out (HR.out.ird HR.out.lt), HB.out⟩

set_option maxRecDepth 100000 in
set_option maxHeartbeats 2000000 in
theorem loaded_any (A : Option Addr) (cap : Nat) (l : List Opn) (c : Int) (S : Option Addr) (capS : Nat) (ss : List (List Int)) (w : World) (h : ORd w w.heap.size A l) (hsd : Sound l)
    (hS : SRd w w.heap.size S ss) (hsm : SSmall ss) (hr : ∀ q ∈ ss, ∀ x ∈ q, 0 ≤ x ∧ x < l.length) :
    Calls Try.prog 32 #[.slice A l.length cap, .int .i64 c, .slice S ss.length capS] w fun e w' => e = .returned (.bool (ss.any (overS l c))) ∧ w = w' := by
  have H := Lib.hid h
  have HSD := Lib.hid hsd
  have hl16 := hsd.len
  have HSS := Lib.hid hS
  have HSM := Lib.hid hsm.2
  have HRNG := Lib.hid hr
  have hsl := hsm.1
  clear h hsd hS hsm hr
  go_enter Try.func32, Try.ntmps32
  go_wp2_with fail
  go_loop [7, 8, 9] (fun j _ _ => ∃ k : Nat, k ≤ ss.length ∧ j = .int .i64 k ∧ (ss.take k).any (overS l c) = false) (fun j _ _ => ss.length - (intOf j).toNat)
  case atStart => exact ⟨0, Nat.zero_le _, rfl, rfl⟩
  case round =>
    obtain ⟨k, hk', rfl, hu⟩ := hrel
    have HU := Lib.hid hu
    clear hu
    by_cases hlt' : k < ss.length
    · obtain ⟨b, off, q, Aq, cq, rfl, hB, hd, cs, hcq, hrq⟩ := HSS.out.at_ (Below.refl _ _) hlt'
      have HD := Lib.hid hd
      have hql := HSM.out q (List.mem_of_getElem? hd)
      have HQ := Lib.hid hrq
      have HQR := Lib.hid (HRNG.out q (List.mem_of_getElem? hd))
      clear hd hrq hcq
      go_wp2_with fail
      go_loop [8, 9] (fun s j => ∃ j' : Nat, j' ≤ q.length ∧ j = .int .i64 j' ∧ s = .int .i64 (sumS l (q.take j'))) (fun _ j => q.length - (intOf j).toNat)
      case atStart => exact ⟨0, Nat.zero_le _, rfl, rfl⟩
      case round =>
        obtain ⟨j, hj, rfl, rfl⟩ := hrel
        have sb := sumS_bnd HSD.out HQR.out hql j
        have sb0 := sb.1
        have sb1 := sb.2
        clear sb
        by_cases hlj : j < q.length
        · obtain ⟨b2, off2, x, rfl, hB2, hdx, cx⟩ := HQ.out.at_ (Below.refl _ _) hlj
          obtain ⟨x0, x1⟩ := HQR.out x (List.mem_of_getElem? hdx)
          have HST := Lib.hid (sumS_snoc (l := l) hdx)
          clear hdx
          obtain ⟨xn, rfl⟩ : ∃ xn : Nat, x = (xn : Int) := ⟨x.toNat, by omega⟩
          have hxn : xn < l.length := by omega
          obtain ⟨b3, off3, o, rfl, hB3, hdo, hat0⟩ := H.out.at_ (Below.refl _ _) hxn
          have c2 := hat0.2.2.1
          have hm0 := (HSD.out.mins o (List.mem_of_getElem? hdo)).1
          have hm1 := (HSD.out.mins o (List.mem_of_getElem? hdo)).2
          have e1 : ((xn : Int)).toNat = xn := by simp
          have HMN : Hid (sumS l (q.take (j + 1)) = sumS l (q.take j) + o.mins) := by show _ = _; rw [HST.out, e1, mn_at hdo]
          clear hat0 hdo HST e1
          go_wp2
          go_round
          case rel => exact ⟨j + 1, by omega, by go_num, by rw [HMN.out]⟩
          case measure => simp [intOf]; omega
        · obtain rfl : q.length = j := by omega
          rw [List.take_length] at sb0 sb1
          rw [List.take_length]
          by_cases hov : c < sumS l q
          · have HE := Lib.hid (any_hit (p := overS l c) HD.out (by unfold overS; simpa using hov))
            go_wp2
            go_ret
            exact ⟨ret_bool HE.out.symm, rfl⟩
          · have HU' := Lib.hid (any_snoc HD.out HU.out (by unfold overS; simpa using hov))
            go_wp2
            go_round
            case rel => exact ⟨k + 1, by omega, by go_num, HU'.out⟩
            case measure => simp [intOf]; omega
    · obtain rfl : ss.length = k := by omega
      have HOV := Lib.hid (any_done HU.out)
      clear HU
      go_wp2
      go_ret
      exact ⟨ret_bool HOV.out.symm, rfl⟩

def smallQ (q : List Int) : Bool := decide (20 < q.length)
def smallS (ss : List (List Int)) : Bool := decide (ss.length ≤ 20) && !ss.any smallQ
theorem smallS_ok {ss : List (List Int)} (h : smallS ss = true) : ss.length ≤ 20 ∧ SSmall ss := by
  unfold smallS at h
  rw [Bool.and_eq_true, decide_eq_true_iff, Bool.not_eq_true', List.any_eq_false] at h
  refine ⟨h.1, by have := h.1; omega, fun q hq => ?_⟩
  have := h.2 q hq
  unfold smallQ at this
  simp at this
  omega
set_option maxRecDepth 100000 in
set_option maxHeartbeats 2000000 in
theorem small_any (S : Option Addr) (capS : Nat) (ss : List (List Int)) (w : World) (hS : SRd w w.heap.size S ss) (hn : ss.length ≤ 9223372036854775807) :
    Calls Try.prog 18 #[.slice S ss.length capS] w fun e w' => e = .returned (.bool (smallS ss)) ∧ w = w' := by
  have HSS := Lib.hid hS
  clear hS
  go_enter Try.func18, Try.ntmps18
  go_wp2_with fail
  go_loop [3] (fun j => ∃ k : Nat, k ≤ ss.length ∧ k ≤ 20 ∧ j = .int .i64 k ∧ (ss.take k).any smallQ = false) (fun j => ss.length - (intOf j).toNat)
  case atStart => exact ⟨0, Nat.zero_le _, Nat.zero_le _, rfl, rfl⟩
  case round =>
    obtain ⟨k, hk, hk20, rfl, hu⟩ := hrel
    have HU := Lib.hid hu
    clear hu
    by_cases hlt : k < ss.length
    · by_cases h20 : k < 20
      · obtain ⟨b, off, q, Aq, cq, rfl, hB, hd, cs, hcq, hrq⟩ := HSS.out.at_ (Below.refl _ _) hlt
        have HD := Lib.hid hd
        clear hd hrq hcq
        by_cases hq : 20 < q.length
        · have HE : Hid (smallS ss = false) := by
            show _ = _
            unfold smallS; rw [any_hit (p := smallQ) HD.out (by unfold smallQ; simpa using hq)]; simp
          go_wp2
          go_ret
          exact ⟨ret_bool HE.out.symm, rfl⟩
        · have HU' := Lib.hid (any_snoc HD.out HU.out (by unfold smallQ; simpa using hq))
          go_wp2
          go_round
          case rel => exact ⟨k + 1, by omega, by omega, by go_num, HU'.out⟩
          case measure => simp [intOf]; omega
      · have hl20 : decide (ss.length ≤ 20) = false := by simp; omega
        have HE : Hid (smallS ss = false) := by show _ = _; unfold smallS; rw [hl20]; rfl
        have hk' : k = 20 := by omega
        subst hk'
        go_wp2
        go_ret
        exact ⟨ret_bool (by rw [HE.out]; simp; omega), rfl⟩
    · obtain rfl : ss.length = k := by omega
      have HE : Hid (smallS ss = true) := by show _ = _; unfold smallS; rw [any_done HU.out, decide_eq_true hk20]; rfl
      go_wp2
      go_ret
      exact ⟨ret_bool (by rw [HE.out]; simp; omega), rfl⟩
end Go.Proofs.Ytlbkfphepneflaa
