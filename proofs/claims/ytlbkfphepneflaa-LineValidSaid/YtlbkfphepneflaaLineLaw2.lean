/- The laws LineValid, LineCycles, LineHalves: their walks. -/
import Derived.Test.YtlbkfphepneflaaLinePlain5
namespace Go.Proofs.Ytlbkfphepneflaa
open Go.RowKit

/-- What Balance returned, by its error. -/
theorem bal_no {l : List Opn} {c : Int} {A : Option Addr} {n cap : Nat} (h : bndErr l c ≠ 0 → A = none ∧ n = 0 ∧ cap = 0) (hz : bndErr l c ≠ 0) : n = 0 := (h hz).2.1
theorem asc_at {q : List Int} (h : q.Pairwise (· < ·)) {j : Nat} {x y : Int} (hx : q[j]? = some x) (hy : q[j + 1]? = some y) : x < y := by
  rw [List.pairwise_iff_getElem] at h
  obtain ⟨h1, rfl⟩ := List.getElem?_eq_some_iff.1 hx
  obtain ⟨h2, rfl⟩ := List.getElem?_eq_some_iff.1 hy
  exact h j (j + 1) h1 h2 (by omega)

set_option maxRecDepth 100000 in
set_option maxHeartbeats 4000000 in
theorem lineValid_walk (A : Option Addr) (cap : Nat) (l : List Opn) (c : Int) (w : World) (h : ORd w w.heap.size A l) (hcap : l.length ≤ cap) :
    Calls Try.prog 6 #[.slice A l.length cap, .int .i64 c] w fun e w' => e = .returned (.bool true) ∧ Below w.heap.size w w' := by
  have HO := Lib.hid h
  clear h
  go_enter Try.func6, Try.ntmps6
  go_wp2_with fail
  ((with_reducible refine (few7 A cap l _ HO.out).mono ?_); rintro e w1 ⟨rfl, rfl⟩)
  cases hf : few l 7 with
  | false =>
    clear hf
    go_wp2_with fail
    ((with_reducible refine (ex_any _).mono ?_); rintro e w2 ⟨rfl, hb2⟩)
    go_wp2
    go_ret
    exact ⟨rfl, hb2⟩
  | true =>
    have hl7 := (few_small hf).1
    have HS := Lib.hid (few_small hf).2
    clear hf
    go_wp2_with fail
    ((with_reducible refine (balance_any A cap l c _ HO.out (by omega) hcap HS.out).mono ?_); rintro e w2 ⟨⟨A2, n2, c2, rfl, p2, q2⟩, hb2⟩)
    have HO2 := Lib.hid (HO.out.go hb2)
    have HB2 := Lib.hid hb2
    have P2 := Lib.hid p2
    have Q2 := Lib.hid q2
    clear hb2 p2 q2
    go_wp2_with fail
    ((with_reducible refine (bound_any A cap l c _ HO2.out (by omega) hcap HS.out).mono ?_); rintro e w3 ⟨rfl, hb3⟩)
    have HB3 := Lib.hid (HB2.out.trans (hb3.mono HB2.out.size))
    have HK3 := Lib.hid hb3
    have he : (bndErr l c != bndErr l c) = false := by simp
    have he2 : (bndErr l c == bndErr l c) = true := by simp
    clear hb3
    by_cases hz : bndErr l c = 0
    · have HZ := Lib.hid hz
      obtain ⟨g1, _, g2⟩ := Q2.out hz
      have HLO := Lib.hid (lineOk_of hz)
      have HX := Lib.hid (g2.go HK3.out)
      have HSM := Lib.hid (balSt_small hz)
      have HNE : Hid (∀ (s : Nat) (q : List Int), (balSt l c)[s]? = some q → q ≠ []) := fun s q h => balSt_nonempty HLO.out h
      have HAS : Hid (∀ (s : Nat) (q : List Int), (balSt l c)[s]? = some q → q.Pairwise (· < ·)) := fun s q h => balSt_asc h
      have HCK := Lib.hid (bal_check hz)
      have hbn := bnd_nSt HLO.out
      have hKn := nSt_le HLO.out
      have HBV := Lib.hid (bndV_ok hz)
      rw [← balSt_len] at g1 hbn hKn
      subst g1
      clear he2 g2
      rw [HZ.out]
      rw [HZ.out] at he
      clear he hz
      obtain ⟨ss, HSE⟩ : ∃ ss, Hid (balSt l c = ss) := ⟨_, rfl⟩
      rw [HSE.out] at HX HSM HNE HAS HCK hbn hKn
      rw [HSE.out]
      have hsl := HSM.out.1
      go_wp2_with fail
      go_loopw [10, 11, 52] (fun _ _ j wr => ∃ k : Nat, k ≤ ss.length ∧ j = .int .i64 k ∧ Below w3.heap.size w3 wr) (fun _ _ j _ => ss.length - (intOf j).toNat)
      case atStart => exact ⟨0, Nat.zero_le _, rfl, Below.refl _ _⟩
      case round =>
        obtain ⟨k, hk, rfl, hb⟩ := hrel
        have HB := Lib.hid hb
        clear hb
        by_cases hlt : k < ss.length
        · obtain ⟨b1, o1, q, Aq, cq, rfl, hB1, hd1, cs1, hc1, hr1⟩ := HX.out.at_ HB.out hlt
          have HR1 := Lib.hid hr1
          have HAQ := Lib.hid (HAS.out k q hd1)
          have hql := HSM.out.2 q (List.mem_of_getElem? hd1)
          have hqp : 0 < q.length := List.length_pos_iff.2 (HNE.out k q hd1)
          have hqb : ((q.length : Int) == 0) = false := by simp; exact HNE.out k q hd1
          clear hd1 hr1 hc1
          go_wp2_with fail
          clear cs1
          obtain ⟨w5, HW5⟩ : ∃ w5 : World, Hid (w5 = wr) := ⟨_, rfl⟩
          go_loopw [11] (fun j wq => ∃ i : Nat, i + 1 ≤ q.length ∧ j = .int .i64 ((i : Int) + 1) ∧ Below w3.heap.size wr wq) (fun j _ => q.length - (intOf j).toNat)
          case atStart => exact ⟨0, by omega, rfl, Below.refl _ _⟩
          case round =>
            obtain ⟨i, hi, rfl, hb⟩ := hrel
            rename_i wq
            have HBJ := Lib.hid hb
            clear hb
            by_cases hli : i + 1 < q.length
            · obtain ⟨b3, o3, x, rfl, hB3, hdx, cx⟩ := HR1.out.at_ HBJ.out (show i < q.length by omega)
              obtain ⟨b4, o4, y, e4, hB4, hdy, cy⟩ := HR1.out.at_ HBJ.out hli
              cases e4
              have hxy := asc_at HAQ.out hdx hdy
              clear hdx hdy
              have hi0 : (0 : Int) ≤ (i : Int) := by omega
              have hi1 : (i : Int) < (q.length : Int) := by omega
              have hi2 : (i : Int) + 1 < (q.length : Int) := by omega
              have hi3 : (0 : Int) ≤ (i : Int) + 1 := by omega
              have hw1 : IntKind.i64.wrap ((i : Int) + 1 - 1) = (i : Int) := by rw [wrapI _ (by omega) (by omega)]; omega
              have hw2 : ((i : Int) + 1).toNat = i + 1 := by omega
              go_wp2
              go_quiet (fail)
              go_wp2
              go_roundw
              case rel => exact ⟨i + 1, by omega, by go_num, below_drewN HBJ.out _⟩
              case measure => simp [intOf]; omega
            · obtain rfl : i = q.length - 1 := by omega
              go_wp2
              go_roundw
              case rel => exact ⟨k + 1, by omega, by go_num, HB.out.trans HBJ.out⟩
              case measure => simp [intOf]; omega
        · obtain rfl : ss.length = k := by omega
          have HOC := Lib.hid ((HO2.out.go HK3.out).go HB.out)
          have HXC := Lib.hid (HX.out.go HB.out)
          go_wp2_with fail
          ((with_reducible refine (check_any A cap l c A2 c2 ss _ HOC.out (by omega) hcap HS.out HXC.out HSM.out).mono ?_); rintro e w6 ⟨rfl, hb6⟩)
          rw [HCK.out, HBV.out]
          have HB6 := Lib.hid ((HB3.out.trans (HB.out.mono HB3.out.size)).trans (hb6.mono (Nat.le_trans HB3.out.size HB.out.size)))
          clear hb6
          go_wp2_with fail
          ((with_reducible refine (ex_any _).mono ?_); rintro e w7 ⟨rfl, hb7⟩)
          have HB7 := Lib.hid (HB6.out.trans (hb7.mono HB6.out.size))
          clear hb7
          go_wp2
          go_ret
          exact ⟨rfl, HB7.out⟩
    · have hn2 := bal_no P2.out hz
      have HV := Lib.hid (bndV_bad (l := l) (c := c) rfl hz)
      have hne : (bndErr l c != 0) = true := by simpa using hz
      subst hn2
      clear hz
      rw [HV.out]
      go_wp2_with fail
      ((with_reducible refine (ex_any _).mono ?_); rintro e w4 ⟨rfl, hb4⟩)
      have HB4 := Lib.hid (HB3.out.trans (hb4.mono HB3.out.size))
      clear hb4
      go_wp2
      go_ret
      exact ⟨rfl, HB4.out⟩

set_option maxRecDepth 100000 in
set_option maxHeartbeats 4000000 in
theorem lineHalves_walk (A : Option Addr) (cap : Nat) (l : List Opn) (c : Int) (w : World) (h : ORd w w.heap.size A l) (hcap : l.length ≤ cap) :
    Calls Try.prog 9 #[.slice A l.length cap, .int .i64 c] w fun e w' => e = .returned (.bool true) ∧ Below w.heap.size w w' := by
  have HO := Lib.hid h
  clear h
  go_enter Try.func9, Try.ntmps9
  go_wp2_with fail
  ((with_reducible refine (few7 A cap l _ HO.out).mono ?_); rintro e w1 ⟨rfl, rfl⟩)
  cases hf : few l 7 with
  | false =>
    clear hf
    go_wp2_with fail
    ((with_reducible refine (ex_any _).mono ?_); rintro e w2 ⟨rfl, hb2⟩)
    go_wp2
    go_ret
    exact ⟨rfl, hb2⟩
  | true =>
    have hl7 := (few_small hf).1
    have HS := Lib.hid (few_small hf).2
    clear hf
    go_wp2_with fail
    ((with_reducible refine (balance_any A cap l c _ HO.out (by omega) hcap HS.out).mono ?_); rintro e w2 ⟨⟨A2, n2, c2, rfl, p2, q2⟩, hb2⟩)
    have HB2 := Lib.hid hb2
    have P2 := Lib.hid p2
    have Q2 := Lib.hid q2
    clear hb2 p2 q2
    by_cases hz : bndErr l c = 0
    · have HZ := Lib.hid hz
      obtain ⟨g1, _, _⟩ := Q2.out hz
      have HSD := Lib.hid (sound_of (ordErr_zero (bndErr_zero hz).1).1)
      have HN2 := Lib.hid g1
      clear g1 hz
      rw [HZ.out]
      go_wp2_with fail
      go_loopw [8, 24] (fun _ j wr => ∃ k : Nat, k ≤ l.length ∧ j = .int .i64 k ∧ (∀ o ∈ l.take k, c < 2 * o.mins) ∧ Below w.heap.size w wr) (fun _ j _ => l.length - (intOf j).toNat)
      case atStart => exact ⟨0, Nat.zero_le _, rfl, by simp, HB2.out⟩
      case round =>
        obtain ⟨k, hk, rfl, hu, hb⟩ := hrel
        have HU := Lib.hid hu
        have HB := Lib.hid hb
        have hsz := hb.size
        clear hu hb
        by_cases hlt : k < l.length
        · obtain ⟨b, off, o, rfl, hB, hd, hat0⟩ := HO.out.at_ HB.out hlt
          obtain ⟨c0, c1, c2, ⟨Aa, ca, c3, a1, a2⟩, ⟨Au, cu, c4, u1, u2⟩⟩ := hat0
          have hm0 := (HSD.out.mins o (List.mem_of_getElem? hd)).1
          have hm1 := (HSD.out.mins o (List.mem_of_getElem? hd)).2
          have HTK : Hid (l.take (k + 1) = l.take k ++ [o]) := by show _ = _; rw [List.take_add_one, hd]; rfl
          clear hd a1 a2 u1 u2
          by_cases hh : 2 * o.mins ≤ c
          · go_wp2_with fail
            ((with_reducible refine (ex_any _).mono ?_); rintro e w3 ⟨rfl, hb3⟩)
            have HB3 := Lib.hid ((HB.out.alloc hsz _).trans (hb3.mono (by simp; omega)))
            clear hb3
            go_wp2
            go_ret
            exact ⟨rfl, HB3.out⟩
          · have HU' : Hid (∀ o ∈ l.take (k + 1), c < 2 * o.mins) := fun x hx => by
              rw [HTK.out] at hx
              rcases List.mem_append.1 hx with hx | hx
              · exact HU.out x hx
              · simp at hx; subst hx; omega
            go_wp2
            go_roundw
            case rel => exact ⟨k + 1, by omega, by go_num, HU'.out, HB.out.alloc hsz _⟩
            case measure => simp [intOf]; omega
        · obtain rfl : l.length = k := by omega
          have hkn : n2 = l.length := by rw [HN2.out]; exact halves HZ.out (by have := HU.out; rw [List.take_length] at this; exact this)
          have hknb : ((n2 : Int) == (l.length : Int)) = true := by simp; omega
          clear hkn
          go_wp2_with fail
          ((with_reducible refine (ex_any _).mono ?_); rintro e w3 ⟨rfl, hb3⟩)
          have HB3 := Lib.hid (HB.out.trans (hb3.mono hsz))
          clear hb3
          go_wp2
          go_ret
          exact ⟨rfl, HB3.out⟩
    · have hne : (bndErr l c != 0) = true := by simpa using hz
      clear hz
      go_wp2_with fail
      ((with_reducible refine (ex_any _).mono ?_); rintro e w4 ⟨rfl, hb4⟩)
      have HB4 := Lib.hid (HB2.out.trans (hb4.mono HB2.out.size))
      clear hb4
      go_wp2
      go_ret
      exact ⟨rfl, HB4.out⟩

set_option maxRecDepth 100000 in
set_option maxHeartbeats 4000000 in
theorem lineCycles_walk (A : Option Addr) (cap : Nat) (l : List Opn) (c m : Int) (w : World) (h : ORd w w.heap.size A l) (hcap : l.length ≤ cap) :
    Calls Try.prog 8 #[.slice A l.length cap, .int .i64 c, .int .i64 m] w fun e w' => e = .returned (.bool true) ∧ Below w.heap.size w w' := by
  have HO := Lib.hid h
  clear h
  go_enter Try.func8, Try.ntmps8
  go_wp2_with fail
  ((with_reducible refine (few7 A cap l _ HO.out).mono ?_); rintro e w1 ⟨rfl, rfl⟩)
  cases hf : few l 7 with
  | false =>
    clear hf
    go_wp2_with fail
    ((with_reducible refine (ex_any _).mono ?_); rintro e w2 ⟨rfl, hb2⟩)
    go_wp2
    go_ret
    exact ⟨rfl, hb2⟩
  | true =>
    have hl7 := (few_small hf).1
    have HS := Lib.hid (few_small hf).2
    clear hf
    by_cases hmc : m < c
    · go_wp2_with fail
      ((with_reducible refine (ex_any _).mono ?_); rintro e w2 ⟨rfl, hb2⟩)
      go_wp2
      go_ret
      exact ⟨rfl, hb2⟩
    · go_wp2_with fail
      ((with_reducible refine (balance_any A cap l c _ HO.out (by omega) hcap HS.out).mono ?_); rintro e w2 ⟨⟨A2, n2, c2, rfl, p2, q2⟩, hb2⟩)
      have HO2 := Lib.hid (HO.out.go hb2)
      have HB2 := Lib.hid hb2
      have Q2 := Lib.hid q2
      clear hb2 p2 q2
      go_wp2_with fail
      ((with_reducible refine (balance_any A cap l m _ HO2.out (by omega) hcap HS.out).mono ?_); rintro e w3 ⟨⟨A3, n3, c3, rfl, p3, q3⟩, hb3⟩)
      have HO3 := Lib.hid (HO2.out.go hb3)
      have HB3 := Lib.hid (HB2.out.trans (hb3.mono HB2.out.size))
      have Q3 := Lib.hid q3
      clear hb3 p3 q3
      by_cases hz : bndErr l c = 0
      · have HZ := Lib.hid hz
        obtain ⟨g1, _, _⟩ := Q2.out hz
        have HSD := Lib.hid (sound_of (ordErr_zero (bndErr_zero hz).1).1)
        have HN2 := Lib.hid g1
        clear g1 hz
        rw [HZ.out]
        by_cases hz3 : bndErr l m = 0
        · have HZ3 := Lib.hid hz3
          obtain ⟨g1, _, _⟩ := Q3.out hz3
          have HN3 := Lib.hid g1
          have hle := cyc_le HZ.out hz3 (by omega)
          have HONE := Lib.hid (cyc_one hz3)
          have hK := nSt_le (lineOk_of hz3)
          have hK2 := nSt_le (lineOk_of HZ.out)
          rw [← HN2.out, ← HN3.out] at hle
          rw [← HN3.out] at HONE hK
          rw [← HN2.out] at hK2
          clear g1 hz3
          rw [HZ3.out]
          go_wp2_with fail
          go_loopw [11, 13, 52] (fun s _ j wr => ∃ k : Nat, k ≤ l.length ∧ j = .int .i64 k ∧ s = .int .i64 (sumM (l.take k)) ∧ Below w.heap.size w wr) (fun _ _ j _ => l.length - (intOf j).toNat)
          case atStart => exact ⟨0, Nat.zero_le _, rfl, rfl, HB3.out⟩
          case round =>
            obtain ⟨k, hk, rfl, rfl, hb⟩ := hrel
            have HB := Lib.hid hb
            have hsz := hb.size
            clear hb
            have hs0 := (sumM_take_bnd HSD.out k).1
            have hs1 := (sumM_take_bnd HSD.out k).2
            by_cases hlt : k < l.length
            · obtain ⟨b, off, o, rfl, hB, hd, hat0⟩ := HO.out.at_ HB.out hlt
              obtain ⟨c0, c1, c2, ⟨Aa, ca, c3, a1, a2⟩, ⟨Au, cu, c4, u1, u2⟩⟩ := hat0
              have hm0 := (HSD.out.mins o (List.mem_of_getElem? hd)).1
              have hm1 := (HSD.out.mins o (List.mem_of_getElem? hd)).2
              have HST := Lib.hid (sumM_take hd)
              clear hd a1 a2 u1 u2
              go_wp2
              go_roundw
              case rel => exact ⟨k + 1, by omega, by go_num, by rw [HST.out], HB.out.alloc hsz _⟩
              case measure => simp [intOf]; omega
            · obtain rfl : l.length = k := by omega
              rw [List.take_length] at hs0 hs1
              rw [List.take_length]
              by_cases hl0 : l.length = 0
              · have hl0b : ((l.length : Int) == 0) = true := by simp; exact List.length_eq_zero_iff.1 hl0
                clear hl0
                go_wp2_with fail
                ((with_reducible refine (ex_any _).mono ?_); rintro e w5 ⟨rfl, hb5⟩)
                have HB5 := Lib.hid (HB.out.trans (hb5.mono hsz))
                clear hb5
                go_wp2
                go_ret
                exact ⟨rfl, HB5.out⟩
              · have hl0b : ((l.length : Int) == 0) = false := by simp; intro e; rw [e] at hl0; exact hl0 rfl
                have hone := HONE.out (by omega)
                by_cases hsm : sumM l ≤ m
                · have hn3 := hone.2 hsm
                  have hn3b : ((n3 : Int) == 1) = true := by simp; omega
                  clear hone hn3 hl0
                  go_wp2_with fail
                  ((with_reducible refine (ex_any _).mono ?_); rintro e w5 ⟨rfl, hb5⟩)
                  have HB5 := Lib.hid (HB.out.trans (hb5.mono hsz))
                  clear hb5
                  go_wp2
                  go_ret
                  exact ⟨rfl, HB5.out⟩
                · have hn3 : n3 ≠ 1 := fun e => hsm (hone.1 e)
                  have hn3b : ((n3 : Int) == 1) = false := by simp; omega
                  clear hone hn3 hl0
                  go_wp2_with fail
                  ((with_reducible refine (ex_any _).mono ?_); rintro e w5 ⟨rfl, hb5⟩)
                  have HB5 := Lib.hid (HB.out.trans (hb5.mono hsz))
                  clear hb5
                  go_wp2
                  go_ret
                  exact ⟨rfl, HB5.out⟩
        · have he3 := cyc_err HZ.out (show c ≤ m by omega) hz3
          have HE3 := Lib.hid he3
          clear he3 hz3
          rw [HE3.out]
          go_wp2_with fail
          ((with_reducible refine (ex_any _).mono ?_); rintro e w4 ⟨rfl, hb4⟩)
          have HB4 := Lib.hid (HB3.out.trans (hb4.mono HB3.out.size))
          clear hb4
          go_wp2
          go_ret
          exact ⟨rfl, HB4.out⟩
      · have hne : (bndErr l c != 0) = true := by simpa using hz
        clear hz
        go_wp2_with fail
        ((with_reducible refine (ex_any _).mono ?_); rintro e w4 ⟨rfl, hb4⟩)
        have HB4 := Lib.hid (HB3.out.trans (hb4.mono HB3.out.size))
        clear hb4
        go_wp2
        go_ret
        exact ⟨rfl, HB4.out⟩
end Go.Proofs.Ytlbkfphepneflaa
