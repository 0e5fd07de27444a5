/- The law LineOptimal: its walk. -/
import Derived.Test.YtlbkfphepneflaaLinePlain5
import Derived.Deep.RegionHeld3
namespace Go.Proofs.Ytlbkfphepneflaa
open Go.RowKit

set_option maxHeartbeats 1000000 in
theorem numbers_any (n : Nat) (S : Option Addr) (capS : Nat) (ss : List (List Int)) (at_ : List Int) (w : World) (hn : n ≤ 1000) (hS : SRd w w.heap.size S ss) (hsm : SSmall ss) (hp : puts n (flat ss) = (0, at_)) :
    Calls Try.prog 21 #[.int .i64 n, .slice S ss.length capS] w fun e w' => (∃ A c, e = .returned (.slice A n c) ∧ IRd w' w'.heap.size A at_) ∧ Below w.heap.size w w' := by
  have HS := Lib.hid hS
  have HSM := Lib.hid hsm
  have HP := Lib.hid hp
  have HL := Lib.hid (puts_len _ _ hp).1
  clear hS hsm hp
  go_enter Try.func21, Try.ntmps21
  go_wp2_with fail
  ((with_reducible refine (stations_any n S capS ss _ hn HS.out HSM.out).mono ?_); rintro e w1 ⟨⟨A1, c1, rfl, hi1⟩, hb1⟩)
  rw [HP.out] at hi1
  rw [HP.out]
  have HI := Lib.hid hi1
  have HB := Lib.hid hb1
  clear hi1 hb1
  go_wp2
  go_ret
  rw [← HL.out]
  exact ⟨⟨A1, c1, rfl, HI.out⟩, HB.out⟩

theorem opt_first {l : List Opn} {c : Int} {at_ : List Int} (hl : LineOk l c) (hv : Valid l c (nSt l c) (fun i => at_.getD i 0)) {k : Nat} (hk : k < l.length) (h : ∀ j, j < k → (balAt l c l.length).getD j 0 = at_.getD j 0) : (balAt l c l.length).getD k 0 ≤ at_.getD k 0 :=
  bal_first hl hv hk fun j hj => (h j hj).symm

theorem block_lt' {w : World} {b o : Nat} {v : Value} (h : w.cell? ⟨b, o, none⟩ = some v) : b < w.heap.size := World.block_lt_of_cell? w _ h
theorem opt_keep {w w1 w2 : World} {b3 b4 p3 p4 : Nat} {x y : Value} (hbb : Below w1.heap.size w1 w2) (k1 : w1.cell? ⟨b3, p3, none⟩ = some x) (k2 : w1.cell? ⟨b4, p4, none⟩ = some y) (k3 : Below w.heap.size w w1) :
    w2.cell? ⟨b3, p3, none⟩ = some x ∧ w2.cell? ⟨b4, p4, none⟩ = some y ∧ Below w.heap.size w w2 :=
  ⟨(hbb.cell (p := ⟨b3, p3, none⟩) (block_lt' k1)).trans k1, (hbb.cell (p := ⟨b4, p4, none⟩) (block_lt' k2)).trans k2, k3.trans (hbb.mono k3.size)⟩

set_option maxRecDepth 100000 in
set_option maxHeartbeats 4000000 in
theorem lineOptimal_walk (A : Option Addr) (cap : Nat) (l : List Opn) (c : Int) (S : Option Addr) (capS : Nat) (ss : List (List Int)) (w : World) (h : ORd w w.heap.size A l) (hcap : l.length ≤ cap) (hS : SRd w w.heap.size S ss) (hsl : ss.length ≤ 9223372036854775807) :
    Calls Try.prog 7 #[.slice A l.length cap, .int .i64 c, .slice S ss.length capS] w fun e w' => e = .returned (.bool true) ∧ Below w.heap.size w w' := by
  have HO := Lib.hid h
  have HSS := Lib.hid hS
  clear h hS
  go_enter Try.func7, Try.ntmps7
  go_wp2_with fail
  ((with_reducible refine (few7 A cap l _ HO.out).mono ?_); rintro e w1 ⟨rfl, rfl⟩)
  cases hf : few l 7 with
  | false =>
    clear hf
    go_wp2_with fail
    ((with_reducible refine (ex_any _).mono ?_); rintro e w2 ⟨rfl, hb2⟩)
    go_wp2
    go_ret
    exact ⟨rfl, hb2⟩
  | true =>
    have hl7 := (few_small hf).1
    have HS := Lib.hid (few_small hf).2
    clear hf
    go_wp2_with fail
    ((with_reducible refine (small_any S capS ss _ HSS.out hsl).mono ?_); rintro e w1 ⟨rfl, rfl⟩)
    cases hsm : smallS ss with
    | false =>
      clear hsm
      go_wp2_with fail
      ((with_reducible refine (ex_any _).mono ?_); rintro e w2 ⟨rfl, hb2⟩)
      go_wp2
      go_ret
      exact ⟨rfl, hb2⟩
    | true =>
      have HSM := Lib.hid (smallS_ok hsm).2
      have hsl2 := (smallS_ok hsm).1
      clear hsm
      go_wp2_with fail
      ((with_reducible refine (check_any A cap l c S capS ss _ HO.out (by omega) hcap HS.out HSS.out HSM.out).mono ?_); rintro e w2 ⟨rfl, hb2⟩)
      have HO2 := Lib.hid (HO.out.go hb2)
      have HS2 := Lib.hid (HSS.out.go hb2)
      have HB2 := Lib.hid hb2
      clear hb2
      by_cases hck : chkErr l c ss = 0
      · have HCK := Lib.hid hck
        have HZ := Lib.hid (chk_zero hck).1
        obtain ⟨at_, hp, hla, hv⟩ := check_valid hck
        have HP := Lib.hid hp
        have HLA := Lib.hid hla
        have HV := Lib.hid hv
        have HLO := Lib.hid (lineOk_of HZ.out)
        have hKs := nSt_least HLO.out (by omega) hv
        have hKn := nSt_le HLO.out
        clear hck hp hla hv
        rw [HCK.out]
        go_wp2_with fail
        ((with_reducible refine (balance_any A cap l c _ HO2.out (by omega) hcap HS.out).mono ?_); rintro e w3 ⟨⟨A3, n3, c3, rfl, p3, q3⟩, hb3⟩)
        obtain ⟨g1, _, g2⟩ := q3 HZ.out
        have HX3 := Lib.hid g2
        have HO3 := Lib.hid (HO2.out.go hb3)
        have HS3 := Lib.hid (HS2.out.go hb3)
        have HB3 := Lib.hid (HB2.out.trans (hb3.mono HB2.out.size))
        have HSB := Lib.hid (balSt_small HZ.out)
        have HBC := Lib.hid (bal_check HZ.out)
        have HBP := Lib.hid (bal_puts HLO.out)
        have HNL : Hid ((balSt l c).length = nSt l c) := balSt_len l c
        rw [← HNL.out] at g1
        rw [← HNL.out] at hKs hKn
        subst g1
        clear g2 p3 q3 hb3
        rw [HZ.out]
        go_wp2_with fail
        ((with_reducible refine (check_any A cap l c A3 c3 (balSt l c) _ HO3.out (by omega) hcap HS.out HX3.out HSB.out).mono ?_); rintro e w4 ⟨rfl, hb4⟩)
        rw [HBC.out]
        have HX4 := Lib.hid (HX3.out.go hb4)
        have HS4 := Lib.hid (HS3.out.go hb4)
        have HB4 := Lib.hid (HB3.out.trans (hb4.mono HB3.out.size))
        clear hb4
        by_cases hless : (balSt l c).length < ss.length
        · go_wp2_with fail
          ((with_reducible refine (ex_any _).mono ?_); rintro e w5 ⟨rfl, hb5⟩)
          have HB5 := Lib.hid (HB4.out.trans (hb5.mono HB4.out.size))
          clear hb5
          go_wp2
          go_ret
          exact ⟨rfl, HB5.out⟩
        · have HEQ : Hid (ss.length = nSt l c) := by show _ = _; rw [← HNL.out]; omega
          go_wp2_with fail
          ((with_reducible refine (numbers_any l.length A3 c3 (balSt l c) (balAt l c l.length) _ (by omega) HX4.out HSB.out HBP.out).mono ?_); rintro e w5 ⟨⟨A5, c5, rfl, hi5⟩, hb5⟩)
          have HI5 := Lib.hid hi5
          have HS5 := Lib.hid (HS4.out.go hb5)
          have HB5 := Lib.hid (HB4.out.trans (hb5.mono HB4.out.size))
          clear hi5 hb5
          go_wp2_with fail
          ((with_reducible refine (numbers_any l.length S capS ss at_ _ (by omega) HS5.out HSM.out HP.out).mono ?_); rintro e w6 ⟨⟨A6, c6, rfl, hi6⟩, hb6⟩)
          have HI6 := Lib.hid hi6
          have HJ6 := Lib.hid (HI5.out.go hb6)
          have HB6 := Lib.hid (HB5.out.trans (hb6.mono HB5.out.size))
          have hs6 := HB6.out.size
          clear hi6 hb6
          have hlb : ((l.length : Int) != (l.length : Int)) = false := by simp
          have HFST : Hid (∀ k, k < l.length → (∀ j, j < k → (balAt l c l.length).getD j 0 = at_.getD j 0) → (balAt l c l.length).getD k 0 ≤ at_.getD k 0) := fun k hk hj => by
            have hv := HV.out
            rw [HEQ.out] at hv
            exact opt_first HLO.out hv hk hj
          have HLB := Lib.hid (balAt_len l c l.length)
          obtain ⟨q, HQ⟩ : ∃ q, Hid (balAt l c l.length = q) := ⟨_, rfl⟩
          rw [HQ.out] at HFST HLB HJ6
          go_wp2_with fail
          clear hlb
          go_loopw [11, 78] (fun _ j wr => ∃ k : Nat, k ≤ l.length ∧ j = .int .i64 k ∧ (∀ j, j < k → q.getD j 0 = at_.getD j 0) ∧ Below w6.heap.size w6 wr) (fun _ j _ => l.length - (intOf j).toNat)
          case atStart => exact ⟨0, Nat.zero_le _, rfl, fun j hj => absurd hj (by omega), Below.refl _ _⟩
          case round =>
            obtain ⟨k, hk, rfl, hu, hb⟩ := hrel
            have HU := Lib.hid hu
            have HB := Lib.hid hb
            have HBW := Lib.hid (HB6.out.trans (hb.mono hs6))
            clear hu hb
            by_cases hlt : k < l.length
            · obtain ⟨b3, o3, x, rfl, hB3, hdx, cx⟩ := HJ6.out.at_ HB.out (show k < q.length by rw [HLB.out]; exact hlt)
              obtain ⟨b4, o4, y, rfl, hB4, hdy, cy⟩ := HI6.out.at_ HB.out (show k < at_.length by rw [HLA.out]; exact hlt)
              have HX : Hid (q.getD k 0 = x) := by show _ = _; rw [List.getD_eq_getElem?_getD, hdx]; rfl
              have HY : Hid (at_.getD k 0 = y) := by show _ = _; rw [List.getD_eq_getElem?_getD, hdy]; rfl
              have hle := HFST.out k hlt HU.out
              rw [HX.out, HY.out] at hle
              have hk0 : (0 : Int) ≤ (k : Int) := by omega
              have hk1 : (k : Int) < (l.length : Int) := by omega
              clear hdx hdy
              by_cases hxy : x = y
              · have hxyb : (x != y) = false := by simp [hxy]
                have HU' : Hid (∀ j, j < k + 1 → q.getD j 0 = at_.getD j 0) := fun j hj => by
                  by_cases e : j = k
                  · subst e; rw [HX.out, HY.out, hxy]
                  · exact HU.out j (by omega)
                clear hxy hle
                go_wp2
                go_quiet (fail)
                go_wp2
                go_roundw
                case rel => exact ⟨k + 1, by omega, by go_num, HU'.out, below_drewN HB.out _⟩
                case measure => simp [intOf]; omega
              · have hxyb : (x != y) = true := by simpa using hxy
                have hlxy : x < y := by omega
                have hltb : decide (x < y) = true := by simpa using hlxy
                clear hxy hle
                go_wp2
                go_quiet (fail)
                go_wp2_with fail
                have HW7 : Hid (Below w.heap.size w (wr.drewN nq)) := below_drewN HBW.out nq
                have c7x : (wr.drewN nq).cell? ⟨b3, o3 + k, none⟩ = some (.int .i64 x) := cx
                have c7y : (wr.drewN nq).cell? ⟨b4, o4 + k, none⟩ = some (.int .i64 y) := cy
                revert HW7 c7x c7y
                generalize wr.drewN nq = w8
                intro HW7 c7x c7y
                have hbw := HW7.out
                clear cx cy
                go_region_held3 (fun w' => w'.cell? ⟨b3, o3 + k, none⟩ = some (.int .i64 x) ∧ w'.cell? ⟨b4, o4 + k, none⟩ = some (.int .i64 y) ∧ Below w.heap.size w w')
                  (first | exact ⟨c7x, c7y, hbw.drew⟩ | (go_split_ands; exact opt_keep hbb (by assumption) (by assumption) (by assumption)))
                  (first | (go_at_call 12; refine (ex_any _).mono ?_; rintro e w' ⟨rfl, hbb⟩))
                rename_i hSl
                obtain ⟨_, _, kbw⟩ := hSl
                go_wp2
                go_ret
                exact ⟨rfl, kbw⟩
            · obtain rfl : l.length = k := by omega
              go_wp2_with fail
              ((with_reducible refine (ex_any _).mono ?_); rintro e w7 ⟨rfl, hb7⟩)
              have HB7 := Lib.hid (HBW.out.trans (hb7.mono HBW.out.size))
              clear hb7
              go_wp2
              go_ret
              exact ⟨rfl, HB7.out⟩
      · have hne : (chkErr l c ss != 0) = true := by simpa using hck
        clear hck
        go_wp2_with fail
        ((with_reducible refine (ex_any _).mono ?_); rintro e w4 ⟨rfl, hb4⟩)
        have HB4 := Lib.hid (HB2.out.trans (hb4.mono HB2.out.size))
        clear hb4
        go_wp2
        go_ret
        exact ⟨rfl, HB4.out⟩
end Go.Proofs.Ytlbkfphepneflaa
