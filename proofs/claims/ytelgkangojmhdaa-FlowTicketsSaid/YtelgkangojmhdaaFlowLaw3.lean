/- The law FlowOrder: its walk. -/
import Derived.Test.YtelgkangojmhdaaFlowLaw2
import Derived.Deep.QuietTactic
import Derived.BigQuiet
import Derived.BigRegion
import Derived.Outline
import Derived.Handy
namespace Go.Proofs.Ytelgkangojmhdaa
open Go.RowKit

theorem Ran.ir {x : Ln} {at_ : List Int} {ts : List Tsk} {w : World} (h : Ran x.l x.ss at_ x.bs x.ds ts) (hx : LnOk w x) : ∀ t ∈ ts, IR t.tk ∧ IR t.op := by
  intro t ht
  obtain ⟨k, b, o, _, hb⟩ := h.mem ht
  have := h.sd.len
  have := hb.ho
  exact ⟨by rw [hb.tk]; exact hx.bt b hb.mem, by rw [hb.op]; unfold IR; omega⟩
theorem tkBlk (w : World) (t : Tsk) : ∃ W, W = w.alloc (.cells #[.int .i64 t.tk, .int .i64 t.op, .int .i64 t.st, .int .i64 t.a, .int .i64 t.b] 39) ∧ Blk W w.heap.size 39 (encTk t) ∧ Below w.heap.size w W :=
  ⟨_, rfl, Blk.new _ _ _, below_new _ _⟩

set_option maxRecDepth 100000 in
set_option maxHeartbeats 2000000 in
theorem flowOrder_walk (x : Ln) (w : World) (h : LnOk w x) : Calls Try.prog 8 #[x.val] w fun e w' => e = .returned (.bool true) ∧ Below w.heap.size w w' := by
  unfold Ln.val
  have HL := Lib.hid h
  clear h
  go_enter Try.func8, Try.ntmps8
  go_wp2_with fail
  obtain ⟨w1, hw1, hk1, hb1⟩ := lnBox x w
  rw [← hw1]
  have HK1 := Lib.hid hk1
  have HB1 := Lib.hid hb1
  have HL1 := Lib.hid (HL.out.go hb1)
  clear hw1 hk1 hb1
  ((with_reducible refine (lnFew' HL1.out).mono ?_); rintro e w2 ⟨rfl, hb2⟩)
  have HB2 := Lib.hid (keepB HB1.out hb2)
  have HL2 := Lib.hid (HL1.out.go hb2)
  have HK2 := Lib.hid (HK1.out.below hb2 HK1.out.lt)
  clear hb2
  cases hf : fewL x with
  | false =>
    clear hf
    go_wp2_with fail
    ((with_reducible refine (ex49_any _).mono ?_); rintro e w3 ⟨rfl, hb3⟩)
    have HB3 := Lib.hid (keepB HB2.out hb3)
    clear hb3
    go_wp2_with fail
    go_ret
    exact ⟨rfl, HB3.out⟩
  | true =>
    have HS := Lib.hid (fewL_ok hf)
    have hl5 := (fewL_ok hf).l
    have hb70 := (fewL_ok hf).b
    have hd21 := (fewL_ok hf).d
    have hs20 := (fewL_ok hf).s2
    have hlen := simRes_len HS.out
    clear hf
    have a0 := HK2.out.cell (i := 0) rfl
    have a1 := HK2.out.cell (i := 1) rfl
    have a2 := HK2.out.cell (i := 2) rfl
    have a3 := HK2.out.cell (i := 3) rfl
    go_wp2_with fail
    ((with_reducible refine (lnSim' HL2.out HS.out).mono ?_); rintro e w3 ⟨⟨A1, c1, rfl, h1, hc1⟩, hb3⟩)
    have HB3 := Lib.hid (keepB HB2.out hb3)
    have HL3 := Lib.hid (HL2.out.go hb3)
    have HK3 := Lib.hid (HK2.out.below hb3 HK2.out.lt)
    have H1 := Lib.hid h1
    clear hb3 h1 a0 a1 a2 a3
    rcases simRes_cases x.l x.ss x.bs x.ds with ⟨hne, hnil⟩ | ⟨hz, at_, hran⟩
    · generalize simRes x.l x.ss x.bs x.ds = R at *
      obtain ⟨R1, R2⟩ := R
      simp only at hne hnil
      subst hnil
      have hneb : (R1 != 0) = true := by simpa using hne
      clear hne
      go_wp2_with fail
      ((with_reducible refine (ex49_any _).mono ?_); rintro e w4 ⟨rfl, hb4⟩)
      have HB4 := Lib.hid (keepB HB3.out hb4)
      clear hb4
      go_wp2_with fail
      go_ret
      exact ⟨rfl, HB4.out⟩
    · generalize simRes x.l x.ss x.bs x.ds = R at *
      obtain ⟨R1, ts⟩ := R
      simp only at hz hran hlen H1 hc1 ⊢
      subst hz
      have HR := Lib.hid hran
      clear hran
      have hln := HR.out.len
      have hlb0 : (0 : Int) ≤ (x.l.length : Int) * (x.bs.length : Int) := Int.mul_nonneg (by omega) (by omega)
      have hlb1 : (x.l.length : Int) * (x.bs.length : Int) ≤ 350 := by
        have := Int.mul_le_mul (show (x.l.length : Int) ≤ 5 by omega) (show (x.bs.length : Int) ≤ 70 by omega) (by omega) (by omega)
        omega
      have hq : ((ts.length : Int) != (x.l.length : Int) * (x.bs.length : Int)) = false := by rw [hln, Int.natCast_mul]; simp
      clear hln
      have a0 := HK3.out.cell (i := 0) rfl
      have a1 := HK3.out.cell (i := 1) rfl
      have a2 := HK3.out.cell (i := 2) rfl
      have a3 := HK3.out.cell (i := 3) rfl
      go_wp2_with fail
      ((with_reducible refine (lnCheck' HL3.out HS.out H1.out (by omega) hc1 (HR.out.ir HL3.out)).mono ?_); rintro e w4 ⟨rfl, hb4⟩)
      rw [HR.out.check]
      have HB4 := Lib.hid (keepB HB3.out hb4)
      have HK4 := Lib.hid (HK3.out.below hb4 HK3.out.lt)
      have HT4 := Lib.hid (H1.out.go hb4)
      clear hb4 a0 a1 a2 a3 H1 HK3 hq
      go_wp2_with fail
      go_loopw [5, 6, 7, 8, 9, 45] (fun _ _ _ _ _ j wr => ∃ i : Nat, i ≤ ts.length ∧ j = .int .i64 i ∧ Below w4.heap.size w4 wr) (fun _ _ _ _ _ j _ => ts.length - (intOf j).toNat)
      case atStart => exact ⟨0, Nat.zero_le _, rfl, Below.refl _ _⟩
      case round =>
        obtain ⟨i, hi, rfl, hb⟩ := hrel
        have HB := Lib.hid hb
        have HBW := Lib.hid (keepB HB4.out hb)
        have hbs := hb.size
        clear hb
        by_cases hlt : i < ts.length
        · obtain ⟨bt, offt, t, hA, hbt, hd, hat⟩ := HT4.out.at_ HB.out hlt
          obtain ⟨y, o, hy⟩ := HR.out.nth hd
          have htm : t ∈ ts := List.mem_of_getElem? hd
          obtain ⟨c0, c1, c2, c3, c4⟩ := hat
          have hto := hy.op
          have ho := hy.ho
          rw [hto] at c1
          have a0 := (HK4.out.below HB.out HK4.out.lt).cell (i := 0) rfl
          obtain ⟨bo, offo, op, hAo, hbo, hopx, hato⟩ := HL.out.o.at_ (Below.refl _ _) ho
          obtain ⟨_, _, _, ⟨Af, cf, hc3, _, haf⟩, _⟩ := hato
          have hafe := af_at hopx
          have hso := (HS.out.o op (List.mem_of_getElem? hopx)).2.1
          have HRDY : Hid (readyN x.l ts t ts.length = op.after.length) := by
            have := HR.out.ready htm
            rw [hto, Int.toNat_natCast, hafe] at this
            exact Lib.hid this
          have HPRE : Hid (∀ u : Tsk, isPre x.l t u = ((decide (u.tk = t.tk)) && hasB op.after u.op)) := by
            refine Lib.hid fun u => ?_
            unfold isPre
            rw [hto, Int.toNat_natCast, hafe]
          have HY := Lib.hid hy
          have HD := Lib.hid hd
          have HTM := Lib.hid htm
          have HC3 := Lib.hid hc3
          have HAF := Lib.hid haf
          have HAO := Lib.hid hAo
          have i0 : (0 : Int) ≤ (o : Int) := by omega
          have i1 : (o : Int) < (x.l.length : Int) := by omega
          have i2 : ¬ (o : Int) < 0 := by omega
          have k0 : (0 : Int) ≤ (i : Int) := by omega
          have k1 : (i : Int) < (ts.length : Int) := by omega
          have hwz : w.heap.size < wr.heap.size := Nat.lt_of_lt_of_le HK4.out.lt hbs
          have HTO := Lib.hid hto
          subst hA
          clear hd htm hy hto hopx hafe hc3 haf hAo
          go_wp2_with fail
          obtain ⟨w5, hw5, e0, e1, e2, e3, e4, hv5, hb5⟩ := tk_new wr t.tk (o : Int) t.st t.a t.b
          rw [← hw5]
          have HB5 := Lib.hid (keepB HB.out hb5)
          have HBW5 := Lib.hid (keepB HBW.out hb5)
          have HE5 : Hid (w5.cell? ⟨wr.heap.size, 0, none⟩ = some (.int .i64 t.tk) ∧ w5.cell? ⟨wr.heap.size, 1, none⟩ = some (.int .i64 (o : Int)) ∧ w5.cell? ⟨wr.heap.size, 2, none⟩ = some (.int .i64 t.st) ∧ w5.cell? ⟨wr.heap.size, 3, none⟩ = some (.int .i64 t.a) ∧ w5.cell? ⟨wr.heap.size, 4, none⟩ = some (.int .i64 t.b)) := Lib.hid ⟨e0, e1, e2, e3, e4⟩
          clear hw5 hb5 c0 c1 c2 c3 c4 e0 e1 e2 e3 e4 a0
          obtain ⟨wo, rfl⟩ : ∃ wo : World, wo = wr := ⟨_, rfl⟩
          go_loopw [7, 8, 9, 63] (fun v _ _ j wq => ∃ k : Nat, k ≤ ts.length ∧ j = .int .i64 k ∧ v = .int .i64 (readyN x.l ts t k : Nat) ∧ Below w5.heap.size w5 wq) (fun _ _ _ j _ => ts.length - (intOf j).toNat)
          case atStart => exact ⟨0, Nat.zero_le _, rfl, rfl, Below.refl _ _⟩
          case round =>
            obtain ⟨k, hk, rfl, rfl, hb⟩ := hrel
            have HBq := Lib.hid hb
            have hbq := hb.size
            have HBWq := Lib.hid (keepB HBW5.out hb)
            have HB4q := Lib.hid (keepB HB5.out hb)
            have hrd := readyN_le (l := x.l) (ts := ts) t k
            clear hb
            by_cases hlk : k < ts.length
            · obtain ⟨bu, offu, u, hAu, hbu, hdu, hatu⟩ := HT4.out.at_ HB4q.out hlk
              obtain ⟨rfl, rfl⟩ : bu = bt ∧ offu = offt := by injection hAu with h1; injection h1 with h1 h2; exact ⟨h1.symm, h2.symm⟩
              obtain ⟨d0, d1, d2, d3, d4⟩ := hatu
              have q0 : (0 : Int) ≤ (k : Int) := by omega
              have q1 : (k : Int) < (ts.length : Int) := by omega
              have HRY := Lib.hid (readyN_yes (l := x.l) (t := t) hdu)
              have HRN := Lib.hid (readyN_no (l := x.l) (t := t) hdu)
              have HUM := Lib.hid (List.mem_of_getElem? hdu)
              have HBEF : Hid (k < i → u ∈ ts.take i) := Lib.hid fun h => by
                refine List.mem_of_getElem? (i := k) ?_
                rw [List.getElem?_take, if_pos h]; exact hdu
              clear hdu hAu
              go_wp2_with fail
              obtain ⟨w6, hw6, f0, f1, f2, f3, f4, hv6, hb6⟩ := tk_new wr u.tk u.op u.st u.a u.b
              rw [← hw6]
              have HB6 := Lib.hid (keepB HBq.out hb6)
              have HBW6 := Lib.hid (keepB HBWq.out hb6)
              have hb46 := keepB HB4q.out hb6
              have g0 := (HB6.out.cell (p := ⟨wo.heap.size, _, none⟩) hv5).trans HE5.out.1
              have g1 := (HB6.out.cell (p := ⟨wo.heap.size, _, none⟩) hv5).trans HE5.out.2.1
              have g2 := (HB6.out.cell (p := ⟨wo.heap.size, _, none⟩) hv5).trans HE5.out.2.2.1
              have g3 := (HB6.out.cell (p := ⟨wo.heap.size, _, none⟩) hv5).trans HE5.out.2.2.2.1
              have g4 := (HB6.out.cell (p := ⟨wo.heap.size, _, none⟩) hv5).trans HE5.out.2.2.2.2
              have a0 := (HK4.out.below hb46 HK4.out.lt).cell (i := 0) rfl
              have c3 := (HBW6.out.cell (p := ⟨bo, _, none⟩) hbo).trans HC3.out
              rw [HAO.out] at a0
              clear hw6 hb6 hb46 d0 d1 d2 d3 d4
              have hcase : ((u.tk == t.tk) = false ∧ isPre x.l t u = false) ∨ ((u.tk == t.tk) = true ∧ isPre x.l t u = false ∧ hasB op.after u.op = false) ∨ ((u.tk == t.tk) = true ∧ isPre x.l t u = true ∧ hasB op.after u.op = true ∧ ¬ t.a < u.b) := by
                have hp := HPRE.out u
                by_cases e : u.tk = t.tk
                · cases hh : hasB op.after u.op with
                  | false => exact .inr (.inl ⟨by simpa using e, by rw [hp, hh]; simp, rfl⟩)
                  | true =>
                    have hpt : isPre x.l t u = true := by rw [hp, hh]; simpa using e
                    have := HR.out.pre_end HTM.out HUM.out hpt
                    exact .inr (.inr ⟨by simpa using e, hpt, rfl, by omega⟩)
                · exact .inl ⟨by simpa using e, by rw [hp]; simp [e]⟩
              have hkey : k < i → (u.tk == t.tk) = true → (u.op == (o : Int)) = false := fun h1 h2 => by
                have := HY.out.new (HBEF.out h1)
                rw [HTO.out] at this
                simp only [beq_iff_eq] at h2
                simp only [beq_eq_false_iff_ne]
                exact fun e => this ⟨h2, e⟩
              have hap : k < i → (u.st == t.st) = true → ¬ t.a < u.b := fun h1 h2 => by
                have := HY.out.apart (HBEF.out h1) (by simpa using h2)
                omega
              have hst : k < i ∧ (u.st == t.st) = false ∨ k < i ∧ (u.st == t.st) = true ∧ u.a < t.b ∨ k < i ∧ (u.st == t.st) = true ∧ ¬ u.a < t.b ∨ ¬ k < i := by
                by_cases h1 : k < i
                · cases h2 : (u.st == t.st) with
                  | false => exact .inl ⟨h1, rfl⟩
                  | true =>
                    by_cases h3 : u.a < t.b
                    · exact .inr (.inl ⟨h1, rfl, h3⟩)
                    · exact .inr (.inr (.inl ⟨h1, rfl, h3⟩))
                · exact .inr (.inr (.inr h1))
              have HKEY := Lib.hid hkey
              have HAP := Lib.hid hap
              clear hkey hap
              rcases hcase with ⟨m1, m2⟩ | ⟨m1, m2, m3⟩ | ⟨m1, m2, m3, m4⟩
              · have HN := Lib.hid (HRN.out m2)
                clear m2
                rcases hst with ⟨n1, n2⟩ | ⟨n1, n2, n3⟩ | ⟨n1, n2, n3⟩ | n1
                · go_quiet (fail)
                  go_wp2_with fail
                  go_roundw
                  case rel => exact ⟨k + 1, by omega, by go_num, by rw [HN.out], below_drewN HB6.out _⟩
                  case measure => simp [intOf]; omega
                · have n4 := HAP.out n1 n2
                  go_quiet (fail)
                  go_wp2_with fail
                  go_roundw
                  case rel => exact ⟨k + 1, by omega, by go_num, by rw [HN.out], below_drewN HB6.out _⟩
                  case measure => simp [intOf]; omega
                · go_quiet (fail)
                  go_wp2_with fail
                  go_roundw
                  case rel => exact ⟨k + 1, by omega, by go_num, by rw [HN.out], below_drewN HB6.out _⟩
                  case measure => simp [intOf]; omega
                · go_quiet (fail)
                  go_wp2_with fail
                  go_roundw
                  case rel => exact ⟨k + 1, by omega, by go_num, by rw [HN.out], below_drewN HB6.out _⟩
                  case measure => simp [intOf]; omega
              · have HN := Lib.hid (HRN.out m2)
                have HH : Hid (∀ n, Calls Try.prog 18 #[.slice Af op.after.length cf, .int .i64 u.op] (w6.drewN n) fun e w' => e = .returned (.bool false) ∧ w' = w6.drewN n) :=
                  Lib.hid fun n => (has49_any Af cf op.after u.op (w6.drewN n) (HAF.out.go (below_drewN HBW6.out n)) (by omega)).mono fun e w' ⟨he, hw⟩ => ⟨by rw [he, m3], hw.symm⟩
                clear m2 m3
                rcases hst with ⟨n1, n2⟩ | ⟨n1, n2, n3⟩ | ⟨n1, n2, n3⟩ | n1
                · have n5 := HKEY.out n1 m1
                  go_quiet ((go_at_call 18; exact Calls.quiet_of_same (HH.out _)))
                  go_wp2_with fail
                  go_roundw
                  case rel => exact ⟨k + 1, by omega, by go_num, by rw [HN.out], below_drewN HB6.out _⟩
                  case measure => simp [intOf]; omega
                · have n5 := HKEY.out n1 m1
                  have n4 := HAP.out n1 n2
                  go_quiet ((go_at_call 18; exact Calls.quiet_of_same (HH.out _)))
                  go_wp2_with fail
                  go_roundw
                  case rel => exact ⟨k + 1, by omega, by go_num, by rw [HN.out], below_drewN HB6.out _⟩
                  case measure => simp [intOf]; omega
                · have n5 := HKEY.out n1 m1
                  go_quiet ((go_at_call 18; exact Calls.quiet_of_same (HH.out _)))
                  go_wp2_with fail
                  go_roundw
                  case rel => exact ⟨k + 1, by omega, by go_num, by rw [HN.out], below_drewN HB6.out _⟩
                  case measure => simp [intOf]; omega
                · go_quiet ((go_at_call 18; exact Calls.quiet_of_same (HH.out _)))
                  go_wp2_with fail
                  go_roundw
                  case rel => exact ⟨k + 1, by omega, by go_num, by rw [HN.out], below_drewN HB6.out _⟩
                  case measure => simp [intOf]; omega
              · have HN := Lib.hid (HRY.out m2)
                have HH : Hid (∀ n, Calls Try.prog 18 #[.slice Af op.after.length cf, .int .i64 u.op] (w6.drewN n) fun e w' => e = .returned (.bool true) ∧ w' = w6.drewN n) :=
                  Lib.hid fun n => (has49_any Af cf op.after u.op (w6.drewN n) (HAF.out.go (below_drewN HBW6.out n)) (by omega)).mono fun e w' ⟨he, hw⟩ => ⟨by rw [he, m3], hw.symm⟩
                clear m2 m3
                rcases hst with ⟨n1, n2⟩ | ⟨n1, n2, n3⟩ | ⟨n1, n2, n3⟩ | n1
                · have n5 := HKEY.out n1 m1
                  go_quiet ((go_at_call 18; exact Calls.quiet_of_same (HH.out _)))
                  go_wp2_with fail
                  go_roundw
                  case rel => exact ⟨k + 1, by omega, by go_num, by rw [HN.out]; go_num, below_drewN HB6.out _⟩
                  case measure => simp [intOf]; omega
                · have n5 := HKEY.out n1 m1
                  go_quiet ((go_at_call 18; exact Calls.quiet_of_same (HH.out _)))
                  go_wp2_with fail
                  go_roundw
                  case rel => exact ⟨k + 1, by omega, by go_num, by rw [HN.out]; go_num, below_drewN HB6.out _⟩
                  case measure => simp [intOf]; omega
                · have n5 := HKEY.out n1 m1
                  go_quiet ((go_at_call 18; exact Calls.quiet_of_same (HH.out _)))
                  go_wp2_with fail
                  go_roundw
                  case rel => exact ⟨k + 1, by omega, by go_num, by rw [HN.out]; go_num, below_drewN HB6.out _⟩
                  case measure => simp [intOf]; omega
                · go_quiet ((go_at_call 18; exact Calls.quiet_of_same (HH.out _)))
                  go_wp2_with fail
                  go_roundw
                  case rel => exact ⟨k + 1, by omega, by go_num, by rw [HN.out]; go_num, below_drewN HB6.out _⟩
                  case measure => simp [intOf]; omega
            · obtain rfl : ts.length = k := by omega
              rw [HRDY.out]
              have g1 := (HBq.out.cell (p := ⟨wo.heap.size, _, none⟩) hv5).trans HE5.out.2.1
              have a0 := (HK4.out.below HB4q.out HK4.out.lt).cell (i := 0) rfl
              have c3 := (HBWq.out.cell (p := ⟨bo, _, none⟩) hbo).trans HC3.out
              rw [HAO.out] at a0
              go_wp2_with fail
              go_roundw
              case rel => exact ⟨i + 1, by omega, by go_num, HB4q.out⟩
              case measure => simp [intOf]; omega
        · obtain rfl : ts.length = i := by omega
          go_wp2_with fail
          ((with_reducible refine (ex49_any _).mono ?_); rintro e w5 ⟨rfl, hb5⟩)
          have HB5 := Lib.hid (keepB HBW.out hb5)
          clear hb5
          go_wp2_with fail
          go_ret
          exact ⟨rfl, HB5.out⟩

end Go.Proofs.Ytelgkangojmhdaa
