/- The laws FlowSimulates, FlowChecks, FlowSpans: their walks. -/
import Derived.Test.YtelgkangojmhdaaFlowEx2
namespace Go.Proofs.Ytelgkangojmhdaa
open Go.RowKit

theorem simRes_len {x : Ln} (h : LnSm x) : (simRes x.l x.ss x.bs x.ds).2.length ≤ 350 := by
  rcases simRes_cases x.l x.ss x.bs x.ds with ⟨_, h1⟩ | ⟨_, at_, h1⟩
  · rw [h1]; simp
  · rw [h1.len]
    exact Nat.le_trans (Nat.mul_le_mul h.l h.b) (by omega)
section
variable {x : Ln} {w : World}
theorem lnFew' (h : LnOk w x) : Calls Try.prog 12 #[.agg #[.slice x.A x.l.length x.cap, .slice x.S x.ss.length x.capS, .slice x.Ab x.bs.length x.capB, .slice x.D x.ds.length x.capD]] w fun e w' => e = .returned (.bool (fewL x)) ∧ Below w.heap.size w w' := lnFew_any x w h
theorem lnSim' (h : LnOk w x) (hs : LnSm x) : Calls Try.prog 14 #[.agg #[.slice x.A x.l.length x.cap, .slice x.S x.ss.length x.capS, .slice x.Ab x.bs.length x.capB, .slice x.D x.ds.length x.capD]] w fun e w' => SimPost (simRes x.l x.ss x.bs x.ds) e w' ∧ Below w.heap.size w w' := lnSim_any x w h hs
theorem lnCheck' (h : LnOk w x) (hs : LnSm x) {Tk : Option Addr} {capT : Nat} {ts : List Tsk} (hT : TRd w w.heap.size Tk ts) (htl : ts.length ≤ 1000) (htc : ts.length ≤ capT) (htr : ∀ t ∈ ts, IR t.tk ∧ IR t.op) :
    Calls Try.prog 25 #[.agg #[.slice x.A x.l.length x.cap, .slice x.S x.ss.length x.capS, .slice x.Ab x.bs.length x.capB, .slice x.D x.ds.length x.capD], .slice Tk ts.length capT] w fun e w' => e = .returned (.int .i64 (chkF x.l x.ss x.bs x.ds ts)) ∧ Below w.heap.size w w' := lnCheck_any x Tk capT ts w h hs hT htl htc htr
/-- The box of a line. -/
theorem lnBox (x : Ln) (w : World) : ∃ W, W = w.alloc (.cells #[.slice x.A x.l.length x.cap, .slice x.S x.ss.length x.capS, .slice x.Ab x.bs.length x.capB, .slice x.D x.ds.length x.capD] 27) ∧ Blk W w.heap.size 27 [.slice x.A x.l.length x.cap, .slice x.S x.ss.length x.capS, .slice x.Ab x.bs.length x.capB, .slice x.D x.ds.length x.capD] ∧ Below w.heap.size w W :=
  ⟨_, rfl, Blk.new _ _ _, below_new _ _⟩
end

set_option maxRecDepth 100000 in
set_option maxHeartbeats 2000000 in
theorem flowSimulates_walk (x : Ln) (w : World) (h : LnOk w x) : Calls Try.prog 5 #[x.val] w fun e w' => e = .returned (.bool true) ∧ Below w.heap.size w w' := by
  unfold Ln.val
  have HL := Lib.hid h
  clear h
  go_enter Try.func5, Try.ntmps5
  go_wp2_with fail
  obtain ⟨w1, hw1, hk1, hb1⟩ := lnBox x w
  rw [← hw1]
  have HK1 := Lib.hid hk1
  have HB1 := Lib.hid hb1
  have HL1 := Lib.hid (HL.out.go hb1)
  clear hw1 hk1 hb1
  ((with_reducible refine (lnFew' HL1.out).mono ?_); rintro e w2 ⟨rfl, hb2⟩)
  have HB2 := Lib.hid (keepB HB1.out hb2)
  have HL2 := Lib.hid (HL1.out.go hb2)
  have HK2 := Lib.hid (HK1.out.below hb2 HK1.out.lt)
  clear hb2
  cases hf : fewL x with
  | false =>
    clear hf
    go_wp2_with fail
    ((with_reducible refine (ex49_any _).mono ?_); rintro e w3 ⟨rfl, hb3⟩)
    have HB3 := Lib.hid (keepB HB2.out hb3)
    clear hb3
    go_wp2_with fail
    go_ret
    exact ⟨rfl, HB3.out⟩
  | true =>
    have HS := Lib.hid (fewL_ok hf)
    have hl5 := (fewL_ok hf).l
    have hb70 := (fewL_ok hf).b
    have hd21 := (fewL_ok hf).d
    have hlen := simRes_len HS.out
    clear hf
    have a0 := HK2.out.cell (i := 0) rfl
    have a1 := HK2.out.cell (i := 1) rfl
    have a2 := HK2.out.cell (i := 2) rfl
    have a3 := HK2.out.cell (i := 3) rfl
    go_wp2_with fail
    ((with_reducible refine (lnSim' HL2.out HS.out).mono ?_); rintro e w3 ⟨⟨A1, c1, rfl, h1, _⟩, hb3⟩)
    have HB3 := Lib.hid (keepB HB2.out hb3)
    have HL3 := Lib.hid (HL2.out.go hb3)
    have HK3 := Lib.hid (HK2.out.below hb3 HK2.out.lt)
    have H1 := Lib.hid h1
    clear hb3 h1 a0 a1 a2 a3
    have a0 := HK3.out.cell (i := 0) rfl
    have a1 := HK3.out.cell (i := 1) rfl
    have a2 := HK3.out.cell (i := 2) rfl
    have a3 := HK3.out.cell (i := 3) rfl
    go_wp2_with fail
    ((with_reducible refine (refSimulate_any x.A x.cap x.l x.S x.capS x.ss x.Ab x.capB x.bs x.D x.capD x.ds _ HL3.out.o (by omega) HS.out.o HL3.out.s HS.out.s HL3.out.b (by omega) HL3.out.br HL3.out.d (by omega)).mono ?_); rintro e w4 ⟨⟨A2, c2, rfl, h2, _⟩, hb4⟩)
    have HB4 := Lib.hid (keepB HB3.out hb4)
    have H2 := Lib.hid h2
    have H1' := Lib.hid (H1.out.go hb4)
    clear hb4 h2 a0 a1 a2 a3 H1
    generalize simRes x.l x.ss x.bs x.ds = R at *
    have he : (R.1 == R.1) = true := by simp
    go_wp2_with fail
    ((with_reducible refine (sameT_any A1 A2 c1 c2 R.2 R.2 _ H1'.out H2.out (by omega) (by omega) rfl).mono ?_); rintro e w5 ⟨rfl, hb5⟩)
    have HB5 := Lib.hid (keepB HB4.out hb5)
    clear hb5
    go_wp2_with fail
    ((with_reducible refine (ex49_any _).mono ?_); rintro e w6 ⟨rfl, hb6⟩)
    have HB6 := Lib.hid (keepB HB5.out hb6)
    clear hb6
    go_wp2_with fail
    go_ret
    exact ⟨rfl, HB6.out⟩

set_option maxRecDepth 100000 in
set_option maxHeartbeats 2000000 in
theorem flowChecks_walk (x : Ln) (Tk : Option Addr) (capT : Nat) (ts : List Tsk) (w : World) (h : LnOk w x) (hT : TRd w w.heap.size Tk ts) (htc : ts.length ≤ capT) (_hcm : capT ≤ 9223372036854775807) (htr : ∀ t ∈ ts, IR t.tk ∧ IR t.op) :
    Calls Try.prog 6 #[x.val, .slice Tk ts.length capT] w fun e w' => e = .returned (.bool true) ∧ Below w.heap.size w w' := by
  unfold Ln.val
  have HL := Lib.hid h
  have HT := Lib.hid hT
  have HTR := Lib.hid htr
  clear h hT htr
  go_enter Try.func6, Try.ntmps6
  go_wp2_with fail
  obtain ⟨w1, hw1, hk1, hb1⟩ := lnBox x w
  rw [← hw1]
  have HK1 := Lib.hid hk1
  have HB1 := Lib.hid hb1
  have HL1 := Lib.hid (HL.out.go hb1)
  clear hw1 hk1 hb1
  ((with_reducible refine (lnFew' HL1.out).mono ?_); rintro e w2 ⟨rfl, hb2⟩)
  have HB2 := Lib.hid (keepB HB1.out hb2)
  have HL2 := Lib.hid (HL1.out.go hb2)
  have HK2 := Lib.hid (HK1.out.below hb2 HK1.out.lt)
  clear hb2
  cases hf : fewL x with
  | false =>
    clear hf
    go_wp2_with fail
    ((with_reducible refine (ex49_any _).mono ?_); rintro e w3 ⟨rfl, hb3⟩)
    have HB3 := Lib.hid (keepB HB2.out hb3)
    clear hb3
    go_wp2_with fail
    go_ret
    exact ⟨rfl, HB3.out⟩
  | true =>
    have HS := Lib.hid (fewL_ok hf)
    have hl5 := (fewL_ok hf).l
    have hb70 := (fewL_ok hf).b
    have hd21 := (fewL_ok hf).d
    clear hf
    by_cases h40 : 40 < ts.length
    · go_wp2_with fail
      ((with_reducible refine (ex49_any _).mono ?_); rintro e w3 ⟨rfl, hb3⟩)
      have HB3 := Lib.hid (keepB HB2.out hb3)
      clear hb3
      go_wp2_with fail
      go_ret
      exact ⟨rfl, HB3.out⟩
    · have HT2 := Lib.hid (HT.out.go HB2.out)
      have HKK : Hid (∀ wx, Below w2.heap.size w2 wx → (wx.cell? ⟨w.heap.size, 0, none⟩ = some (.slice x.A x.l.length x.cap) ∧ wx.cell? ⟨w.heap.size, 1, none⟩ = some (.slice x.S x.ss.length x.capS) ∧ wx.cell? ⟨w.heap.size, 2, none⟩ = some (.slice x.Ab x.bs.length x.capB) ∧ wx.cell? ⟨w.heap.size, 3, none⟩ = some (.slice x.D x.ds.length x.capD)) ∧ Below w2.heap.size w2 wx) :=
        Lib.hid fun wx hb => ⟨⟨(HK2.out.below hb HK2.out.lt).cell (i := 0) rfl, (HK2.out.below hb HK2.out.lt).cell (i := 1) rfl, (HK2.out.below hb HK2.out.lt).cell (i := 2) rfl, (HK2.out.below hb HK2.out.lt).cell (i := 3) rfl⟩, hb⟩
      have HC1 : Hid (∀ wx, Below w2.heap.size w2 wx → Calls Try.prog 25 #[.agg #[.slice x.A x.l.length x.cap, .slice x.S x.ss.length x.capS, .slice x.Ab x.bs.length x.capB, .slice x.D x.ds.length x.capD], .slice Tk ts.length capT] wx fun e w' => e = .returned (.int .i64 (chkF x.l x.ss x.bs x.ds ts)) ∧ Below wx.heap.size wx w') :=
        Lib.hid fun wx hb => lnCheck' (HL2.out.go hb) HS.out (HT2.out.go hb) (by omega) htc HTR.out
      have HC2 : Hid (∀ wx, Below w2.heap.size w2 wx → Calls Try.prog 26 #[.slice x.A x.l.length x.cap, .slice x.S x.ss.length x.capS, .slice x.Ab x.bs.length x.capB, .slice x.D x.ds.length x.capD, .slice Tk ts.length capT] wx fun e w' => e = .returned (.int .i64 (chkF x.l x.ss x.bs x.ds ts)) ∧ Below wx.heap.size wx w') :=
        Lib.hid fun wx hb => refCheck49_any x.A x.cap x.l x.S x.capS x.ss x.Ab x.capB x.bs x.D x.capD x.ds Tk capT ts wx (HL2.out.go hb).o (by omega) HS.out.o (HL2.out.go hb).s HS.out.s (HL2.out.go hb).b (by omega) HL2.out.br (HL2.out.go hb).d (by omega) (HT2.out.go hb) (by omega) htc
      generalize chkF x.l x.ss x.bs x.ds ts = R at *
      have he : (R == R) = true := by simp
      go_wp2_with fail
      go_region_held3 (fun wx => (wx.cell? ⟨w.heap.size, 0, none⟩ = some (.slice x.A x.l.length x.cap) ∧ wx.cell? ⟨w.heap.size, 1, none⟩ = some (.slice x.S x.ss.length x.capS) ∧ wx.cell? ⟨w.heap.size, 2, none⟩ = some (.slice x.Ab x.bs.length x.capB) ∧ wx.cell? ⟨w.heap.size, 3, none⟩ = some (.slice x.D x.ds.length x.capD)) ∧ Below w2.heap.size w2 wx)
        (first | exact HKK.out _ (Below.refl _ _).drew | (go_split_ands; exact HKK.out _ (keepB (by assumption) hb7)))
        (first | (go_at_call 25; refine (HC1.out _ ?_).mono ?_; (go_split_ands; assumption); rintro e w7 ⟨rfl, hb7⟩) | (go_at_call 26; refine (HC2.out _ ?_).mono ?_; (go_split_ands; assumption); rintro e w7 ⟨rfl, hb7⟩) | (go_at_call 13; refine (ex49_any _).mono ?_; rintro e w7 ⟨rfl, hb7⟩))
      all_goals
        rename_i hSl
        have HBZ := Lib.hid (keepB HB2.out hSl.2)
        clear hSl
        go_wp2_with fail
        go_ret
        exact ⟨rfl, HBZ.out⟩

set_option maxRecDepth 100000 in
set_option maxHeartbeats 2000000 in
theorem flowSpans_walk (Tk : Option Addr) (capT : Nat) (ts : List Tsk) (w : World) (hT : TRd w w.heap.size Tk ts) (htc : ts.length ≤ capT) (_hcm : capT ≤ 9223372036854775807) :
    Calls Try.prog 7 #[.slice Tk ts.length capT] w fun e w' => e = .returned (.bool true) ∧ Below w.heap.size w w' := by
  have HT := Lib.hid hT
  clear hT
  by_cases h300 : 300 < ts.length
  · go_enter Try.func7, Try.ntmps7
    go_wp2_with fail
    ((with_reducible refine (ex49_any _).mono ?_); rintro e w3 ⟨rfl, hb3⟩)
    have HB3 := Lib.hid hb3
    clear hb3
    go_wp2_with fail
    go_ret
    exact ⟨rfl, HB3.out⟩
  · go_enter Try.func7, Try.ntmps7
    go_wp2_with fail
    ((with_reducible refine (makespan_any Tk capT ts _ HT.out (by omega)).mono ?_); rintro e w1 ⟨rfl, hb1⟩)
    have HB1 := Lib.hid hb1
    clear hb1
    by_cases h0 : ts.length = 0
    · have hn : ts = [] := List.length_eq_zero_iff.1 h0
      subst hn
      rw [show spanOf [] = 0 from rfl]
      clear h0
      go_wp2_with fail
      ((with_reducible refine (ex49_any _).mono ?_); rintro e w3 ⟨rfl, hb3⟩)
      have HB3 := Lib.hid (keepB HB1.out hb3)
      clear hb3
      go_wp2_with fail
      go_ret
      exact ⟨rfl, HB3.out⟩
    · have hne : ((ts.length : Int) == 0) = false := by simp; exact fun e => h0 (by rw [e]; rfl)
      have HGE : Hid (∀ t ∈ ts, t.b ≤ spanOf ts) := Lib.hid fun t ht => span_ge ht
      have HIS : Hid (ts.any (fun t => t.b == spanOf ts) = true) := by
        obtain ⟨t, ht, e⟩ := span_is (ts := ts) (by intro e; rw [e] at h0; exact h0 rfl)
        exact Lib.hid (List.any_eq_true.2 ⟨t, ht, by simpa using e⟩)
      clear h0
      generalize spanOf ts = n at *
      go_wp2_with fail
      go_loopw [4, 6, 23] (fun v _ j wr => ∃ i : Nat, i ≤ ts.length ∧ j = .int .i64 i ∧ v = .bool ((ts.take i).any fun t => t.b == n) ∧ Below w.heap.size w wr) (fun _ _ j _ => ts.length - (intOf j).toNat)
      case atStart => exact ⟨0, Nat.zero_le _, rfl, rfl, HB1.out⟩
      case round =>
        obtain ⟨i, hi, rfl, rfl, hb⟩ := hrel
        have HB := Lib.hid hb
        have hbs := hb.size
        clear hb
        by_cases hlt : i < ts.length
        · obtain ⟨b, off, t, hA, hB, hd, hat⟩ := HT.out.at_ HB.out hlt
          obtain ⟨c0, c1, c2, c3, c4⟩ := hat
          have hle := HGE.out t (List.mem_of_getElem? hd)
          have HN : Hid ((ts.take (i + 1)).any (fun t => t.b == n) = (((ts.take i).any fun t => t.b == n) || (t.b == n))) := by show _ = _; rw [take_tk hd, List.any_append]; simp
          have hle2 : ¬ n < t.b := by omega
          subst hA
          clear hd
          cases hv : ((ts.take i).any fun t => t.b == n) with
          | true =>
            rw [hv] at HN
            clear hv
            go_wp2_with fail
            go_roundw
            case rel => exact ⟨i + 1, by omega, by go_num, by rw [HN.out]; rfl, HB.out.alloc hbs _⟩
            case measure => simp [intOf]; omega
          | false =>
            rw [hv] at HN
            clear hv
            go_wp2_with fail
            go_roundw
            case rel => exact ⟨i + 1, by omega, by go_num, by rw [HN.out]; rfl, HB.out.alloc hbs _⟩
            case measure => simp [intOf]; omega
        · obtain rfl : ts.length = i := by omega
          rw [List.take_length, HIS.out]
          go_wp2_with fail
          ((with_reducible refine (ex49_any _).mono ?_); rintro e w3 ⟨rfl, hb3⟩)
          have HB3 := Lib.hid (keepB HB.out hb3)
          clear hb3
          go_wp2_with fail
          go_ret
          exact ⟨rfl, HB3.out⟩
end Go.Proofs.Ytelgkangojmhdaa
