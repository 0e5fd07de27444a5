/- The walks of convex.Inside and of the reference's Interior. -/
import Derived.Test.YtopmolpnmpchoaaCvTwice
import Derived.Test.YtopmolpnmpchoaaCvTop1
namespace Go.Proofs.Ytopmolpnmpchoaa
open Go.RowKit

def insV (l : List Pt) (q : Pt) : Bool := decide (hullE l = 0) && insB (hullV l) q
theorem insB_out {h : List Pt} {q : Pt} (hq : ¬ In 4194304 q) : insB h q = false := by unfold insB; rw [decide_eq_false hq]; rfl
theorem insB_no {h : List Pt} {q : Pt} {k : Nat} (hk : k < h.length) (hc : crs (rd h k) (rd h (k + 1)) q ≤ 0) : insB h q = false := by
  unfold insB
  rw [decide_eq_false (p := leftOf h q)]
  · simp
  · intro hl; have := hl k hk; omega
theorem insB_yes {h : List Pt} {q : Pt} (hq : In 4194304 q) (hl : leftOf h q) : insB h q = true := by unfold insB; rw [decide_eq_true hq, decide_eq_true hl]; rfl
def leftTo (h : List Pt) (q : Pt) (k : Nat) : Prop := ∀ i, i < k → 0 < crs (rd h i) (rd h (i + 1)) q
theorem leftTo_step {h : List Pt} {q : Pt} {k : Nat} (hl : leftTo h q k) (hc : ¬ crs (rd h k) (rd h (k + 1)) q ≤ 0) : leftTo h q (k + 1) := by
  intro i hi
  by_cases e : i = k
  · subst e; omega
  · exact hl i (by omega)

set_option maxRecDepth 100000 in
set_option maxHeartbeats 4000000 in
theorem interior_any (A : Option Addr) (cap : Nat) (h : List Pt) (q : Pt) (w : World) (hs : PRd w w.heap.size A h) (hin : allIn h = true) (hn : h.length ≤ 1000000) :
    Calls Try.prog 37 #[.slice A h.length cap, .agg #[.int .i64 q.x, .int .i64 q.y]] w fun e w' => e = .returned (.bool (insB h q)) ∧ Below w.heap.size w w' := by
  have H := hid hs
  have HIN := hid (bd_of hin)
  clear hs hin
  have HB0 := hid (below1 w (.cells #[.int .i64 q.x, .int .i64 q.y] 31))
  go_enter Try.func37, Try.ntmps37
  go_wp2_with fail
  ((with_reducible refine (within_any q 4194304 _ (by decide) (by decide)).mono ?_); rintro e w1 ⟨rfl, hb1⟩)
  have HB1 := hid (HB0.out.trans (hb1.mono HB0.out.size))
  have q0 : w1.cell? ⟨w.heap.size, 0, none⟩ = some (.int .i64 q.x) := (hb1.cell (p := ⟨w.heap.size, 0, none⟩) (by simp)).trans (by simp [go_sem])
  have q1 : w1.cell? ⟨w.heap.size, 1, none⟩ = some (.int .i64 q.y) := (hb1.cell (p := ⟨w.heap.size, 1, none⟩) (by simp)).trans (by simp [go_sem])
  have hs1 : w.heap.size < w1.heap.size := by have := hb1.size; simp at this; omega
  clear hb1
  by_cases hq : In 4194304 q
  · have hdec : decide (In 4194304 q) = true := decide_eq_true hq
    have HQ := hid hq
    have HQ8 := hid (hq.more (show (4194304 : Int) ≤ 8388608 by decide))
    clear hq
    go_wp2_with fail
    go_loopw [5] (fun i wr => ∃ k : Nat, k ≤ h.length ∧ i = .int .i64 k ∧ Hid (leftTo h q k) ∧ Hid (Below w1.heap.size w1 wr)) (fun i _ => h.length - (intOf i).toNat)
    case atStart => exact ⟨0, Nat.zero_le _, rfl, fun i hi => by omega, Below.refl _ _⟩
    case round =>
      obtain ⟨k, hk, rfl, HL, HB⟩ := hrel
      by_cases hlt : k < h.length
      · have HBW := hid (HB1.out.trans (HB.out.mono HB1.out.size))
        obtain ⟨b, off, p, hA, hB, hd, c0, c1⟩ := H.out.at_ HBW.out hlt
        obtain ⟨j, r, hj, hr, hm1, hm2, d0, d1⟩ := H.out.next_ HBW.out hA hlt
        subst hA
        have hp := rd_at hd
        have hpi := rd_in HIN.out (i := k) (by omega)
        have hri := rd_in HIN.out (i := k + 1) (by omega)
        have HNO := hid (insB_no (q := q) hlt)
        have HYES := hid (leftTo_step HL.out)
        rw [hp, hr] at HNO HYES
        rw [hp] at hpi
        rw [hr] at hri
        have HCR : Hid (∀ wx, Calls Try.prog 25 #[.agg #[.int .i64 p.x, .int .i64 p.y], .agg #[.int .i64 r.x, .int .i64 r.y], .agg #[.int .i64 q.x, .int .i64 q.y]] wx fun e w' => e = .returned (.int .i64 (crs p r q)) ∧ Below wx.heap.size wx w') := fun wx => refCross_any p r q wx hpi hri HQ8.out
        have hbw : b < wr.heap.size := by have := HBW.out.size; omega
        have hqw : w.heap.size < wr.heap.size := by have := HB.out.size; omega
        have q2 := (HB.out.cell (p := ⟨w.heap.size, 0, none⟩) hs1).trans q0
        have q3 := (HB.out.cell (p := ⟨w.heap.size, 1, none⟩) hs1).trans q1
        have HK : Hid (∀ wx, Below wr.heap.size wr wx → (wx.cell? ⟨b, off + k * 2, none⟩ = some (.int .i64 p.x) ∧ wx.cell? ⟨b, off + k * 2 + 1, none⟩ = some (.int .i64 p.y) ∧ wx.cell? ⟨b, off + j * 2, none⟩ = some (.int .i64 r.x) ∧ wx.cell? ⟨b, off + j * 2 + 1, none⟩ = some (.int .i64 r.y) ∧ wx.cell? ⟨w.heap.size, 0, none⟩ = some (.int .i64 q.x) ∧ wx.cell? ⟨w.heap.size, 1, none⟩ = some (.int .i64 q.y)) ∧ Below wr.heap.size wr wx) :=
          fun wx hb => ⟨⟨(hb.cell (p := ⟨b, _, none⟩) hbw).trans c0, (hb.cell (p := ⟨b, _, none⟩) hbw).trans c1, (hb.cell (p := ⟨b, _, none⟩) hbw).trans d0, (hb.cell (p := ⟨b, _, none⟩) hbw).trans d1, (hb.cell (p := ⟨w.heap.size, _, none⟩) hqw).trans q2, (hb.cell (p := ⟨w.heap.size, _, none⟩) hqw).trans q3⟩, hb⟩
        clear hd hp hr hpi hri
        have i0 : (0 : Int) ≤ (k : Int) := by omega
        have i1 : (k : Int) < (h.length : Int) := by omega
        have i2 : (0 : Int) ≤ (j : Int) := by omega
        have i3 : (j : Int) < (h.length : Int) := by omega
        have hw1 : IntKind.i64.wrap ((k : Int) + 1) = (k : Int) + 1 := by rw [IntWalk.i64_in _ (by omega)]
        have hw2 : IntKind.i64.wrap (j : Int) = (j : Int) := by rw [IntWalk.i64_in _ (by omega)]
        have n1 : ¬ h = [] := by intro e; rw [e] at hlt; simp at hlt
        go_wp2_with fail
        go_region_held3 (fun wx => (wx.cell? ⟨b, off + k * 2, none⟩ = some (.int .i64 p.x) ∧ wx.cell? ⟨b, off + k * 2 + 1, none⟩ = some (.int .i64 p.y) ∧ wx.cell? ⟨b, off + j * 2, none⟩ = some (.int .i64 r.x) ∧ wx.cell? ⟨b, off + j * 2 + 1, none⟩ = some (.int .i64 r.y) ∧ wx.cell? ⟨w.heap.size, 0, none⟩ = some (.int .i64 q.x) ∧ wx.cell? ⟨w.heap.size, 1, none⟩ = some (.int .i64 q.y)) ∧ Below wr.heap.size wr wx)
          (first | exact HK.out _ (Below.refl _ _).drew | (go_split_ands; exact HK.out _ (keepB (by assumption) hb7)))
          (first | (go_at_call 25; refine (HCR.out _).mono ?_; rintro e w7 ⟨rfl, hb7⟩))
        rename_i hSl
        have HBZ := hid (HB.out.trans (hSl.2.mono HB.out.size))
        clear hSl hb7 HK HCR q2 q3 c0 c1 d0 d1
        generalize crs p r q = c at *
        by_cases hc : c ≤ 0
        · have HN := hid (HNO.out hc)
          clear HNO HYES
          go_wp2
          go_ret
          exact ⟨ret_bool HN.out.symm, HB1.out.trans (HBZ.out.mono HB1.out.size)⟩
        · have HY := hid (HYES.out (by omega))
          clear HNO HYES
          go_wp2_with fail
          go_roundw
          case rel => exact ⟨k + 1, by omega, by go_num, HY.out, HBZ.out⟩
          case measure => simp [intOf]; omega
      · obtain rfl : h.length = k := by omega
        have HY := hid (insB_yes HQ.out HL.out)
        go_wp2
        go_ret
        exact ⟨ret_bool HY.out.symm, HB1.out.trans (HB.out.mono HB1.out.size)⟩
  · have hdec : decide (In 4194304 q) = false := decide_eq_false hq
    have HE := hid (insB_out (h := h) hq)
    clear hq
    go_wp2
    go_ret
    exact ⟨ret_bool HE.out.symm, HB1.out⟩
theorem insV_no {l : List Pt} {q : Pt} (h : hullE l ≠ 0) : insV l q = false := by unfold insV; rw [decide_eq_false h]; rfl
theorem insV_is {l : List Pt} {q : Pt} (h : hullE l = 0) : insV l q = insB (hullV l) q := by unfold insV; rw [decide_eq_true h]; rfl

set_option maxRecDepth 100000 in
set_option maxHeartbeats 4000000 in
theorem inside_any (A : Option Addr) (cap : Nat) (l : List Pt) (q : Pt) (w : World) (hs : PSl w A cap l) (hm : l.length ≤ 9223372036854775807) :
    Calls Try.prog 18 #[.slice A l.length cap, .agg #[.int .i64 q.x, .int .i64 q.y]] w fun e w' => e = .returned (.tuple #[.bool (insV l q), .int .i64 (hullE l)]) ∧ Below w.heap.size w w' := by
  have HB0 := hid (below1 w (.cells #[.int .i64 q.x, .int .i64 q.y] 31))
  have H := hid (hs.keep HB0.out)
  clear hs
  go_enter Try.func18, Try.ntmps18
  go_wp2_with fail
  ((with_reducible refine (Hull_any A cap l _ H.out hm).mono ?_); rintro e w1 ⟨⟨A1, c1, rfl, hs1⟩, hb1⟩)
  have HB1 := hid (HB0.out.trans (hb1.mono HB0.out.size))
  have q0 : w1.cell? ⟨w.heap.size, 0, none⟩ = some (.int .i64 q.x) := (hb1.cell (p := ⟨w.heap.size, 0, none⟩) (by simp)).trans (by simp [go_sem])
  have q1 : w1.cell? ⟨w.heap.size, 1, none⟩ = some (.int .i64 q.y) := (hb1.cell (p := ⟨w.heap.size, 1, none⟩) (by simp)).trans (by simp [go_sem])
  have hsw1 : w.heap.size < w1.heap.size := by have := hb1.size; simp at this; omega
  have HS1 := hid hs1
  clear hb1 hs1
  by_cases he : hullE l = 0
  · have HE := hid he
    have HIV := hid (insV_is (q := q) he)
    have HIN := hid (bd_of (hullV_in (l := l)))
    have hvl := (hullV_len (l := l)).2
    rw [he]
    clear he
    generalize hullV l = h at *
    go_wp2_with fail
    ((with_reducible refine (outside_any q _).mono ?_); rintro e w2 ⟨rfl, hb2⟩)
    have HB2 := hid (HB1.out.trans (hb2.mono HB1.out.size))
    have HS2 := hid (HS1.out.keep hb2)
    have q2 := (hb2.cell (p := ⟨w.heap.size, 0, none⟩) hsw1).trans q0
    have q3 := (hb2.cell (p := ⟨w.heap.size, 1, none⟩) hsw1).trans q1
    have hsw2 : w.heap.size < w2.heap.size := by have := hb2.size; omega
    clear hb2 q0 q1
    by_cases hq : In 4194304 q
    · have hdec : decide (In 4194304 q) = true := decide_eq_true hq
      have HQ := hid hq
      have HQ8 := hid (hq.more (show (4194304 : Int) ≤ 8388608 by decide))
      clear hq
      go_wp2_with fail
      go_loopw [8, 9, 22] (fun _ _ i wr => ∃ k : Nat, k ≤ h.length ∧ i = .int .i64 k ∧ Hid (leftTo h q k) ∧ Hid (Below w2.heap.size w2 wr)) (fun _ _ i _ => h.length - (intOf i).toNat)
      case atStart => exact ⟨0, Nat.zero_le _, rfl, fun i hi => by omega, Below.refl _ _⟩
      case round =>
        obtain ⟨k, hk, rfl, HL, HB⟩ := hrel
        by_cases hlt : k < h.length
        · obtain ⟨b, off, p, hA, hB, hd, c0, c1⟩ := HS2.out.rd.at_ HB.out hlt
          obtain ⟨j, r, hj, hr, hm1, hm2, d0, d1⟩ := HS2.out.rd.next_ HB.out hA hlt
          subst hA
          have hp := rd_at hd
          have hpi := rd_in HIN.out (i := k) (by omega)
          have hri := rd_in HIN.out (i := k + 1) (by omega)
          have HNO := hid (insB_no (q := q) hlt)
          have HYES := hid (leftTo_step HL.out)
          rw [hp, hr] at HNO HYES
          rw [hp] at hpi
          rw [hr] at hri
          have HCR : Hid (∀ wx, Calls Try.prog 36 #[.agg #[.int .i64 p.x, .int .i64 p.y], .agg #[.int .i64 r.x, .int .i64 r.y], .agg #[.int .i64 q.x, .int .i64 q.y]] wx fun e w' => e = .returned (.int .i64 (crs p r q)) ∧ Below wx.heap.size wx w') := fun wx => cross_any p r q wx hpi hri HQ8.out
          have hbw : b < wr.heap.size := by have := HB.out.size; omega
          have hqw : w.heap.size < wr.heap.size := by have := HB.out.size; omega
          have q4 := (HB.out.cell (p := ⟨w.heap.size, 0, none⟩) hsw2).trans q2
          have q5 := (HB.out.cell (p := ⟨w.heap.size, 1, none⟩) hsw2).trans q3
          clear hd hp hr hpi hri
          have i0 : (0 : Int) ≤ (k : Int) := by omega
          have i1 : (k : Int) < (h.length : Int) := by omega
          have i2 : (0 : Int) ≤ (j : Int) := by omega
          have i3 : (j : Int) < (h.length : Int) := by omega
          have hw1 : IntKind.i64.wrap ((k : Int) + 1) = (k : Int) + 1 := by rw [IntWalk.i64_in _ (by omega)]
          have hw2 : IntKind.i64.wrap (j : Int) = (j : Int) := by rw [IntWalk.i64_in _ (by omega)]
          have n1 : ¬ h = [] := by intro e; rw [e] at hlt; simp at hlt
          go_wp2_with fail
          generalize hw4 : wr.alloc (.cells #[.int .i64 p.x, .int .i64 p.y] 31) = w4
          have HK : Hid (∀ wx, Below w4.heap.size w4 wx → (wx.cell? ⟨wr.heap.size, 0, none⟩ = some (.int .i64 p.x) ∧ wx.cell? ⟨wr.heap.size, 1, none⟩ = some (.int .i64 p.y) ∧ wx.cell? ⟨b, off + j * 2, none⟩ = some (.int .i64 r.x) ∧ wx.cell? ⟨b, off + j * 2 + 1, none⟩ = some (.int .i64 r.y) ∧ wx.cell? ⟨w.heap.size, 0, none⟩ = some (.int .i64 q.x) ∧ wx.cell? ⟨w.heap.size, 1, none⟩ = some (.int .i64 q.y)) ∧ Below w4.heap.size w4 wx) := by
            have hsz4 : w4.heap.size = wr.heap.size + 1 := by rw [← hw4]; simp
            intro wx hb
            refine ⟨⟨(hb.cell (p := ⟨wr.heap.size, _, none⟩) (by show wr.heap.size < _; omega)).trans ?_, (hb.cell (p := ⟨wr.heap.size, _, none⟩) (by show wr.heap.size < _; omega)).trans ?_, (hb.cell (p := ⟨b, _, none⟩) (by show b < _; omega)).trans ?_, (hb.cell (p := ⟨b, _, none⟩) (by show b < _; omega)).trans ?_, (hb.cell (p := ⟨w.heap.size, _, none⟩) (by show w.heap.size < _; omega)).trans ?_, (hb.cell (p := ⟨w.heap.size, _, none⟩) (by show w.heap.size < _; omega)).trans ?_⟩, hb⟩
            · rw [← hw4]; simp [go_sem]
            · rw [← hw4]; simp [go_sem]
            · rw [← hw4]; exact Lib.cell?_alloc_some _ d0
            · rw [← hw4]; exact Lib.cell?_alloc_some _ d1
            · rw [← hw4]; exact Lib.cell?_alloc_some _ q4
            · rw [← hw4]; exact Lib.cell?_alloc_some _ q5
          have HB4 : Hid (Below w2.heap.size w2 w4) := by rw [← hw4]; exact HB.out.alloc HB.out.size _
          clear hw4 c0 c1 d0 d1 q4 q5
          go_region_held3 (fun wx => (wx.cell? ⟨wr.heap.size, 0, none⟩ = some (.int .i64 p.x) ∧ wx.cell? ⟨wr.heap.size, 1, none⟩ = some (.int .i64 p.y) ∧ wx.cell? ⟨b, off + j * 2, none⟩ = some (.int .i64 r.x) ∧ wx.cell? ⟨b, off + j * 2 + 1, none⟩ = some (.int .i64 r.y) ∧ wx.cell? ⟨w.heap.size, 0, none⟩ = some (.int .i64 q.x) ∧ wx.cell? ⟨w.heap.size, 1, none⟩ = some (.int .i64 q.y)) ∧ Below w4.heap.size w4 wx)
            (first | exact HK.out _ (Below.refl _ _).drew | (go_split_ands; exact HK.out _ (keepB (by assumption) hb7)))
            (first | (go_at_call 36; refine (HCR.out _).mono ?_; rintro e w7 ⟨rfl, hb7⟩))
          rename_i hSl
          have HBZ := hid (HB4.out.trans (hSl.2.mono HB4.out.size))
          clear hSl hb7 HK HCR
          generalize crs p r q = c at *
          by_cases hc : c ≤ 0
          · have HN := hid (HNO.out hc)
            clear HNO HYES
            go_wp2
            go_ret2
            rw [HIV.out, HN.out, HE.out]
            exact ⟨rfl, HB2.out.trans (HBZ.out.mono HB2.out.size)⟩
          · have HY := hid (HYES.out (by omega))
            clear HNO HYES
            go_wp2_with fail
            go_roundw
            case rel => exact ⟨k + 1, by omega, by go_num, HY.out, HBZ.out⟩
            case measure => simp [intOf]; omega
        · obtain rfl : h.length = k := by omega
          have HY := hid (insB_yes HQ.out HL.out)
          go_wp2
          go_ret2
          rw [HIV.out, HY.out, HE.out]
          exact ⟨rfl, HB2.out.trans (HB.out.mono HB2.out.size)⟩
    · have hdec : decide (In 4194304 q) = false := decide_eq_false hq
      have HN := hid (insB_out (h := h) hq)
      clear hq
      go_wp2
      go_ret2
      rw [HIV.out, HN.out, HE.out]
      exact ⟨rfl, HB2.out⟩
  · have HN := hid (insV_no (q := q) he)
    have hb : (hullE l == 0) = false := by simp [he]
    clear he
    generalize hE : hullE l = er at *
    have HE := hid hE
    clear hE
    go_wp2
    go_ret2
    rw [HN.out, HE.out]
    exact ⟨rfl, HB1.out⟩
end Go.Proofs.Ytopmolpnmpchoaa
