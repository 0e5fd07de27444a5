/- The examples of the chapter on the flow: the walk of exampleHolds. -/
import Derived.Test.YtelgkangojmhdaaFlowEx1
import Derived.Deep.RegionHeld3
import Derived.Deep.RegionWith
import Derived.Deep.DeepCutAuto
import Derived.RegionTactic
import Derived.BigRegion
import Derived.Outline
import Derived.Handy
namespace Go.Proofs.Ytelgkangojmhdaa
open Go.RowKit

/-- The line of the example, with the stops ds. -/
def exLn (b1 b2 b3 : Nat) (D : Option Addr) (capD : Nat) (ds : List M.Dn) : Ln := ⟨some ⟨b1, 0, none⟩, 2, exO, some ⟨b2, 0, none⟩, 2, exS, some ⟨b3, 0, none⟩, 2, exB, D, capD, ds⟩
theorem exLn_ok {w : World} {b1 b2 b3 : Nat} {D : Option Addr} {capD : Nat} {ds : List M.Dn} (h1 : ORd w w.heap.size (some ⟨b1, 0, none⟩) exO) (h2 : SRd w w.heap.size (some ⟨b2, 0, none⟩) exS) (h3 : BRd w w.heap.size (some ⟨b3, 0, none⟩) exB) (h4 : M.DRd w w.heap.size D ds) (h5 : ds.length ≤ 21) : LnOk w (exLn b1 b2 b3 D capD ds) := by
  refine ⟨h1, h2, h3, h4, (by decide : exO.length ≤ 2), (by decide : exB.length ≤ 2), fun e => (by cases e), ?_, ?_, (by decide : exS.length ≤ 9223372036854775807), (by decide : exB.length ≤ 9223372036854775807), by show ds.length ≤ _; omega⟩
  · intro b hb
    simp only [exLn, exB, List.mem_cons, List.not_mem_nil, or_false] at hb
    rcases hb with rfl | rfl <;> exact ⟨⟨by decide, by decide⟩, by decide, by decide⟩
  · intro b hb
    simp only [exLn, exB, List.mem_cons, List.not_mem_nil, or_false] at hb
    rcases hb with rfl | rfl <;> exact ⟨by decide, by decide⟩
theorem exLn_sm (b1 b2 b3 : Nat) (D : Option Addr) (capD : Nat) (ds : List M.Dn) (h : ds.length ≤ 21) : LnSm (exLn b1 b2 b3 D capD ds) := by
  refine ⟨(by decide : exO.length ≤ 5), ?_, (by unfold SSmall; decide : SSmall exS), (by decide : exS.length ≤ 20), (by decide : exB.length ≤ 70), h⟩
  intro o ho
  simp only [exLn, exO, List.mem_cons, List.not_mem_nil, or_false] at ho
  rcases ho with rfl | rfl <;> exact ⟨by decide, by decide, by decide⟩
theorem exT_ir : ∀ t ∈ exT, IR t.tk ∧ IR t.op := by
  intro t ht
  simp only [exT, List.mem_cons, List.not_mem_nil, or_false] at ht
  rcases ht with rfl | rfl | rfl | rfl <;> exact ⟨⟨by decide, by decide⟩, by decide, by decide⟩
section
variable {b1 b2 b3 : Nat} {D : Option Addr} {capD : Nat} {w : World}
def exV (b1 b2 b3 : Nat) (vd : Value) : Value := .agg #[.slice (some ⟨b1, 0, none⟩) 2 2, .slice (some ⟨b2, 0, none⟩) 2 2, .slice (some ⟨b3, 0, none⟩) 2 2, vd]
theorem exSim1 (h : LnOk w (exLn b1 b2 b3 none 0 [])) : Calls Try.prog 14 #[.agg #[.slice (some ⟨b1, 0, none⟩) 2 2, .slice (some ⟨b2, 0, none⟩) 2 2, .slice (some ⟨b3, 0, none⟩) 2 2, .slice none 0 0]] w fun e w' => (∃ A' c', e = .returned (.tuple #[.slice A' 4 c', .int .i64 0]) ∧ TRd w' w'.heap.size A' exT ∧ 4 ≤ c') ∧ Below w.heap.size w w' := by
  have := lnSim_any _ w h (exLn_sm b1 b2 b3 none 0 [] (by decide))
  rw [show simRes (exLn b1 b2 b3 none 0 []).l (exLn b1 b2 b3 none 0 []).ss (exLn b1 b2 b3 none 0 []).bs (exLn b1 b2 b3 none 0 []).ds = (0, exT) from ex_sim] at this
  exact this
theorem exSim2 (h : LnOk w (exLn b1 b2 b3 D capD exD)) : Calls Try.prog 14 #[.agg #[.slice (some ⟨b1, 0, none⟩) 2 2, .slice (some ⟨b2, 0, none⟩) 2 2, .slice (some ⟨b3, 0, none⟩) 2 2, .slice D 1 capD]] w fun e w' => (∃ A' c', e = .returned (.tuple #[.slice A' 4 c', .int .i64 0]) ∧ TRd w' w'.heap.size A' exT2 ∧ 4 ≤ c') ∧ Below w.heap.size w w' := by
  have := lnSim_any _ w h (exLn_sm b1 b2 b3 D capD exD (by decide))
  rw [show simRes (exLn b1 b2 b3 D capD exD).l (exLn b1 b2 b3 D capD exD).ss (exLn b1 b2 b3 D capD exD).bs (exLn b1 b2 b3 D capD exD).ds = (0, exT2) from ex_sim2] at this
  exact this
theorem exChk (h : LnOk w (exLn b1 b2 b3 none 0 [])) {Tk : Option Addr} {capT : Nat} {ts : List Tsk} (hT : TRd w w.heap.size Tk ts) {n : Nat} {r : Int} (hn : ts.length = n) (hn4 : n ≤ 4) (hc : n ≤ capT) (hr : ∀ t ∈ ts, IR t.tk ∧ IR t.op) (he : chkF exO exS exB [] ts = r) :
    Calls Try.prog 25 #[.agg #[.slice (some ⟨b1, 0, none⟩) 2 2, .slice (some ⟨b2, 0, none⟩) 2 2, .slice (some ⟨b3, 0, none⟩) 2 2, .slice none 0 0], .slice Tk n capT] w fun e w' => e = .returned (.int .i64 r) ∧ Below w.heap.size w w' := by
  subst hn
  subst he
  exact lnCheck_any _ Tk capT ts w h (exLn_sm b1 b2 b3 none 0 [] (by decide)) hT (by omega) hc hr
end
theorem trd_block {w : World} {b : Nat} (h : Blk w b 39 (tkCells exT)) {B : Nat} (hB : b < B) : TRd w B (some ⟨b, 0, none⟩) exT := by
  intro _
  refine ⟨b, 0, rfl, hB, fun i x hx => ?_⟩
  rw [Nat.zero_add]
  have key : ∀ j v, j < 5 → (encTk x)[j]? = some v → w.cell? ⟨b, i * 5 + j, none⟩ = some v := fun j v hj hv => h.cell (by rw [tkCells_at exT i x j hx hj]; exact hv)
  exact ⟨key 0 _ (by omega) rfl, key 1 _ (by omega) rfl, key 2 _ (by omega) rfl, key 3 _ (by omega) rfl, key 4 _ (by omega) rfl⟩
theorem trd_drop {w : World} {b B : Nat} (h : TRd w B (some ⟨b, 0, none⟩) exT) : TRd w B (some ⟨b, 5, none⟩) (exT.drop 1) := by
  intro _
  obtain ⟨b', off, e, hB, hc⟩ := h (by decide)
  injection e with e
  injection e with e1 e2
  subst e1 e2
  refine ⟨b, 5, rfl, hB, fun i x hx => ?_⟩
  have := hc (i + 1) x (by rw [List.getElem?_drop] at hx; rw [show i + 1 = 1 + i from by omega]; exact hx)
  rw [show 5 + i * 5 = 0 + (i + 1) * 5 from by omega]
  exact this

set_option maxRecDepth 100000 in
set_option maxHeartbeats 8000000 in
theorem ex49_any (w : World) : Calls Try.prog 13 #[] w fun e w' => e = .returned (.bool true) ∧ Below w.heap.size w w' := by
  go_enter Try.func13, Try.ntmps13
  go_wp2_with fail
  ((with_reducible refine (example_any _).mono ?_); rintro e w1 ⟨⟨b1, b2, b3, rfl, h1, h2, h3⟩, hb1⟩)
  have H1 := Lib.hid h1
  have H2 := Lib.hid h2
  have H3 := Lib.hid h3
  have HB1 := Lib.hid hb1
  clear h1 h2 h3 hb1
  go_wp2_with fail
  obtain ⟨w2, hw2⟩ : ∃ w2, w2 = w1.alloc (.cells #[.slice (some ⟨b1, 0, none⟩) 2 2, .slice (some ⟨b2, 0, none⟩) 2 2, .slice (some ⟨b3, 0, none⟩) 2 2, .slice none 0 0] 27) := ⟨_, rfl⟩
  have K0 : Blk w2 w1.heap.size 27 [.slice (some ⟨b1, 0, none⟩) 2 2, .slice (some ⟨b2, 0, none⟩) 2 2, .slice (some ⟨b3, 0, none⟩) 2 2, .slice none 0 0] := by rw [hw2]; exact Blk.new _ _ _
  have L2 : Below w1.heap.size w1 w2 := by rw [hw2]; exact below_new _ _
  rw [← hw2]
  have HL2 := Lib.hid (exLn_ok (capD := 0) (H1.out.go L2) (H2.out.go L2) (H3.out.go L2) (show M.DRd w2 w2.heap.size none [] from fun h => absurd rfl h) (by decide))
  have HB2 := Lib.hid (keepB HB1.out L2)
  have HD2 := Lib.hid L2
  have HK2 := Lib.hid K0
  clear hw2 K0 L2
  ((with_reducible refine (exSim1 HL2.out).mono ?_); rintro e w3 ⟨⟨AT, cT, rfl, h4, hc4⟩, hb3⟩)
  have HT3 := Lib.hid h4
  have HL3 := Lib.hid (HL2.out.go hb3)
  have HB3 := Lib.hid (keepB HB2.out hb3)
  have HD3 := Lib.hid (keepB HD2.out hb3)
  have HK3 := Lib.hid (HK2.out.below hb3 HK2.out.lt)
  clear h4 hb3
  go_wp2_with fail
  obtain ⟨w4, hw4⟩ : ∃ w4, w4 = w3.alloc (.cells #[.int .i64 1, .int .i64 0, .int .i64 0, .int .i64 0, .int .i64 2, .int .i64 1, .int .i64 1, .int .i64 1, .int .i64 2, .int .i64 5, .int .i64 2, .int .i64 0, .int .i64 0, .int .i64 2, .int .i64 4, .int .i64 2, .int .i64 1, .int .i64 1, .int .i64 5, .int .i64 8] 39) := ⟨_, rfl⟩
  have K4 : Blk w4 w3.heap.size 39 (tkCells exT) := by rw [hw4]; exact Blk.new _ _ _
  have L4 : Below w3.heap.size w3 w4 := by rw [hw4]; exact below_new _ _
  rw [← hw4]
  have HW4 := Lib.hid (trd_block K4 K4.lt)
  have HL4 := Lib.hid (HL3.out.go L4)
  have HB4 := Lib.hid (keepB HB3.out L4)
  have HD4 := Lib.hid (keepB HD3.out L4)
  have HK4 := Lib.hid (HK3.out.below L4 HK3.out.lt)
  have HT4 := Lib.hid (HT3.out.go L4)
  clear hw4 K4 L4
  have HK : Hid (∀ wx, Below w4.heap.size w4 wx → ((wx.cell? ⟨w1.heap.size, 0, none⟩ = some (.slice (some ⟨b1, 0, none⟩) 2 2) ∧ wx.cell? ⟨w1.heap.size, 1, none⟩ = some (.slice (some ⟨b2, 0, none⟩) 2 2) ∧ wx.cell? ⟨w1.heap.size, 2, none⟩ = some (.slice (some ⟨b3, 0, none⟩) 2 2) ∧ wx.cell? ⟨w1.heap.size, 3, none⟩ = some (.slice none 0 0)) ∧ Below w4.heap.size w4 wx)) :=
    Lib.hid fun wx hb => ⟨⟨(HK4.out.below hb HK4.out.lt).cell (i := 0) rfl, (HK4.out.below hb HK4.out.lt).cell (i := 1) rfl, (HK4.out.below hb HK4.out.lt).cell (i := 2) rfl, (HK4.out.below hb HK4.out.lt).cell (i := 3) rfl⟩, hb⟩
  have HSM : Hid (∀ wx, Below w4.heap.size w4 wx → Calls Try.prog 24 #[.slice AT 4 cT, .slice (some ⟨w3.heap.size, 0, none⟩) 4 4] wx fun e w' => e = .returned (.bool true) ∧ Below wx.heap.size wx w') :=
    Lib.hid fun wx hb => sameT_any AT (some ⟨w3.heap.size, 0, none⟩) cT 4 exT exT wx (HT4.out.go hb) (HW4.out.go hb) (by decide) (by decide) rfl
  have HC1 : Hid (∀ wx, Below w4.heap.size w4 wx → Calls Try.prog 25 #[.agg #[.slice (some ⟨b1, 0, none⟩) 2 2, .slice (some ⟨b2, 0, none⟩) 2 2, .slice (some ⟨b3, 0, none⟩) 2 2, .slice none 0 0], .slice AT 4 cT] wx fun e w' => e = .returned (.int .i64 0) ∧ Below wx.heap.size wx w') :=
    Lib.hid fun wx hb => exChk (HL4.out.go hb) (HT4.out.go hb) (by decide) (by decide) hc4 exT_ir ex_chk1
  have HC2 : Hid (∀ wx, Below w4.heap.size w4 wx → Calls Try.prog 25 #[.agg #[.slice (some ⟨b1, 0, none⟩) 2 2, .slice (some ⟨b2, 0, none⟩) 2 2, .slice (some ⟨b3, 0, none⟩) 2 2, .slice none 0 0], .slice (some ⟨w3.heap.size, 5, none⟩) 3 3] wx fun e w' => e = .returned (.int .i64 21) ∧ Below wx.heap.size wx w') :=
    Lib.hid fun wx hb => exChk (HL4.out.go hb) (trd_drop (HW4.out.go hb)) (by decide) (by decide) (by decide) (fun t ht => exT_ir t (List.mem_of_mem_drop ht)) ex_chk2
  have HC3 : Hid (∀ wx, Below w4.heap.size w4 wx → Calls Try.prog 25 #[.agg #[.slice (some ⟨b1, 0, none⟩) 2 2, .slice (some ⟨b2, 0, none⟩) 2 2, .slice (some ⟨b3, 0, none⟩) 2 2, .slice none 0 0], .slice (some ⟨w3.heap.size, 0, none⟩) 3 4] wx fun e w' => e = .returned (.int .i64 20) ∧ Below wx.heap.size wx w') :=
    Lib.hid fun wx hb => exChk (HL4.out.go hb) ((HW4.out.go hb).take 3) (by decide) (by decide) (by decide) (fun t ht => exT_ir t (List.mem_of_mem_take ht)) ex_chk3
  have HMK : Hid (∀ wx, Below w4.heap.size w4 wx → Calls Try.prog 20 #[.slice AT 4 cT] wx fun e w' => e = .returned (.int .i64 8) ∧ Below wx.heap.size wx w') :=
    Lib.hid fun wx hb => by have := makespan_any AT cT exT wx (HT4.out.go hb) (by decide); rw [ex_span] at this; exact this
  go_region_held3 (fun wx => (wx.cell? ⟨w1.heap.size, 0, none⟩ = some (.slice (some ⟨b1, 0, none⟩) 2 2) ∧ wx.cell? ⟨w1.heap.size, 1, none⟩ = some (.slice (some ⟨b2, 0, none⟩) 2 2) ∧ wx.cell? ⟨w1.heap.size, 2, none⟩ = some (.slice (some ⟨b3, 0, none⟩) 2 2) ∧ wx.cell? ⟨w1.heap.size, 3, none⟩ = some (.slice none 0 0)) ∧ Below w4.heap.size w4 wx)
    (first | exact HK.out _ (Below.refl _ _).drew | (go_split_ands; exact HK.out _ (keepB (by assumption) hb7)))
    (first | (go_at_call 24; refine (HSM.out _ ?_).mono ?_; (go_split_ands; assumption); rintro e w7 ⟨rfl, hb7⟩) | (go_at_call 25; (with_reducible refine (HC1.out _ ?_).mono ?_); (go_split_ands; assumption); rintro e w7 ⟨rfl, hb7⟩) | (go_at_call 25; (with_reducible refine (HC2.out _ ?_).mono ?_); (go_split_ands; assumption); rintro e w7 ⟨rfl, hb7⟩) | (go_at_call 25; (with_reducible refine (HC3.out _ ?_).mono ?_); (go_split_ands; assumption); rintro e w7 ⟨rfl, hb7⟩) | (go_at_call 20; refine (HMK.out _ ?_).mono ?_; (go_split_ands; assumption); rintro e w7 ⟨rfl, hb7⟩))
  rename_i hSl
  have hb8 := hSl.2
  have HK8 := Lib.hid (HK4.out.below hb8 HK4.out.lt)
  have HB8 := Lib.hid (keepB HB4.out hb8)
  have HD8 := Lib.hid (keepB HD4.out hb8)
  have hs1 : w1.heap.size < w4.heap.size := HK4.out.lt
  have hs8 := hb8.size
  clear hSl hb8
  clear hb7
  clear HK HSM HC1 HC2 HC3 HMK
  rename World => w8
  have a0 := HK8.out.cell (i := 0) rfl
  have a1 := HK8.out.cell (i := 1) rfl
  have a2 := HK8.out.cell (i := 2) rfl
  have a3 := HK8.out.cell (i := 3) rfl
  have f3 := HK8.out.free 3
  have hlt8 : w1.heap.size < w8.heap.size := HK8.out.lt
  go_wp2_with fail
  have HD9 := Lib.hid ((HD8.out.setCell (p := ⟨w1.heap.size, 3, none⟩) (Nat.le_refl _) (.slice (some ⟨w8.heap.size, 0, none⟩) 1 1)).alloc (by simp; omega) (.cells #[.int .i64 0, .int .i64 1, .int .i64 11] 62))
  have K9 : Blk ((w8.setCell ⟨w1.heap.size, 3, none⟩ (.slice (some ⟨w8.heap.size, 0, none⟩) 1 1)).alloc (.cells #[.int .i64 0, .int .i64 1, .int .i64 11] 62)) w8.heap.size 62 [.int .i64 0, .int .i64 1, .int .i64 11] := Blk.newAt _ _ _ (by simp)
  revert HD9 K9
  generalize (w8.setCell ⟨w1.heap.size, 3, none⟩ (.slice (some ⟨w8.heap.size, 0, none⟩) 1 1)).alloc (.cells #[.int .i64 0, .int .i64 1, .int .i64 11] 62) = w9
  intro HD9 K9
  have HDD : Hid (M.DRd w9 w9.heap.size (some ⟨w8.heap.size, 0, none⟩) exD) := by
    refine Lib.hid fun _ => ⟨w8.heap.size, 0, rfl, K9.lt, fun i x hx => ?_⟩
    match i, hx with
    | 0, hx => cases hx; exact ⟨K9.cell (i := 0) rfl, K9.cell (i := 1) rfl, K9.cell (i := 2) rfl⟩
    | i + 1, hx => simp [exD] at hx
  have HL9 := Lib.hid (exLn_ok (capD := 1) (H1.out.go HD9.out) (H2.out.go HD9.out) (H3.out.go HD9.out) HDD.out (by decide))
  have HB9 := Lib.hid (keepB HB1.out HD9.out)
  clear K9 a0 a1 a2 a3 f3
  ((with_reducible refine (exSim2 HL9.out).mono ?_); rintro e w10 ⟨⟨AM, cM, rfl, h10, hc10⟩, hb10⟩)
  obtain ⟨bm, offm, t, hA, hB, hd, hat⟩ := h10.at_ (Below.refl _ _) (show 0 < exT2.length by decide)
  obtain rfl : t = ⟨1, 0, 0, 0, 12⟩ := by cases hd; rfl
  obtain ⟨c0, c1, c2, c3, c4⟩ := hat
  rw [Nat.zero_mul, Nat.add_zero] at c0 c1 c2 c3 c4
  subst hA
  have HB10 := Lib.hid (keepB HB9.out hb10)
  clear hd hb10 h10
  go_wp2_with fail
  go_ret
  exact ⟨rfl, HB10.out⟩
end Go.Proofs.Ytelgkangojmhdaa
