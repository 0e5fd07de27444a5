/- The reference of the flow: bundle, early, clash: the walks. -/
import Derived.Test.YtelgkangojmhdaaFRef2
import Derived.Deep.RegionHeld3
import Derived.Deep.RegionWith
import Derived.RegionTactic
import Derived.BigRegion
import Derived.Outline
import Derived.Handy
namespace Go.Proofs.Ytelgkangojmhdaa
open Go.RowKit

def BnPost (r : Option Bn) (e : Ending) : Prop :=
  (r = none → e = .returned (.tuple #[.agg #[.int .i64 0, .int .i64 0, .int .i64 0, .int .i64 0, .int .i64 0, .int .i64 0], .bool false])) ∧
  ∀ x, r = some x → e = .returned (.tuple #[.agg #[.int .i64 x.tk, .int .i64 x.gm, .int .i64 x.sz, .int .i64 x.lot, .int .i64 x.fr, .int .i64 x.tp], .bool true])
theorem bnPost_no {r : Option Bn} (h : r = none) : BnPost r (.returned (.tuple #[.agg #[.int .i64 0, .int .i64 0, .int .i64 0, .int .i64 0, .int .i64 0, .int .i64 0], .bool false])) := by subst h; exact ⟨fun _ => rfl, fun t h => (by cases h)⟩
theorem bnPost_yes {r : Option Bn} {x : Bn} (h : r = some x) : BnPost r (.returned (.tuple #[.agg #[.int .i64 x.tk, .int .i64 x.gm, .int .i64 x.sz, .int .i64 x.lot, .int .i64 x.fr, .int .i64 x.tp], .bool true])) := by subst h; exact ⟨fun h => (by cases h), fun t h => by cases h; rfl⟩
theorem bfind_next {bs : List Bn} {k : Int} {i : Nat} {x : Bn} (h : bs[i]? = some x) (hp : (bs.take i).find? (tkEq k) = none) (hx : x.tk ≠ k) : (bs.take (i + 1)).find? (tkEq k) = none := by
  rw [take_tk h, List.find?_append, hp]; simp [tkEq, hx]
theorem bfind_hit {bs : List Bn} {k : Int} {i : Nat} {x : Bn} (h : bs[i]? = some x) (hp : (bs.take i).find? (tkEq k) = none) (hx : x.tk = k) : bs.find? (tkEq k) = some x := by
  rw [← List.take_append_drop (i + 1) bs, List.find?_append, take_tk h, List.find?_append, hp]; simp [tkEq, hx]

set_option maxRecDepth 100000 in
set_option maxHeartbeats 2000000 in
theorem bundle_any (A : Option Addr) (cap : Nat) (bs : List Bn) (k : Int) (w : World) (h : BRd w w.heap.size A bs) (hn : bs.length ≤ 20000) :
    Calls Try.prog 63 #[.slice A bs.length cap, .int .i64 k] w fun e w' => BnPost (bs.find? (tkEq k)) e ∧ Below w.heap.size w w' := by
  have H := Lib.hid h
  clear h
  go_enter Try.func63, Try.ntmps63
  go_wp2
  go_loop [6] (fun j => ∃ i : Nat, i ≤ bs.length ∧ j = .int .i64 i ∧ (bs.take i).find? (tkEq k) = none) (fun j => bs.length - (intOf j).toNat)
  case atStart => exact ⟨0, Nat.zero_le _, rfl, rfl⟩
  case round =>
    obtain ⟨i, hi, rfl, hu⟩ := hrel
    have HU := Lib.hid hu
    clear hu
    by_cases hlt : i < bs.length
    · obtain ⟨b, off, x, rfl, hB, hd, hat⟩ := H.out.at_ (Below.refl _ _) hlt
      obtain ⟨c0, c1, c2, c3, c4, c5⟩ := hat
      have HD := Lib.hid hd
      clear hd
      by_cases hx : x.tk = k
      · have HF := Lib.hid (bfind_hit HD.out HU.out hx)
        have h1 : (x.tk == k) = true := by simp [hx]
        clear hx
        go_wp2
        refine bodyPost_ret (v := .tuple #[.agg #[.int .i64 x.tk, .int .i64 x.gm, .int .i64 x.sz, .int .i64 x.lot, .int .i64 x.fr, .int .i64 x.tp], .bool true]) (by simp [results, Try.results63, go_sem]) rfl ⟨bnPost_yes HF.out, ?_⟩
        exact below_new _ _
      · have HU' := Lib.hid (bfind_next HD.out HU.out hx)
        have h1 : (x.tk == k) = false := by simpa using hx
        clear hx
        go_wp2
        go_round
        case rel => exact ⟨i + 1, by omega, by go_num, HU'.out⟩
        case measure => simp [intOf]; omega
    · obtain rfl : bs.length = i := by omega
      have HF : Hid (bs.find? (tkEq k) = none) := by have h1 := HU.out; rw [List.take_length] at h1; exact Lib.hid h1
      go_wp2
      refine bodyPost_ret (v := .tuple #[.agg #[.int .i64 0, .int .i64 0, .int .i64 0, .int .i64 0, .int .i64 0, .int .i64 0], .bool false]) (by simp [results, Try.results63, go_sem]) rfl ⟨bnPost_no HF.out, ?_⟩
      exact below_new _ _

theorem rd_cell {W w1 : World} (hb : Below W.heap.size W w1) : ∀ b o, b < W.heap.size → w1.cell? ⟨b, o, none⟩ = W.cell? ⟨b, o, none⟩ := fun b o h => hb.cell (p := ⟨b, o, none⟩) h
theorem rd_free {W w1 : World} (hb : Below W.heap.size W w1) : ∀ b o, b < W.heap.size → w1.frozen? ⟨b, o, none⟩ = W.frozen? ⟨b, o, none⟩ := fun b o h => hb.frozen (p := ⟨b, o, none⟩) h
def earlyA (ts : List Tsk) (t : Tsk) (a : Int) : Bool := match fnd ts t.tk a with | none => true | some p => decide (t.a < p.b)
theorem earlyB_eq (l : List Opn) (ts : List Tsk) (t : Tsk) : earlyB l ts t = (af l t.op.toNat).any (earlyA ts t) := rfl

set_option maxRecDepth 100000 in
set_option maxHeartbeats 4000000 in
theorem early_any (A : Option Addr) (cap : Nat) (l : List Opn) (Tk : Option Addr) (capT : Nat) (ts : List Tsk) (t : Tsk) (o : Nat) (w : World)
    (h : ORd w w.heap.size A l) (hs : OSmall l) (ht : TRd w w.heap.size Tk ts) (hn : ts.length ≤ 20000) (hto : t.op = o) (ho : o < l.length) :
    Calls Try.prog 41 #[.slice A l.length cap, .slice Tk ts.length capT, .agg #[.int .i64 t.tk, .int .i64 t.op, .int .i64 t.st, .int .i64 t.a, .int .i64 t.b]] w fun e w' => e = .returned (.bool (earlyB l ts t)) ∧ Below w.heap.size w w' := by
  have HO := Lib.hid h
  have HT := Lib.hid ht
  have HS := Lib.hid hs
  have HTO := Lib.hid hto
  have i0 : (0 : Int) ≤ (o : Int) := by omega
  have i1 : (o : Int) < (l.length : Int) := by omega
  have HEE : Hid (earlyB l ts t = (af l o).any (earlyA ts t)) := by show _ = _; rw [earlyB_eq, hto]; rfl
  have HST : Hid (Blk (w.alloc (.cells #[.int .i64 t.tk, .int .i64 (o : Int), .int .i64 t.st, .int .i64 t.a, .int .i64 t.b] 39)) w.heap.size 39 [.int .i64 t.tk, .int .i64 (o : Int), .int .i64 t.st, .int .i64 t.a, .int .i64 t.b]) := Blk.new w _ _
  rw [HEE.out, hto]
  clear h ht hs hto
  go_enter Try.func41, Try.ntmps41
  go_wp2_with fail
  go_loopw [7, 8, 9] (fun j _ _ wr => ∃ i : Nat, i ≤ (af l o).length ∧ j = .int .i64 i ∧ ((af l o).take i).any (earlyA ts t) = false ∧ Blk wr w.heap.size 39 [.int .i64 t.tk, .int .i64 (o : Int), .int .i64 t.st, .int .i64 t.a, .int .i64 t.b] ∧ Below w.heap.size w wr) (fun j _ _ _ => (af l o).length - (intOf j).toNat)
  case atStart => exact ⟨0, Nat.zero_le _, rfl, rfl, HST.out, below_new _ _⟩
  case round =>
    clear HST
    obtain ⟨i, hi, rfl, hu, hst, hb⟩ := hrel
    have HU := Lib.hid hu
    have HST := Lib.hid hst
    have HB := Lib.hid hb
    have d0 := hst.cell (i := 0) rfl
    have d1 := hst.cell (i := 1) rfl
    have d3 := hst.cell (i := 3) rfl
    clear hu hst hb
    obtain ⟨b, off, op, hA, hB, hd, hat⟩ := HO.out.at_ HB.out ho
    obtain ⟨_, _, _, ⟨Af, cf, c3, hcf, haf⟩, _⟩ := hat
    have hafe := af_at hd
    have hso := (HS.out op (List.mem_of_getElem? hd)).2.1
    rw [hafe] at hi HU ⊢
    have HAF := Lib.hid haf
    have HAFE := Lib.hid hafe
    subst hA
    clear hd haf hafe
    by_cases hlt : i < op.after.length
    · obtain ⟨b2, off2, x, hA2, hB2, hdx, cx⟩ := HAF.out.at_ (Below.refl _ _) hlt
      subst hA2
      have HDX := Lib.hid hdx
      clear hdx
      have j0 : (0 : Int) ≤ (i : Int) := by omega
      have j1 : (i : Int) < (op.after.length : Int) := by omega
      have q1 : w.heap.size < wr.heap.size := HST.out.lt
      have q2 : b < wr.heap.size := Nat.lt_of_lt_of_le hB HB.out.size
      have HK : Hid (∀ wx, Below wr.heap.size wr wx → ((wx.cell? ⟨w.heap.size, 0, none⟩ = some (.int .i64 t.tk) ∧ wx.cell? ⟨w.heap.size, 1, none⟩ = some (.int .i64 (o : Int)) ∧ wx.cell? ⟨w.heap.size, 3, none⟩ = some (.int .i64 t.a)) ∧ (wx.cell? ⟨b, off + o * 5 + 3, none⟩ = some (.slice (some ⟨b2, off2, none⟩) op.after.length cf) ∧ wx.cell? ⟨b2, off2 + i, none⟩ = some (.int .i64 x)) ∧ Below wr.heap.size wr wx)) :=
        Lib.hid fun wx hb => ⟨⟨(hb.cell (p := ⟨w.heap.size, _, none⟩) q1).trans d0, (hb.cell (p := ⟨w.heap.size, _, none⟩) q1).trans d1, (hb.cell (p := ⟨w.heap.size, _, none⟩) q1).trans d3⟩, ⟨(hb.cell (p := ⟨b, _, none⟩) q2).trans c3, (hb.cell (p := ⟨b2, _, none⟩) (Nat.lt_of_lt_of_le hB2 HB.out.size)).trans cx⟩, hb⟩
      have HFD : Hid (∀ wx, Below wr.heap.size wr wx → Calls Try.prog 64 #[.slice Tk ts.length capT, .int .i64 t.tk, .int .i64 x] wx fun e w' => FndPost (fnd ts t.tk x) e ∧ Below wx.heap.size wx w') :=
        Lib.hid fun wx hb => find_any Tk capT ts t.tk x wx (HT.out.go (HB.out.trans (hb.mono HB.out.size))) hn
      cases hf : fnd ts t.tk x with
      | none =>
        have HX : Hid (op.after.any (earlyA ts t) = true) := Lib.hid (any_hit HDX.out (by unfold earlyA; rw [hf]))
        rw [hf] at HFD
        clear hf
        go_wp2_with fail
        go_region_held3 (fun wx => (wx.cell? ⟨w.heap.size, 0, none⟩ = some (.int .i64 t.tk) ∧ wx.cell? ⟨w.heap.size, 1, none⟩ = some (.int .i64 (o : Int)) ∧ wx.cell? ⟨w.heap.size, 3, none⟩ = some (.int .i64 t.a)) ∧ (wx.cell? ⟨b, off + o * 5 + 3, none⟩ = some (.slice (some ⟨b2, off2, none⟩) op.after.length cf) ∧ wx.cell? ⟨b2, off2 + i, none⟩ = some (.int .i64 x)) ∧ Below wr.heap.size wr wx)
          (first | exact HK.out _ (Below.refl _ _).drew | (go_split_ands; refine HK.out _ ?_; go_grown; done))
          (first | (go_at_call 64; refine (HFD.out _ ?_).mono ?_; (go_split_ands; assumption); rintro e w7 ⟨hp7, hb7⟩; obtain rfl := hp7.1 rfl; clear hp7; go_split_ands; have hB7 : Below wr.heap.size wr w7 := keepB (by assumption) hb7; have hs7 := hB7.size; have hc7 := rd_cell hb7; have hf7 := rd_free hb7; clear hb7))
        all_goals
          rename_i hSl
          have HBZ := Lib.hid hSl.2.2
          clear hSl
          go_wp2
          go_ret
          exact ⟨ret_bool (by rw [HAFE.out]; exact HX.out.symm), HB.out.trans (HBZ.out.mono HB.out.size)⟩
      | some p =>
        rw [hf] at HFD
        by_cases hlate : t.a < p.b
        · have HX : Hid (op.after.any (earlyA ts t) = true) := Lib.hid (any_hit HDX.out (by unfold earlyA; rw [hf]; simpa using hlate))
          clear hf
          go_wp2_with fail
          go_region_held3 (fun wx => (wx.cell? ⟨w.heap.size, 0, none⟩ = some (.int .i64 t.tk) ∧ wx.cell? ⟨w.heap.size, 1, none⟩ = some (.int .i64 (o : Int)) ∧ wx.cell? ⟨w.heap.size, 3, none⟩ = some (.int .i64 t.a)) ∧ (wx.cell? ⟨b, off + o * 5 + 3, none⟩ = some (.slice (some ⟨b2, off2, none⟩) op.after.length cf) ∧ wx.cell? ⟨b2, off2 + i, none⟩ = some (.int .i64 x)) ∧ Below wr.heap.size wr wx)
            (first | exact HK.out _ (Below.refl _ _).drew | (go_split_ands; refine HK.out _ ?_; go_grown; done))
            (first | (go_at_call 64; refine (HFD.out _ ?_).mono ?_; (go_split_ands; assumption); rintro e w7 ⟨hp7, hb7⟩; obtain rfl := hp7.2 p rfl; clear hp7; go_split_ands; have hB7 : Below wr.heap.size wr w7 := keepB (by assumption) hb7; have hs7 := hB7.size; have hc7 := rd_cell hb7; have hf7 := rd_free hb7; clear hb7))
          all_goals
            rename_i hSl
            have HBZ := Lib.hid hSl.2.2
            have d3' := hSl.1.2.2
            clear hSl
            go_wp2
            go_ret
            exact ⟨ret_bool (by rw [HAFE.out]; exact HX.out.symm), HB.out.trans (HBZ.out.mono HB.out.size)⟩
        · have HX : Hid ((op.after.take (i + 1)).any (earlyA ts t) = false) := Lib.hid (any_snoc HDX.out HU.out (by unfold earlyA; rw [hf]; simpa using hlate))
          clear hf
          go_wp2_with fail
          go_region_held3 (fun wx => (wx.cell? ⟨w.heap.size, 0, none⟩ = some (.int .i64 t.tk) ∧ wx.cell? ⟨w.heap.size, 1, none⟩ = some (.int .i64 (o : Int)) ∧ wx.cell? ⟨w.heap.size, 3, none⟩ = some (.int .i64 t.a)) ∧ (wx.cell? ⟨b, off + o * 5 + 3, none⟩ = some (.slice (some ⟨b2, off2, none⟩) op.after.length cf) ∧ wx.cell? ⟨b2, off2 + i, none⟩ = some (.int .i64 x)) ∧ Below wr.heap.size wr wx)
            (first | exact HK.out _ (Below.refl _ _).drew | (go_split_ands; refine HK.out _ ?_; go_grown; done))
            (first | (go_at_call 64; refine (HFD.out _ ?_).mono ?_; (go_split_ands; assumption); rintro e w7 ⟨hp7, hb7⟩; obtain rfl := hp7.2 p rfl; clear hp7; go_split_ands; have hB7 : Below wr.heap.size wr w7 := keepB (by assumption) hb7; have hs7 := hB7.size; have hc7 := rd_cell hb7; have hf7 := rd_free hb7; clear hb7))
          all_goals
            rename_i hSl
            have HBZ := Lib.hid hSl.2.2
            have d3' := hSl.1.2.2
            clear hSl
            go_wp2
            go_roundw
            case rel => exact ⟨i + 1, by omega, by go_num, HX.out, HST.out.below HBZ.out q1, HB.out.trans (HBZ.out.mono HB.out.size)⟩
            case measure => simp [intOf]; omega
    · obtain rfl : op.after.length = i := by omega
      have HX := Lib.hid (any_done HU.out)
      go_wp2
      go_ret
      exact ⟨ret_bool (by rw [HAFE.out]; exact HX.out.symm), HB.out⟩
end Go.Proofs.Ytelgkangojmhdaa
