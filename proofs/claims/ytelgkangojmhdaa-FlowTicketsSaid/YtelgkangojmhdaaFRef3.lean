/- The reference of the flow: Simulate: the walk. -/
import Derived.Test.YtelgkangojmhdaaFRef2
import Derived.Deep.AppendLies
import Derived.Deep.RegionHeld3
import Derived.Deep.RegionWith
import Derived.Deep.DeepCutAuto
import Derived.Deep.CutBlock
import Derived.RegionTactic
import Derived.Outline
import Derived.Handy
namespace Go.Proofs.Ytelgkangojmhdaa
open Go.RowKit

theorem nxPost_some {at_ : List Int} {bs : List Bn} {b o : Nat} {s : Int} {e : Ending} (h : NxPost at_ bs (some (b, o, s)) e) :
    e = .returned (.tuple #[.agg #[.int .i64 (bs.getD b bn0).tk, .int .i64 (o : Int), .int .i64 (at_.getD o 0), .int .i64 s, .int .i64 0], .agg #[.int .i64 (bs.getD b bn0).tk, .int .i64 (bs.getD b bn0).gm, .int .i64 (bs.getD b bn0).sz, .int .i64 (bs.getD b bn0).lot, .int .i64 (bs.getD b bn0).fr, .int .i64 (bs.getD b bn0).tp], .bool true]) := h
theorem stOk_of {n : Nat} {ss : List (List Int)} {at_ : List Int} {e : Ending} {w' : World} (h : StPost n ss e w') (hp : puts n (flat ss) = (0, at_)) :
    ∃ A c, e = .returned (.tuple #[.slice A n c, .int .i64 0]) ∧ IRd w' w'.heap.size A at_ ∧ at_.length = n := by
  obtain ⟨A, c, h1, h2⟩ := h
  rw [hp] at h1 h2
  have hl := (puts_len _ _ hp).1
  simp only [hl] at h1
  exact ⟨A, c, h1, h2, hl⟩
theorem grownBy_set' (w : World) (p : Addr) (v : Value) : w.grownBy (w.setCell p v) (some p.block) :=
  ⟨rfl, rfl, rfl, by simp, fun k _ hne => Below.heap_setCell w p v k (fun e => hne (by rw [e]))⟩
/-- The state of the reference's run. -/
structure RSim (w2 wx : World) (l : List Opn) (at_ : List Int) (sb : List Bn) (ds : List M.Dn) (v : Value) (ts : List Tsk) : Prop where
  ok : SimOk l at_ ds sb ts
  go : simR l at_ ds sb (l.length * sb.length - ts.length) ts = simR l at_ ds sb (l.length * sb.length) []
  own : wx.ownsRow w2.heap.size 39 5 v ts.length (tkCells ts)
  bl : Below w2.heap.size w2 wx

set_option maxRecDepth 100000 in
set_option maxHeartbeats 4000000 in
theorem refSimulate_any (A : Option Addr) (cap : Nat) (l : List Opn) (S : Option Addr) (capS : Nat) (ss : List (List Int)) (Ab : Option Addr) (capB : Nat) (bs : List Bn) (D : Option Addr) (capD : Nat) (ds : List M.Dn) (w : World)
    (h : ORd w w.heap.size A l) (hn : l.length ≤ 1000) (hs : OSmall l) (hS : SRd w w.heap.size S ss) (hsm : SSmall ss) (hB : BRd w w.heap.size Ab bs) (hbl : bs.length ≤ 1000) (hbr : ∀ b ∈ bs, BnR b) (hD : M.DRd w w.heap.size D ds) (hdl : ds.length ≤ 1000) :
    Calls Try.prog 23 #[.slice A l.length cap, .slice S ss.length capS, .slice Ab bs.length capB, .slice D ds.length capD] w fun e w' => SimPost (simRes l ss bs ds) e w' ∧ Below w.heap.size w w' := by
  have HO := Lib.hid h
  have HS := Lib.hid hs
  have HSS := Lib.hid hS
  have HSM := Lib.hid hsm
  have HBB := Lib.hid hB
  have HBR := Lib.hid hbr
  have HDD := Lib.hid hD
  clear h hs hS hsm hB hbr hD
  go_enter Try.func23, Try.ntmps23
  go_wp2_with fail
  ((with_reducible refine (refCommon_any A cap l S capS ss Ab capB bs D capD ds _ HO.out hn HS.out HSS.out HSM.out HBB.out hbl HBR.out HDD.out hdl).mono ?_); rintro e w1 ⟨rfl, hb1⟩)
  have HB1 := Lib.hid hb1
  clear hb1
  by_cases hz : comErr l ss bs ds = 0
  · have HZ := Lib.hid hz
    obtain ⟨at_, hp, hg, hf⟩ := flowOk_of hz
    have HP := Lib.hid hp
    have HF := Lib.hid hf
    obtain ⟨ho, _, hbo, _⟩ := com_zero hz
    have HSD := Lib.hid (sound_of (ordErr_zero ho).1)
    have HND := Lib.hid hbo.nd
    have HBO := Lib.hid hbo
    have hl16 := hf.len
    have hb60 := hbo.len
    have hlen : (sortB bs).length = bs.length := (sortB_perm bs).length_eq
    have HLEN := Lib.hid hlen
    have HRES : Hid (simRes l ss bs ds = simR l at_ ds (sortB bs) (l.length * (sortB bs).length) []) := by
      unfold simRes
      rw [if_neg (by simp [hz]), hp, (sortB_perm bs).length_eq]
      exact Lib.hid rfl
    have hlb : l.length * bs.length ≤ 16 * 60 := Nat.mul_le_mul hl16 hb60
    have hlb0 : (0 : Int) ≤ (l.length : Int) * (bs.length : Int) := Int.mul_nonneg (by omega) (by omega)
    have hlb1 : (l.length : Int) * (bs.length : Int) ≤ 960 := by
      have := Int.mul_le_mul (show (l.length : Int) ≤ 16 by omega) (show (bs.length : Int) ≤ 60 by omega) (by omega) (by omega)
      omega
    clear hz hp hg hf ho hbo hlen
    rw [HZ.out]
    go_wp2_with fail
    ((with_reducible refine (stations_any l.length S capS ss _ hn (HSS.out.go HB1.out) HSM.out).mono ?_); rintro e w2 ⟨hst, hb2⟩)
    obtain ⟨Aa, ca, rfl, hra, hla⟩ := stOk_of hst HP.out
    have HB2 := Lib.hid (HB1.out.trans (hb2.mono HB1.out.size))
    have HRA := Lib.hid hra
    have HLA := Lib.hid hla
    clear hst hb2 hra hla
    go_wp2_with fail
    have HTOT := Lib.hid (rfl : (l.length * bs.length : Nat) = l.length * bs.length)
    go_loopw [13, 14, 15, 16, 17, 18, 19] (fun v j _ _ _ _ _ wx => ∃ ts, j = .int .i64 ((l.length * bs.length - ts.length : Nat) : Int) ∧ RSim w2 wx l at_ (sortB bs) ds v ts) (fun v _ _ _ _ _ _ _ => l.length * bs.length - sliceLen v)
    case atStart => exact ⟨[], by simp, SimOk.nil, rfl, ⟨by simp [tkCells], .inl ⟨rfl, rfl⟩⟩, Below.refl _ _⟩
    case round =>
      obtain ⟨ts, rfl, hrl⟩ := hrel
      obtain ⟨A5, c5, rfl⟩ := own_any hrl.own
      have HRL := Lib.hid hrl
      have HBW := Lib.hid (HB2.out.trans (hrl.bl.mono HB2.out.size))
      have hle : ts.length ≤ l.length * bs.length := by have := hrl.ok.len; rw [HLEN.out] at this; exact this
      clear hrl
      by_cases hlt : ts.length < l.length * bs.length
      · rcases hpk : pickP l at_ (sortB bs) ts with _ | ⟨b, o, s⟩
        · exfalso
          have := (sim_end HF.out HRL.out.ok hpk).1
          rw [HLEN.out] at this
          omega
        · have HPK := Lib.hid hpk
          obtain ⟨b', hb', hbe, hpr⟩ := pickR_some HND.out hpk
          obtain ⟨hb, ho, her, _⟩ := pickP_some hpk
          have hst := sim_start HRL.out.ok hpk
          have hfe := sim_err HF.out hb ho s hst.1 hst.2
          have wm0 := HF.out.pl _ (bmem hb)
          have wm1 := HF.out.mins o ho
          have wm2 := HF.out.line.m1 o ho
          have hgt : (0 : Int) < ((l.length * bs.length - ts.length : Nat) : Int) := by omega
          generalize hN : l.length * bs.length - ts.length = N at *
          have HN := Lib.hid hN
          have hN1 : N ≤ 960 := by omega
          have hN0 : 1 ≤ N := by omega
          clear hN hpk
          go_wp2_with fail
          ((with_reducible refine (next49_any A cap l Aa ca at_ Ab capB bs A5 c5 ts _ (HO.out.go HBW.out) HS.out hn (HRA.out.go HRL.out.bl) HLA.out (HBB.out.go HBW.out) hbl (TRd.of_own HRL.out.own) (by omega)).mono ?_); rintro e w5 ⟨hp5, hb5⟩)
          rw [hpr] at hp5
          have he5 := nxPost_some hp5
          rw [hbe] at he5
          clear hp5
          obtain ⟨x, hx⟩ : ∃ x, (sortB bs).getD b bn0 = x := ⟨_, rfl⟩
          obtain ⟨y, hy⟩ : ∃ y, at_.getD o 0 = y := ⟨_, rfl⟩
          rw [hx] at he5 hfe wm0 her
          rw [hy] at he5
          subst he5
          have HB5 := Lib.hid (HBW.out.trans (hb5.mono HBW.out.size))
          have HBR5 := Lib.hid (HRL.out.bl.trans (hb5.mono HRL.out.bl.size))
          have HT5 := Lib.hid (own_belowT HRL.out.own hb5)
          have hs5' := hb5.size
          have HX := Lib.hid hx
          have HY := Lib.hid hy
          have HER := Lib.hid her
          have HFE := Lib.hid hfe
          have HPR := Lib.hid hpr
          have HBE := Lib.hid hbe
          clear hx hy her hfe hpr hbe hb5
          go_wp2_with fail
          obtain ⟨w6, hw6⟩ : ∃ w6, w6 = (w5.alloc (.cells #[.int .i64 x.tk, .int .i64 (o : Int), .int .i64 y, .int .i64 s, .int .i64 0] 39)).alloc (.cells #[.int .i64 x.tk, .int .i64 x.gm, .int .i64 x.sz, .int .i64 x.lot, .int .i64 x.fr, .int .i64 x.tp] 42) := ⟨_, rfl⟩
          have K15 : Blk w6 w5.heap.size 39 [.int .i64 x.tk, .int .i64 (o : Int), .int .i64 y, .int .i64 s, .int .i64 0] := by rw [hw6]; exact (Blk.new w5 _ _).alloc _
          have K16 : Blk w6 (w5.heap.size + 1) 42 [.int .i64 x.tk, .int .i64 x.gm, .int .i64 x.sz, .int .i64 x.lot, .int .i64 x.fr, .int .i64 x.tp] := by
            have := Blk.new (w5.alloc (.cells #[.int .i64 x.tk, .int .i64 (o : Int), .int .i64 y, .int .i64 s, .int .i64 0] 39)) #[.int .i64 x.tk, .int .i64 x.gm, .int .i64 x.sz, .int .i64 x.lot, .int .i64 x.fr, .int .i64 x.tp] 42
            rw [World.size_alloc] at this
            rw [hw6]; exact this
          have B6 : Below w5.heap.size w5 w6 := by rw [hw6]; exact ((Below.refl _ _).alloc (Nat.le_refl _) _).alloc (by simp) _
          have s6 : w5.heap.size + 1 < w6.heap.size := K16.lt
          rw [← hw6]
          have HB6 := Lib.hid (HB5.out.trans (B6.mono HB5.out.size))
          have HBR6 := Lib.hid (HBR5.out.trans (B6.mono HBR5.out.size))
          have HT6 := Lib.hid (own_belowT HT5.out B6)
          have HK15 := Lib.hid K15
          have HK16 := Lib.hid K16
          clear hw6 B6 K15 K16
          obtain ⟨bx, off, op, hA, hbx, hop, hat⟩ := HO.out.at_ HB6.out ho
          have hmn : mn l o = op.mins := by unfold mn; rw [List.getD_eq_getElem?_getD, hop]; rfl
          have hmc : mc l o = op.mach := by unfold mc; rw [List.getD_eq_getElem?_getD, hop]; rfl
          have hc1 := hat.2.1
          subst hA
          obtain ⟨E, hE⟩ : ∃ E, E = M.finT ds op.mach s (wk l x o) := ⟨_, rfl⟩
          have HTK : Hid (tskOf l at_ ds ((sortB bs).getD b bn0) o s = ⟨x.tk, o, y, s, E⟩) := by
            rw [HX.out]; unfold tskOf; rw [hmc, ← hE, HY.out]; exact Lib.hid rfl
          have HWK : Hid (∀ wx, Below w6.heap.size w6 wx → Calls Try.prog 38 #[.slice (some ⟨bx, off, none⟩) l.length cap, .int .i64 (o : Int), .agg #[.int .i64 x.tk, .int .i64 x.gm, .int .i64 x.sz, .int .i64 x.lot, .int .i64 x.fr, .int .i64 x.tp]] wx fun e w' => e = .returned (.int .i64 (wk l x o)) ∧ Below wx.heap.size wx w') :=
            Lib.hid fun wx hb => work49_any (some ⟨bx, off, none⟩) cap l o x wx (HO.out.go (HB6.out.trans (hb.mono HB6.out.size))) ho ⟨wm2.1, wm1⟩ wm0
          have HFN : Hid (∀ wx, Below w6.heap.size w6 wx → Calls Try.prog 37 #[.slice D ds.length capD, .int .i64 op.mach, .int .i64 s, .int .i64 (wk l x o)] wx fun e w' => e = .returned (.tuple #[.int .i64 E, .int .i64 0]) ∧ Below wx.heap.size wx w') := by
            refine Lib.hid fun wx hb => ?_
            have := M.refFinish_any D capD ds op.mach s (wk l x o) wx (dgo HDD.out (HB6.out.trans (hb.mono HB6.out.size))) hdl
            rw [HFE.out, ← hE] at this
            exact this
          have HE := Lib.hid hE
          have HK : Hid (∀ wx, Below w6.heap.size w6 wx → ((wx.cell? ⟨w5.heap.size, 1, none⟩ = some (.int .i64 (o : Int)) ∧ wx.cell? ⟨w5.heap.size, 3, none⟩ = some (.int .i64 s) ∧ wx.cell? ⟨bx, off + o * 5 + 1, none⟩ = some (.int .i64 op.mach)) ∧
              (wx.cell? ⟨w5.heap.size + 1, 0, none⟩ = some (.int .i64 x.tk) ∧ wx.cell? ⟨w5.heap.size + 1, 1, none⟩ = some (.int .i64 x.gm) ∧ wx.cell? ⟨w5.heap.size + 1, 2, none⟩ = some (.int .i64 x.sz) ∧ wx.cell? ⟨w5.heap.size + 1, 3, none⟩ = some (.int .i64 x.lot) ∧ wx.cell? ⟨w5.heap.size + 1, 4, none⟩ = some (.int .i64 x.fr) ∧ wx.cell? ⟨w5.heap.size + 1, 5, none⟩ = some (.int .i64 x.tp)) ∧ Below w6.heap.size w6 wx)) := by
            refine Lib.hid fun wx hb => ?_
            have k15 := HK15.out.below hb HK15.out.lt
            have k16 := HK16.out.below hb HK16.out.lt
            exact ⟨⟨k15.cell (i := 1) rfl, k15.cell (i := 3) rfl, (hb.cell (p := ⟨bx, _, none⟩) (Nat.lt_of_lt_of_le hbx HB6.out.size)).trans hc1⟩, ⟨k16.cell (i := 0) rfl, k16.cell (i := 1) rfl, k16.cell (i := 2) rfl, k16.cell (i := 3) rfl, k16.cell (i := 4) rfl, k16.cell (i := 5) rfl⟩, hb⟩
          clear hE hmn hmc hop hat hc1
          have i0 : (0 : Int) ≤ (o : Int) := by omega
          have i1 : (o : Int) < (l.length : Int) := by omega
          generalize hwk : wk l x o = wkv at *
          have HWKV := Lib.hid hwk
          clear hwk
          go_region_held3 (fun wx => (wx.cell? ⟨w5.heap.size, 1, none⟩ = some (.int .i64 (o : Int)) ∧ wx.cell? ⟨w5.heap.size, 3, none⟩ = some (.int .i64 s) ∧ wx.cell? ⟨bx, off + o * 5 + 1, none⟩ = some (.int .i64 op.mach)) ∧
              (wx.cell? ⟨w5.heap.size + 1, 0, none⟩ = some (.int .i64 x.tk) ∧ wx.cell? ⟨w5.heap.size + 1, 1, none⟩ = some (.int .i64 x.gm) ∧ wx.cell? ⟨w5.heap.size + 1, 2, none⟩ = some (.int .i64 x.sz) ∧ wx.cell? ⟨w5.heap.size + 1, 3, none⟩ = some (.int .i64 x.lot) ∧ wx.cell? ⟨w5.heap.size + 1, 4, none⟩ = some (.int .i64 x.fr) ∧ wx.cell? ⟨w5.heap.size + 1, 5, none⟩ = some (.int .i64 x.tp)) ∧ Below w6.heap.size w6 wx)
            (first | exact HK.out _ (Below.refl _ _).drew | (go_split_ands; exact HK.out _ (keepB (by assumption) hb7)))
            (first | (go_at_call 38; refine (HWK.out _ ?_).mono ?_; (go_split_ands; assumption); rintro e w7 ⟨rfl, hb7⟩) | (go_at_call 37; refine (HFN.out _ ?_).mono ?_; (go_split_ands; assumption); rintro e w7 ⟨rfl, hb7⟩))
          rename_i hSl
          have hb8 := hSl.2.2
          have HB8 := Lib.hid (HB6.out.trans (hb8.mono HB6.out.size))
          have HBR8 := Lib.hid (HBR6.out.trans (hb8.mono HBR6.out.size))
          have HT8 := Lib.hid (own_belowT HT6.out hb8)
          have HK8 := Lib.hid (HK15.out.below hb8 HK15.out.lt)
          have hs8 := hb8.size
          have hs5 : w2.heap.size ≤ w5.heap.size := HBR5.out.size
          clear hSl hb8
          clear hb7
          rename World => w8
          by_cases hlong : (1073741824 : Int) < E
          · go_wp2
            go_ret2
            have hres : simRes l ss bs ds = (3, []) := by
              rw [HRES.out, ← HRL.out.go]
              obtain ⟨f, hf⟩ : ∃ f, l.length * (sortB bs).length - ts.length = f + 1 := ⟨l.length * (sortB bs).length - ts.length - 1, by rw [HLEN.out]; omega⟩
              rw [hf]
              exact simR_long HPK.out (by rw [HX.out, HWKV.out]; exact HFE.out) (by rw [HTK.out]; exact hlong)
            refine ⟨?_, HB8.out⟩
            rw [hres]
            exact ⟨none, 0, rfl, fun h => absurd rfl h, Nat.le_refl _⟩
          · have c0 := HK8.out.cell (i := 0) rfl
            have c1 := HK8.out.cell (i := 1) rfl
            have c2 := HK8.out.cell (i := 2) rfl
            have c3 := HK8.out.cell (i := 3) rfl
            have c4 := HK8.out.cell (i := 4) rfl
            have f4 := HK8.out.free 4
            have HNB : Hid (∀ k, (Value.slice A5 ts.length c5).ownBlock = some k → k ≠ w5.heap.size) := Lib.hid fun k hk e => by have := (HRL.out.own.lt k hk).2; omega
            have HT9 : Hid ((w8.setCell ⟨w5.heap.size, 4, none⟩ (.int .i64 E)).ownsRow w2.heap.size 39 5 (.slice A5 ts.length c5) ts.length (tkCells ts)) :=
              HT8.out.kept (grownBy_set' _ _ _) (.inr fun e => HNB.out _ e rfl)
            have HBR9 := Lib.hid (HBR8.out.setCell (p := ⟨w5.heap.size, 4, none⟩) hs5 (.int .i64 E))
            have hs9 : w2.heap.size ≤ (w8.setCell ⟨w5.heap.size, 4, none⟩ (.int .i64 E)).heap.size := by have := HBR8.out.size; simp; omega
            obtain ⟨j0, hi0, hz0, hz1, hz2⟩ := info_parts infoTk
            have hts : ts.length ≤ 960 := by omega
            have HNEW : Hid (((w8.setCell ⟨w5.heap.size, 4, none⟩ (.int .i64 E)).alloc (.cells #[.int .i64 x.tk, .int .i64 (o : Int), .int .i64 y, .int .i64 s, .int .i64 E] 39)).heap[w8.heap.size]? = some (.cells #[.int .i64 x.tk, .int .i64 (o : Int), .int .i64 y, .int .i64 s, .int .i64 E] 39 (0, 0))) := by
              have := heap_alloc_new (w8.setCell ⟨w5.heap.size, 4, none⟩ (.int .i64 E)) (.cells #[.int .i64 x.tk, .int .i64 (o : Int), .int .i64 y, .int .i64 s, .int .i64 E] 39)
              rw [World.size_setCell] at this
              exact Lib.hid this
            go_wp2_with (at_builtin; refine wpList_append_lies _ rfl _ _ _ rfl w2.heap.size 39 j0 _ 5 40 Try.underlying29 hi0 hz0 hz1 hz2 rfl (by omega) (.slice A5 ts.length c5) ts.length (tkCells ts) rfl (HT9.out.alloc _) ⟨w8.heap.size, 0, none⟩ 1 1 [.int .i64 x.tk, .int .i64 (o : Int), .int .i64 y, .int .i64 s, .int .i64 E] rfl rfl (World.news_of_block (cs := #[.int .i64 x.tk, .int .i64 (o : Int), .int .i64 y, .int .i64 s, .int .i64 E]) (t := 39) (fr := (0, 0)) HNEW.out) (by simp [Value.oneCell']) (by omega) (by unfold maxLen; omega) (by omega) (by simp at hs9 ⊢; omega) (w8.heap.size + 1) (by simp) ?_; intro gg cgg w9 hown9 hgrow9 hat9 hlt9)
            go_roundw
            case rel =>
              have e3 := HRL.out.ok.snoc HPK.out (by rw [HX.out, HWKV.out]; exact HFE.out) (by rw [HTK.out]; show E ≤ _; omega)
              rw [HTK.out] at e3
              have hN' := HN.out
              refine ⟨ts ++ [⟨x.tk, o, y, s, E⟩], ?_, e3, ?_, ?_, ?_⟩
              · rw [List.length_append, List.length_singleton]
                exact congrArg (Value.int .i64) (by omega)
              · rw [← HRL.out.go]
                obtain ⟨f, hf⟩ : ∃ f, l.length * (sortB bs).length - ts.length = f + 1 := ⟨l.length * (sortB bs).length - ts.length - 1, by rw [HLEN.out]; omega⟩
                rw [hf, simR_next HPK.out (by rw [HX.out, HWKV.out]; exact HFE.out) (by rw [HTK.out]; show ¬ (1073741824 : Int) < E; omega), HTK.out]
                congr 1
                rw [List.length_append, List.length_singleton]
                omega
              · rw [tkCells_snoc, List.length_append]
                exact hown9
              · exact (HBR9.out.alloc hs9 _).grown hgrow9 (by simp at hs9 ⊢; omega) (fun k hk => (HRL.out.own.lt k hk).1)
            case measure => simp [sliceLen]; omega
      · have hte : ts.length = l.length * bs.length := by omega
        have HTE := Lib.hid hte
        have hz0 : l.length * bs.length - ts.length = 0 := by omega
        rw [hz0]
        clear hte hz0
        go_wp2
        go_ret2
        have hres : simRes l ss bs ds = (0, ts) := by
          rw [HRES.out, ← HRL.out.go, HLEN.out, HTE.out, Nat.sub_self]; rfl
        refine ⟨⟨A5, c5, ?_, ?_, ?_⟩, HBW.out⟩
        · rw [hres]; rfl
        · rw [hres]; exact TRd.of_own HRL.out.own
        · rw [hres]; exact own_cap HRL.out.own
  · have hres : simRes l ss bs ds = (comErr l ss bs ds, []) := by unfold simRes; rw [if_pos hz]
    have HRES := Lib.hid hres
    clear hres
    have hzb : (comErr l ss bs ds != 0) = true := by simpa using hz
    go_wp2
    go_ret2
    refine ⟨?_, HB1.out⟩
    rw [HRES.out]
    exact ⟨none, 0, rfl, fun h => absurd rfl h, Nat.le_refl _⟩
end Go.Proofs.Ytelgkangojmhdaa
