/- flow.Simulate: the walk. -/
import Derived.Test.YtelgkangojmhdaaFlow4
import Derived.Deep.AppendLies
import Derived.BigRegion
import Derived.Deep.RegionHeld3
import Derived.Deep.RegionWith
import Derived.Deep.DeepCutAuto
import Derived.Deep.CutBlock
import Derived.RegionTactic
import Derived.Outline
import Derived.Handy
namespace Go.Proofs.Ytelgkangojmhdaa
open Go.RowKit

set_option maxRecDepth 100000 in
set_option maxHeartbeats 4000000 in
theorem simulate_any (A : Option Addr) (cap : Nat) (l : List Opn) (S : Option Addr) (capS : Nat) (ss : List (List Int)) (Ab : Option Addr) (capB : Nat) (bs : List Bn) (D : Option Addr) (capD : Nat) (ds : List M.Dn) (w : World)
    (h : ORd w w.heap.size A l) (hn : l.length ≤ 1000) (hcap : l.length ≤ cap) (hs : OSmall l) (hS : SRd w w.heap.size S ss) (hsm : SSmall ss) (hB : BRd w w.heap.size Ab bs) (hbl : bs.length ≤ 1000) (hbc : bs.length ≤ capB) (hbn : Ab = none → capB = 0) (hbr : ∀ b ∈ bs, BnR b) (hD : M.DRd w w.heap.size D ds) (hdl : ds.length ≤ 1000) :
    Calls Try.prog 30 #[.slice A l.length cap, .slice S ss.length capS, .slice Ab bs.length capB, .slice D ds.length capD] w fun e w' => SimPost (simRes l ss bs ds) e w' ∧ Below w.heap.size w w' := by
  have HO := Lib.hid h
  have HS := Lib.hid hs
  have HSS := Lib.hid hS
  have HSM := Lib.hid hsm
  have HBB := Lib.hid hB
  have HBR := Lib.hid hbr
  have HBN := Lib.hid hbn
  have HDD := Lib.hid hD
  clear h hs hS hsm hB hbr hD hbn
  go_enter Try.func30, Try.ntmps30
  go_wp2_with fail
  ((with_reducible refine (common_any A cap l S capS ss Ab capB bs D capD ds _ HO.out hn hcap HS.out HSS.out HSM.out HBB.out hbl hbc HBR.out HDD.out hdl).mono ?_); rintro e w1 ⟨rfl, hb1⟩)
  have HB1 := Lib.hid hb1
  clear hb1
  by_cases hz : comErr l ss bs ds = 0
  · have HZ := Lib.hid hz
    obtain ⟨at_, hp, hg, hf⟩ := flowOk_of hz
    have HP := Lib.hid hp
    have HG := Lib.hid hg
    have HF := Lib.hid hf
    obtain ⟨ho, _, hbo, _⟩ := com_zero hz
    have HSD := Lib.hid (sound_of (ordErr_zero ho).1)
    have HND := Lib.hid hbo.nd
    have hl16 := hf.len
    have HRES : Hid (simRes l ss bs ds = simR l at_ ds (sortB bs) (l.length * (sortB bs).length) []) := by
      unfold simRes
      rw [if_neg (by simp [hz]), hp, (sortB_perm bs).length_eq]
      exact Lib.hid rfl
    clear hz hp hg hf ho
    rw [HZ.out]
    go_wp2_with fail
    ((with_reducible refine (clone_any Ab capB bs _ (HBB.out.go HB1.out) HBN.out hbl).mono ?_); rintro e w2 ⟨⟨A2, c2, rfl, ho2⟩, hb2⟩)
    have HB2 := Lib.hid (HB1.out.trans (hb2.mono HB1.out.size))
    have HO2 := Lib.hid ho2
    have hs2 := hb2.size
    clear hb2 ho2
    go_wp2_with fail
    ((with_reducible refine (bnSort_any w1.heap.size bs A2 c2 _ HO2.out hbl).mono ?_); rintro e w3 ⟨rfl, ⟨bs', hp3, ha3, hr3⟩, hb3⟩)
    have HB3 := Lib.hid (HB2.out.trans (hb3.mono HB1.out.size))
    have hbs' := sortB_is HND.out hp3 ha3
    subst hbs'
    have hlen : (sortB bs).length = bs.length := hp3.length_eq
    have HRB := Lib.hid hr3
    have HLEN := Lib.hid hlen
    clear hb3 hp3 ha3 hr3 hlen
    go_wp2_with fail
    have hmk := mkInts ss.length (by have := HSM.out.1; omega)
    have HS3 := Lib.hid (HSS.out.go HB3.out)
    have hl1000 : l.length ≤ 1000 := by omega
    go_cut [12] (fun s12 wx => MadeRoom w3 A cap l at_ ss.length bs.length s12 wx)
    case first =>
      have HSg : ∀ wx, Below w3.heap.size w3 wx → SRd wx wx.heap.size S ss := fun wx hb => HS3.out.go hb
      have HSG := Lib.hid HSg
      clear HSg
      go_region_with (first
        | (go_at_call 48; refine (places_any l.length S capS ss at_ _ hl1000 ?_ HSM.out HP.out HG.out).mono ?_; (refine HSG.out _ ?_; go_grown); rintro e wp ⟨⟨ba, rfl, hlba, hra⟩, hbp⟩; have hBp : Below w3.heap.size w3 wp := (Below.trans (by go_grown) (hbp.mono (by go_size))); have hsp := hBp.size; unfold slc)
        | (go_at_call 49; refine (table_any bs.length l.length _ hbl hl1000).mono ?_; rintro e wt ⟨⟨bt, gs, rfl, hlbt, htab⟩, hbt⟩; have hBt : Below w3.heap.size w3 wt := (Below.trans (by go_grown) (hbt.mono (by go_size))); have hst := hBt.size; unfold slc))
      all_goals (go_wp2_with fail; go_meet)
      · exact made_room hBt ((hra.alloc _).below hbt (hra.alloc _).lt) ((Row.new _ _).below hbt (Row.new _ _).lt) htab hlba hsp (by simp at hlbt; omega) (by have := hra.lt; omega) (fun i g hg => by have := (htab.gt hg).1; have := hra.lt; simp at hlbt; omega)
      · have hm := made_room (A := A) (cap := cap) (K := ss.length) (hBt.alloc hst _) ((hra.below hbt hra.lt).alloc _) (Row.new _ _) (htab.below ((Below.refl _ _).alloc (Nat.le_refl _) _)) hlba hst (by omega) (by have := (hra.below hbt hra.lt).lt; omega) (fun i g hg => by have := htab.gt hg; have := hra.lt; omega)
        rw [World.size_alloc] at hm
        exact hm
      · have hn0 : Row (w3.alloc (.cells (intCells (List.replicate ss.length 0)) 3)).drew w3.heap.size (List.replicate ss.length 0) := Row.new w3 _
        exact made_room hBt (hra.below hbt hra.lt) ((hn0.below hbp hn0.lt).below hbt (hn0.below hbp hn0.lt).lt) htab (by simp at hlba; omega) (Nat.le_refl _) (by omega) (by simp at hlba; omega) (fun i g hg => by have := (htab.gt hg).1; have := hra.lt; omega)
    case rest =>
      obtain ⟨br, ba, bb, bt, gs, rfl, hroom, hbc4, hap⟩ := hcut
      have HRM := Lib.hid hroom
      have HB4 := Lib.hid hbc4
      have HAP := Lib.hid hap
      clear hroom hbc4 hap hmk
      go_wp2_with fail
      go_loopw [13, 14, 15, 16, 17, 18, 19] (fun v _ _ _ _ _ _ wx => ∃ ts, SimRel w3 wx wc.heap.size A cap l at_ ss.length (sortB bs) ds br ba bb bt gs v ts) (fun v _ _ _ _ _ _ _ => l.length * bs.length - sliceLen v)
      case atStart => exact ⟨[], SimOk.nil, rfl, by rw [bzOf_nil, tabOf_nil, HLEN.out]; exact HRM.out, ⟨by simp [tkCells], .inl ⟨rfl, rfl⟩⟩, HB4.out, Nat.le_refl _⟩
      case round =>
        obtain ⟨ts, hrl⟩ := hrel
        obtain ⟨A5, c5, rfl⟩ := own_any hrl.own
        have HRL := Lib.hid hrl
        have HBW := Lib.hid (HB3.out.trans (hrl.bl.mono HB3.out.size))
        clear hrl
        rcases hpk : pickP l at_ (sortB bs) ts with _ | ⟨b, o, s⟩
        · have HPK := Lib.hid hpk
          clear hpk
          go_wp2_with fail
          ((with_reducible refine (next_sim br A cap l ba at_ bb ss.length bt gs (sortB bs) ds ts bs.length _ HLEN.out HF.out HRL.out.ok HRL.out.rm (HO.out.go HBW.out) HS.out HSD.out hbl).mono ?_); rintro e w5 ⟨hp5, hb5⟩)
          obtain rfl := hp5.1 HPK.out
          have HB5 := Lib.hid hb5
          clear hb5 hp5
          go_wp2
          go_ret2
          refine ⟨⟨A5, c5, ?_, ?_, ?_⟩, HBW.out.trans (HB5.out.mono HBW.out.size)⟩
          · rw [HRES.out, ← HRL.out.go, simR_none HPK.out]; rfl
          · rw [HRES.out, ← HRL.out.go, simR_none HPK.out]; exact (TRd.of_own HRL.out.own).go HB5.out
          · rw [HRES.out, ← HRL.out.go, simR_none HPK.out]; exact own_cap HRL.out.own
        · have HPK := Lib.hid hpk
          obtain ⟨hb, ho, her, _⟩ := pickP_some hpk
          have hst := sim_start HRL.out.ok hpk
          have hgo := sim_go HRL.out.ok hpk
          have hfe := sim_err HF.out hb ho s hst.1 hst.2
          have HER := Lib.hid her
          obtain ⟨wm0, wm1⟩ := And.intro (HF.out.pl _ (bmem hb)) (HF.out.mins o ho)
          clear hpk her
          go_wp2_with fail
          ((with_reducible refine (next_sim br A cap l ba at_ bb ss.length bt gs (sortB bs) ds ts bs.length _ HLEN.out HF.out HRL.out.ok HRL.out.rm (HO.out.go HBW.out) HS.out HSD.out hbl).mono ?_); rintro e w5 ⟨hp5, hb5⟩)
          obtain rfl := hp5.2 _ _ _ HPK.out
          have HB5 := Lib.hid (HBW.out.trans (hb5.mono HBW.out.size))
          have HB5' := Lib.hid (HRL.out.bl.trans (hb5.mono HRL.out.bl.size))
          have HR5 := Lib.hid (HRL.out.rm.below hb5)
          have HT5 := Lib.hid (own_belowT HRL.out.own hb5)
          clear hp5
          obtain ⟨bx, off, op, hA, hbx, hop, hat⟩ := HO.out.at_ HB5.out ho
          obtain ⟨by_, offb, x, hA2, hby, hx, hbt⟩ := HRB.out.at_ HB5'.out hb
          obtain ⟨hc0, hc1, hc2, ⟨Af, cf, hc3, _⟩, ⟨Au, cu, hc4, _⟩⟩ := hat
          obtain ⟨hd0, hd1, hd2, hd3, hd4, hd5⟩ := hbt
          have hmn : mn l o = op.mins := by unfold mn; rw [List.getD_eq_getElem?_getD, hop]; rfl
          have hmc : mc l o = op.mach := by unfold mc; rw [List.getD_eq_getElem?_getD, hop]; rfl
          have hgx : (sortB bs).getD b bn0 = x := by rw [List.getD_eq_getElem?_getD, hx]; rfl
          have hwk : wk l x o = op.mins * (x.tp - x.fr) := by unfold wk; rw [hmn]
          rw [hgx] at hfe wm0
          rw [hwk] at hfe
          rw [hmn] at wm1
          obtain ⟨E, hE⟩ : ∃ E, E = M.finT ds op.mach s (op.mins * (x.tp - x.fr)) := ⟨_, rfl⟩
          have HTK : Hid (tskOf l at_ ds ((sortB bs).getD b bn0) o s = ⟨x.tk, o, at_.getD o 0, s, E⟩) := by
            rw [hgx]; unfold tskOf; rw [hwk, hmc, ← hE]; exact Lib.hid rfl
          have hmn1 : 1 ≤ op.mins := by
            have := HSD.out.mins _ (getD_mem ho)
            have h2 : (l.getD o op0).mins = op.mins := hmn
            omega
          have HFIN : Hid (∀ wx, Below w5.heap.size w5 wx → Calls Try.prog 51 #[.agg #[.string op.name, .int .i64 op.mach, .int .i64 op.mins, .slice Af op.after.length cf, .slice Au op.uses.length cu], .agg #[.int .i64 x.tk, .int .i64 x.gm, .int .i64 x.sz, .int .i64 x.lot, .int .i64 x.fr, .int .i64 x.tp], .slice D ds.length capD, .int .i64 s] wx
              fun e w' => e = .returned (.tuple #[.int .i64 E, .int .i64 0]) ∧ Below wx.heap.size wx w') := by
            refine Lib.hid fun wx hb => ?_
            have := flowFinish_any op.name op.mach op.mins (.slice Af op.after.length cf) (.slice Au op.uses.length cu) x D capD ds s wx hmn1 wm1 wm0.1 wm0.2 (dgo HDD.out (HB5.out.trans (hb.mono HB5.out.size))) hdl
            rw [← hE, hfe] at this
            exact this
          have HX := Lib.hid hx
          have HGX := Lib.hid hgx
          have HE := Lib.hid hE
          clear hmn hmc hgx hwk hfe hE hx hop
          subst hA hA2
          have HK : Hid (∀ wx, Below w5.heap.size w5 wx → (wx.cell? ⟨bx, off + o * 5, none⟩ = some (.string op.name) ∧ wx.cell? ⟨bx, off + o * 5 + 1, none⟩ = some (.int .i64 op.mach) ∧ wx.cell? ⟨bx, off + o * 5 + 2, none⟩ = some (.int .i64 op.mins) ∧ wx.cell? ⟨bx, off + o * 5 + 3, none⟩ = some (.slice Af op.after.length cf) ∧ wx.cell? ⟨bx, off + o * 5 + 4, none⟩ = some (.slice Au op.uses.length cu)) ∧
              (wx.cell? ⟨by_, offb + b * 6, none⟩ = some (.int .i64 x.tk) ∧ wx.cell? ⟨by_, offb + b * 6 + 1, none⟩ = some (.int .i64 x.gm) ∧ wx.cell? ⟨by_, offb + b * 6 + 2, none⟩ = some (.int .i64 x.sz) ∧ wx.cell? ⟨by_, offb + b * 6 + 3, none⟩ = some (.int .i64 x.lot) ∧ wx.cell? ⟨by_, offb + b * 6 + 4, none⟩ = some (.int .i64 x.fr) ∧ wx.cell? ⟨by_, offb + b * 6 + 5, none⟩ = some (.int .i64 x.tp)) ∧ Below w5.heap.size w5 wx) := by
            refine Lib.hid fun wx hb => ?_
            have q1 : bx < w5.heap.size := Nat.lt_of_lt_of_le hbx HB5.out.size
            have q2 : by_ < w5.heap.size := Nat.lt_of_lt_of_le hby HB5'.out.size
            refine ⟨⟨?_, ?_, ?_, ?_, ?_⟩, ⟨?_, ?_, ?_, ?_, ?_, ?_⟩, hb⟩
            · exact (hb.cell (p := ⟨bx, _, none⟩) q1).trans hc0
            · exact (hb.cell (p := ⟨bx, _, none⟩) q1).trans hc1
            · exact (hb.cell (p := ⟨bx, _, none⟩) q1).trans hc2
            · exact (hb.cell (p := ⟨bx, _, none⟩) q1).trans hc3
            · exact (hb.cell (p := ⟨bx, _, none⟩) q1).trans hc4
            · exact (hb.cell (p := ⟨by_, _, none⟩) q2).trans hd0
            · exact (hb.cell (p := ⟨by_, _, none⟩) q2).trans hd1
            · exact (hb.cell (p := ⟨by_, _, none⟩) q2).trans hd2
            · exact (hb.cell (p := ⟨by_, _, none⟩) q2).trans hd3
            · exact (hb.cell (p := ⟨by_, _, none⟩) q2).trans hd4
            · exact (hb.cell (p := ⟨by_, _, none⟩) q2).trans hd5
          clear hc0 hc1 hc2 hc3 hc4 hd0 hd1 hd2 hd3 hd4 hd5
          have i0 : (0 : Int) ≤ (o : Int) := by omega
          have i1 : (o : Int) < (l.length : Int) := by omega
          have i2 : (0 : Int) ≤ (b : Int) := by omega
          have hb' : b < bs.length := by rw [← HLEN.out]; exact hb
          have i3 : (b : Int) < (bs.length : Int) := by omega
          go_wp2_with fail
          go_region_held3 (fun wx => (wx.cell? ⟨bx, off + o * 5, none⟩ = some (.string op.name) ∧ wx.cell? ⟨bx, off + o * 5 + 1, none⟩ = some (.int .i64 op.mach) ∧ wx.cell? ⟨bx, off + o * 5 + 2, none⟩ = some (.int .i64 op.mins) ∧ wx.cell? ⟨bx, off + o * 5 + 3, none⟩ = some (.slice Af op.after.length cf) ∧ wx.cell? ⟨bx, off + o * 5 + 4, none⟩ = some (.slice Au op.uses.length cu)) ∧
              (wx.cell? ⟨by_, offb + b * 6, none⟩ = some (.int .i64 x.tk) ∧ wx.cell? ⟨by_, offb + b * 6 + 1, none⟩ = some (.int .i64 x.gm) ∧ wx.cell? ⟨by_, offb + b * 6 + 2, none⟩ = some (.int .i64 x.sz) ∧ wx.cell? ⟨by_, offb + b * 6 + 3, none⟩ = some (.int .i64 x.lot) ∧ wx.cell? ⟨by_, offb + b * 6 + 4, none⟩ = some (.int .i64 x.fr) ∧ wx.cell? ⟨by_, offb + b * 6 + 5, none⟩ = some (.int .i64 x.tp)) ∧ Below w5.heap.size w5 wx)
            (first | exact HK.out _ (Below.refl _ _).drew | (go_split_ands; exact HK.out _ (keepB (by assumption) hb6)))
            (first | (go_at_call 51; refine (HFIN.out _ ?_).mono ?_; (go_split_ands; assumption); rintro e w6 ⟨rfl, hb6⟩))
          rename_i hSl
          have hb6' := hSl.2.2
          have HB6 := Lib.hid (HB5.out.trans (hb6'.mono HB5.out.size))
          have HB6' := Lib.hid (HB5'.out.trans (hb6'.mono HB5'.out.size))
          have HR6 := Lib.hid (HR5.out.below hb6')
          have HT6 := Lib.hid (own_belowT HT5.out hb6')
          obtain ⟨_, ⟨k0, _⟩, _⟩ := HK.out w6 hb6'
          have hs6 : wc.heap.size ≤ w6.heap.size := Nat.le_trans HRL.out.sz (Nat.le_trans hb5.size hb6'.size)
          clear hSl hb6 hb6'
          have HERR : Hid (M.finErr ds s (wk l ((sortB bs).getD b bn0) o) = 0) := Lib.hid (sim_err HF.out hb ho s hst.1 hst.2)
          by_cases hlong : (1073741824 : Int) < E
          · go_wp2
            go_ret2
            have hres : simRes l ss bs ds = (3, []) := by
              rw [HRES.out, ← HRL.out.go]
              obtain ⟨f, hf⟩ : ∃ f, l.length * (sortB bs).length - ts.length = f + 1 := ⟨l.length * (sortB bs).length - ts.length - 1, by omega⟩
              rw [hf]
              exact simR_long HPK.out HERR.out (by rw [HTK.out]; exact hlong)
            refine ⟨?_, HB6.out⟩
            rw [hres]
            exact ⟨none, 0, rfl, fun h => absurd rfl h, Nat.le_refl _⟩
          · go_wp2_with fail
            obtain ⟨r0, r1, r2, r3⟩ := HR6.out.cells
            rw [bzOf_len] at r2
            rw [tabOf_len, HLEN.out] at r3
            obtain ⟨y, hy⟩ : ∃ y : Nat, at_.getD o 0 = (y : Int) := ⟨(at_.getD o 0).toNat, by have := HF.out.atr o ho; omega⟩
            have hyK : y < ss.length := by have := HF.out.atr o ho; omega
            have cy := HR6.out.rat.cell (i := o) (x := (y : Int)) (by rw [← hy]; exact getD_some (by rw [HF.out.atl]; exact ho))
            have HY := Lib.hid hy
            clear hy
            have LT := Lib.hid HRM.out.lts
            obtain ⟨lr, la, lb, lt_, lg⟩ := HRM.out.lts
            have hts : ts.length ≤ 16000 := by
              have := HRL.out.ok.len
              rw [HLEN.out] at this
              have h2 : l.length * bs.length ≤ 16 * 1000 := Nat.mul_le_mul hl16 hbl
              omega
            obtain ⟨j0, hi0, hz0, hz1, hz2⟩ := info_parts infoTk
            have lby : by_ < w6.heap.size := Nat.lt_of_lt_of_le hby HB6'.out.size
            have lbase : by_ < wc.heap.size := Nat.lt_of_lt_of_le hby HB4.out.size
            have nb : ∀ k, k < wc.heap.size → (Value.slice A5 ts.length c5).ownBlock ≠ some k := fun k hk e => by have := (HT6.out.lt k e).1; omega
            have NB := Lib.hid nb
            have LG := Lib.hid lg
            clear nb lg
            go_region_held3 (fun wx => wx.cell? ⟨by_, offb + b * 6, none⟩ = some (.int .i64 x.tk) ∧ wx.cell? ⟨br, 1, none⟩ = some (.slice (some ⟨ba, 0, none⟩) l.length l.length) ∧ wx.cell? ⟨ba, o, none⟩ = some (.int .i64 (y : Int)))
              (first
                | go_keep
                | (go_split_ands
                   refine ⟨?_, ?_, ?_⟩
                   · (rw [hgrow.cell_far _ (by simp; omega) (Ne.symm (NB.out by_ lbase))]; assumption)
                   · (rw [hgrow.cell_far _ (by simp; omega) (Ne.symm (NB.out br lr))]; assumption)
                   · (rw [hgrow.cell_far _ (by simp; omega) (Ne.symm (NB.out ba la))]; assumption)))
              ((refine step_append_lies _ (by rfl) _ _ _ (by rfl) wc.heap.size 39 j0 _ 5 40 Try.underlying29 hi0 hz0 hz1 hz2 rfl (by omega) (.slice A5 ts.length c5) ts.length (tkCells ts) (by rfl) ((HT6.out.alloc _).drew)
                  ⟨w6.heap.size, 0, none⟩ 1 1 [.int .i64 x.tk, .int .i64 (o : Int), .int .i64 (y : Int), .int .i64 s, .int .i64 E] (by rfl) (by rfl) (World.news_of_block (cs := #[.int .i64 x.tk, .int .i64 (o : Int), .int .i64 (y : Int), .int .i64 s, .int .i64 E]) (t := 39) (fr := (0, 0)) (heap_alloc_new w6 _)) (by simp [Value.oneCell'])
                  (by omega) (by unfold maxLen; omega) (by omega) (by simp; omega) (w6.heap.size + 1) (by simp) ?_; intro gg cgg w7 hown7 hgrow hat7 hlt7))
            rename_i hSl7
            have hB7 : Below wc.heap.size w6 w7 := ((((Below.refl wc.heap.size w6).alloc hs6 (.cells #[.int .i64 x.tk, .int .i64 (o : Int), .int .i64 (y : Int), .int .i64 s, .int .i64 E] 39)).drew).grown hgrow (by simp; omega) (fun k hk => (HT6.out.lt k hk).1))
            have hs7 : wc.heap.size ≤ w7.heap.size := Nat.le_trans hs6 hB7.size
            have HR7 := Lib.hid (HR6.out.under hB7 LT.out)
            have HB7 := Lib.hid (HB6'.out.trans (hB7.mono HB4.out.size))
            have HT7 := Lib.hid hown7
            clear hSl7 hgrow hat7 hlt7 hB7 hown7 k0 r0 r1 r2 r3 cy
            obtain ⟨_, r1, r2, r3⟩ := HR7.out.cells
            rw [tabOf_len, HLEN.out] at r3
            obtain ⟨g, q, hg, hq, ct, hrq, _, hql⟩ := HR7.out.tab.at_ (i := b) (by rw [tabOf_len]; exact hb)
            unfold slc at ct
            have hqe := (tabOf_at (l := l) (ts := ts) hb).symm.trans hq
            injection hqe with hqe
            have HQ := Lib.hid hqe
            obtain ⟨z, hz⟩ : ∃ z, q[o]? = some z := ⟨_, List.getElem?_eq_getElem (by rw [hql]; exact ho)⟩
            have cz := hrq.cell hz
            have fz := hrq.free o
            have HR8 := Lib.hid (HR7.out.putT HAP.out hg hq o E)
            have lg := LG.out b g hg
            have HT8 := Lib.hid (ownsRow_setCell_below HT7.out (a := ⟨g, o, none⟩) lg (.int .i64 E))
            have HB8 := Lib.hid (HB7.out.setCell (p := ⟨g, o, none⟩) (show w3.heap.size ≤ g from Nat.le_of_lt (Nat.lt_of_le_of_lt HAP.out.lt (HR7.out.tab.gt hg).1)) (.int .i64 E))
            have hs8 : wc.heap.size ≤ (w7.setCell ⟨g, o, none⟩ (.int .i64 E)).heap.size := by simp; omega
            clear hqe hz hql hrq hq hg
            go_wp2_with fail
            clear r1 r2 r3 ct cz fz
            revert HR8 HT8 HB8 hs8
            generalize w7.setCell ⟨g, o, none⟩ (.int .i64 E) = w8
            intro HR8 HT8 HB8 hs8
            obtain ⟨_, r1, r2, _⟩ := HR8.out.cells
            rw [bzOf_len] at r2
            have cy := HR8.out.rat.cell (i := o) (x := (y : Int)) (by rw [← HY.out]; exact getD_some (by rw [HF.out.atl]; exact ho))
            obtain ⟨z, hz⟩ : ∃ z, (bzOf ss.length ts)[y]? = some z := ⟨_, List.getElem?_eq_getElem (by rw [bzOf_len]; exact hyK)⟩
            have cz := HR8.out.rbz.cell hz
            have fz := HR8.out.rbz.free y
            clear hz
            have y0 : (0 : Int) ≤ (y : Int) := by omega
            have y1 : (y : Int) < (ss.length : Int) := by omega
            go_region
            go_wp2
            go_roundw
            case rel =>
              obtain ⟨hno, hge⟩ := sim_ge HER.out HERR.out
              rw [HTK.out] at hge
              have htk : x.tk = ((sortB bs).getD b bn0).tk := by rw [HGX.out]
              have e1 := bz_step (K := ss.length) (s := y) (ts := ts) (t := ⟨x.tk, o, at_.getD o 0, s, E⟩) hyK HY.out (by rw [HY.out] at hge; exact hge)
              have e2 := tab_step (l := l) (ts := ts) (t := ⟨x.tk, o, at_.getD o 0, s, E⟩) HF.out.nd hb ho htk rfl (by show fnd ts x.tk o = none; rw [htk]; exact hno)
              have e3 := HRL.out.ok.snoc HPK.out HERR.out (by rw [HTK.out]; show E ≤ _; omega)
              rw [HTK.out] at e3
              refine ⟨ts ++ [⟨x.tk, o, at_.getD o 0, s, E⟩], e3, ?_, ?_, ?_, ?_, ?_⟩
              · rw [← HRL.out.go]
                obtain ⟨f, hf⟩ : ∃ f, l.length * (sortB bs).length - ts.length = f + 1 := ⟨l.length * (sortB bs).length - ts.length - 1, by omega⟩
                rw [hf, simR_next HPK.out HERR.out (by rw [HTK.out]; show ¬ (1073741824 : Int) < E; omega), HTK.out]
                congr 1
                rw [List.length_append, List.length_singleton]
                omega
              · have := HR8.out.putB HAP.out y E
                rw [e1, ← HQ.out, e2] at this
                exact ⟨this.blk, this.rat, this.rbz, this.tab.below (Below.refl _ _).drew⟩
              · have h1 := ownsRow_setCell_below HT8.out (a := ⟨bb, y, none⟩) lb (.int .i64 E)
                rw [tkCells_snoc, List.length_append]
                unfold encTk
                rw [HY.out]
                exact h1
              · exact (HB8.out.setCell (p := ⟨bb, y, none⟩) HAP.out.lb (.int .i64 E)).drew
              · simpa using hs8
            case measure =>
              have : l.length * (sortB bs).length = l.length * bs.length := by rw [HLEN.out]
              simp [sliceLen]; omega
  · have hres : simRes l ss bs ds = (comErr l ss bs ds, []) := by unfold simRes; rw [if_pos hz]
    have HRES := Lib.hid hres
    clear hres
    have hzb : (comErr l ss bs ds != 0) = true := by simpa using hz
    go_wp2
    go_ret2
    refine ⟨?_, HB1.out⟩
    rw [HRES.out]
    exact ⟨none, 0, rfl, fun h => absurd rfl h, Nat.le_refl _⟩
end Go.Proofs.Ytelgkangojmhdaa
