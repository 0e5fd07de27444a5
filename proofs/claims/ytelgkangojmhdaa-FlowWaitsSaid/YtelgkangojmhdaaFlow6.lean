/- flow.Check: the walk. -/
import Derived.Test.YtelgkangojmhdaaFlow4
import Derived.Test.YtelgkangojmhdaaIMap2
import Derived.Test.YtelgkangojmhdaaFRef7
import Derived.Deep.RegionHeld3
import Derived.Deep.RegionWith
import Derived.Deep.DeepCutAuto
import Derived.Deep.CutBlock
import Derived.RegionTactic
import Derived.BigQuiet
import Derived.Outline
import Derived.Handy
namespace Go.Proofs.Ytelgkangojmhdaa
open Go.RowKit Go.Maps

/-- A number of 64 bits. -/
def IR (x : Int) : Prop := -9223372036854775808 ≤ x ∧ x ≤ 9223372036854775807

theorem tk_new (w : World) (x0 x1 x2 x3 x4 : Int) : ∃ W, W = w.alloc (.cells #[.int .i64 x0, .int .i64 x1, .int .i64 x2, .int .i64 x3, .int .i64 x4] 39) ∧ W.cell? ⟨w.heap.size, 0, none⟩ = some (.int .i64 x0) ∧ W.cell? ⟨w.heap.size, 1, none⟩ = some (.int .i64 x1) ∧ W.cell? ⟨w.heap.size, 2, none⟩ = some (.int .i64 x2) ∧ W.cell? ⟨w.heap.size, 3, none⟩ = some (.int .i64 x3) ∧ W.cell? ⟨w.heap.size, 4, none⟩ = some (.int .i64 x4) ∧ w.heap.size < W.heap.size ∧ Below w.heap.size w W := by
  have h := heap_alloc_new w (.cells #[.int .i64 x0, .int .i64 x1, .int .i64 x2, .int .i64 x3, .int .i64 x4] 39)
  refine ⟨_, rfl, ?_, ?_, ?_, ?_, ?_, by simp, (Below.refl _ _).alloc (Nat.le_refl _) _⟩ <;> (unfold World.cell?; rw [h]; rfl)
theorem earlyA_yes {ts : List Tsk} (h0 : ∀ t ∈ ts, 0 ≤ t.b) {t : Tsk} {a z : Int} (hz : z = endOf ts t.tk a) (h : z = -1 ∨ t.a < z) : earlyA ts t a = true := by
  unfold earlyA
  cases hf : fnd ts t.tk a with
  | none => rfl
  | some p =>
    rw [endOf_some hf] at hz
    have := h0 p (fnd_some hf).1
    simp
    omega
theorem earlyA_no {ts : List Tsk} {t : Tsk} {a z : Int} (hz : z = endOf ts t.tk a) (h1 : z ≠ -1) (h2 : ¬ t.a < z) : earlyA ts t a = false := by
  unfold earlyA
  cases hf : fnd ts t.tk a with
  | none => unfold endOf at hz; rw [hf] at hz; exact absurd hz h1
  | some p =>
    rw [endOf_some hf] at hz
    simp
    omega
/-- The state of Check. -/
structure CkSt (w1 wx : World) (ba bt : Nat) (gs : List Nat) (at_ : List Int) (bs : List Bn) (n : Nat) (T : List (List Int)) : Prop where
  im : IM rInt wx w1.heap.size bs.length (ixF bs bs.length)
  rat : Row wx ba at_
  tab : Tab wx bt n gs T
  bl : Below w1.heap.size w1 wx
  l1 : w1.heap.size < ba
  l2 : ba < bt
theorem grownBy_set (w : World) (p : Addr) (v : Value) : w.grownBy (w.setCell p v) (some p.block) :=
  ⟨rfl, rfl, rfl, by simp, fun k _ hne => Below.heap_setCell w p v k (fun e => hne (by rw [e]))⟩
theorem grownBy_below {w w' : World} (h : Below w.heap.size w w') : w.grownBy w' none := ⟨h.os, h.tape, h.output, h.size, fun k hk _ => h.block k hk⟩
section
variable {w1 wx wy : World} {ba bt : Nat} {gs : List Nat} {at_ : List Int} {bs : List Bn} {n : Nat} {T : List (List Int)}
theorem CkSt.below (h : CkSt w1 wx ba bt gs at_ bs n T) (hb : Below wx.heap.size wx wy) : CkSt w1 wy ba bt gs at_ bs n T :=
  ⟨h.im.kept (grownBy_below hb) (by simp), h.rat.below hb h.rat.lt, h.tab.below hb, h.bl.trans (hb.mono h.bl.size), h.l1, h.l2⟩
theorem CkSt.put (h : CkSt w1 wx ba bt gs at_ bs n T) {i o g : Nat} {q : List Int} (hg : gs[i]? = some g) (hq : T[i]? = some q) (x : Int) : CkSt w1 (wx.setCell ⟨g, o, none⟩ (.int .i64 x)) ba bt gs at_ bs n (T.set i (q.set o x)) := by
  have hgt := (h.tab.gt hg).1
  have h1 := h.l1
  have h2 := h.l2
  exact ⟨h.im.kept (grownBy_set wx _ _) (fun e => by injection e with e; simp at e; omega), h.rat.far (p := ⟨g, o, none⟩) (show ba ≠ g by omega) _, h.tab.put hg hq x, h.bl.setCell (p := ⟨g, o, none⟩) (show w1.heap.size ≤ g by omega) _, h1, h2⟩
end

set_option maxRecDepth 100000 in
set_option maxHeartbeats 4000000 in
theorem flowCheck_any (A : Option Addr) (cap : Nat) (l : List Opn) (S : Option Addr) (capS : Nat) (ss : List (List Int)) (Ab : Option Addr) (capB : Nat) (bs : List Bn) (D : Option Addr) (capD : Nat) (ds : List M.Dn) (Tk : Option Addr) (capT : Nat) (ts : List Tsk) (w : World)
    (h : ORd w w.heap.size A l) (hn : l.length ≤ 1000) (hcap : l.length ≤ cap) (hs : OSmall l) (hS : SRd w w.heap.size S ss) (hsm : SSmall ss) (hB : BRd w w.heap.size Ab bs) (hbl : bs.length ≤ 1000) (hbc : bs.length ≤ capB) (hbr : ∀ b ∈ bs, BnR b) (hbt : ∀ b ∈ bs, IR b.tk) (hD : M.DRd w w.heap.size D ds) (hdl : ds.length ≤ 1000)
    (hT : TRd w w.heap.size Tk ts) (htl : ts.length ≤ 1000) (htc : ts.length ≤ capT) (htr : ∀ t ∈ ts, IR t.tk ∧ IR t.op) :
    Calls Try.prog 39 #[.slice A l.length cap, .slice S ss.length capS, .slice Ab bs.length capB, .slice D ds.length capD, .slice Tk ts.length capT] w fun e w' => e = .returned (.int .i64 (chkF l ss bs ds ts)) ∧ Below w.heap.size w w' := by
  have HO := Lib.hid h
  have HS := Lib.hid hs
  have HSS := Lib.hid hS
  have HSM := Lib.hid hsm
  have HBB := Lib.hid hB
  have HBR := Lib.hid hbr
  have HBT := Lib.hid hbt
  have HDD := Lib.hid hD
  have HTT := Lib.hid hT
  have HTR := Lib.hid htr
  clear h hs hS hsm hB hbr hbt hD hT htr
  go_enter Try.func39, Try.ntmps39
  go_wp2_with fail
  ((with_reducible refine (common_any A cap l S capS ss Ab capB bs D capD ds _ HO.out hn hcap HS.out HSS.out HSM.out HBB.out hbl hbc HBR.out HDD.out hdl).mono ?_); rintro e w1 ⟨rfl, hb1⟩)
  have HB1 := Lib.hid hb1
  clear hb1
  by_cases hz : comErr l ss bs ds = 0
  · have HZ := Lib.hid hz
    obtain ⟨at_, hp, hg, hf⟩ := flowOk_of hz
    have HP := Lib.hid hp
    have HG := Lib.hid hg
    have HF := Lib.hid hf
    obtain ⟨ho, _, hbo, _⟩ := com_zero hz
    have HSD := Lib.hid (sound_of (ordErr_zero ho).1)
    have HND := Lib.hid hbo.nd
    have HBO := Lib.hid hbo
    have hl16 := hf.len
    clear hz hp hg hf ho hbo
    rw [HZ.out]
    have hmm := @run_makeMap Try.prog
    go_wp2_with fail
    clear hmm
    go_loopw [13, 14, 43] (fun _ _ j wx => ∃ k : Nat, k ≤ bs.length ∧ j = .int .i64 k ∧ IM rInt wx w1.heap.size k (ixF bs k) ∧ Below w1.heap.size w1 wx) (fun _ _ j _ => bs.length - (intOf j).toNat)
    case atStart => exact ⟨0, Nat.zero_le _, rfl, by rw [ixF_zero]; exact IM.made w1 rInt, (Below.refl _ _).alloc (Nat.le_refl _) _⟩
    case round =>
      obtain ⟨k, hk, rfl, him, hbw⟩ := hrel
      have HIM := Lib.hid him
      have HBW := Lib.hid hbw
      clear him hbw
      by_cases hlt : k < bs.length
      · obtain ⟨b, off, x, hA, hb, hx, hat⟩ := HBB.out.at_ (HB1.out.trans (HBW.out.mono HB1.out.size)) hlt
        subst hA
        obtain ⟨c0, c1, c2, c3, c4, c5⟩ := hat
        have hxm : x ∈ bs := List.mem_of_getElem? hx
        have hxt := HBT.out x hxm
        have hgx : x.tk = (bs.getD k bn0).tk := by rw [List.getD_eq_getElem?_getD, hx]; rfl
        have HGX := Lib.hid hgx
        have HXT := Lib.hid hxt
        clear hx hgx hxt hxm
        go_wp2_with (at_mapUpdate; refine wpList_ix_put rfl (.tmp 48) (.tmp 50) (.tmp 51) rfl rfl (HIM.out.alloc _) (by omega) rfl HGX.out rfl HXT.out.1 HXT.out.2 ?_; intro w2 him2 hgr2; have HIM2 := Lib.hid him2; have HGR2 := Lib.hid hgr2; clear him2 hgr2)
        go_roundw
        case rel => exact ⟨k + 1, by omega, by go_num, HIM2.out, (HBW.out.alloc HBW.out.size _).grown HGR2.out (by have := HBW.out.size; simp; omega) (fun g hg => by injection hg; omega)⟩
        case measure => simp [intOf]; omega
      · obtain rfl : bs.length = k := by omega
        obtain ⟨wo, rfl⟩ : ∃ wo : World, wo = wr := ⟨_, rfl⟩
        go_wp2_with fail
        ((with_reducible refine (places_any l.length S capS ss at_ _ (by omega) (HSS.out.go (HB1.out.trans (HBW.out.mono HB1.out.size))) HSM.out HP.out HG.out).mono ?_); rintro e w2 ⟨⟨ba, rfl, hlba, hra⟩, hb2⟩)
        unfold slc
        go_wp2_with fail
        ((with_reducible refine (table_any bs.length l.length _ hbl (by omega)).mono ?_); rintro e w3 ⟨⟨bt, gs, rfl, hlbt, htab⟩, hb3⟩)
        unfold slc
        go_wp2_with fail
        have hst : CkSt w1 w3 ba bt gs at_ bs l.length (List.replicate bs.length (noAt l.length)) :=
          ⟨(HIM.out.kept (grownBy_below hb2) (by simp)).kept (grownBy_below hb3) (by simp), hra.below hb3 hra.lt, htab, (HBW.out.trans (hb2.mono HBW.out.size)).trans (hb3.mono (Nat.le_trans HBW.out.size hb2.size)), by have := HIM.out.lt; omega, by have := hra.lt; omega⟩
        rw [← tabOf_nil] at hst
        have HST := Lib.hid hst
        clear hst hlba hra hb2 hlbt htab hb3
        go_loopw [18, 19, 20, 21, 22, 64] (fun _ _ _ _ _ j wx => ∃ k : Nat, k ≤ ts.length ∧ j = .int .i64 k ∧ CkSt w1 wx ba bt gs at_ bs l.length (tabOf l bs (ts.take k)) ∧ tsksErr l at_ bs ds ts k = 0) (fun _ _ _ _ _ j _ => ts.length - (intOf j).toNat)
        case atStart => exact ⟨0, Nat.zero_le _, rfl, HST.out, rfl⟩
        case round =>
          obtain ⟨k, hk, rfl, hst, hok⟩ := hrel
          have HST := Lib.hid hst
          have HOK := Lib.hid hok
          clear hst hok
          by_cases hlt : k < ts.length
          · obtain ⟨bx, off, t, hA, hb, ht, hat⟩ := HTT.out.at_ (HB1.out.trans (HST.out.bl.mono HB1.out.size)) hlt
            subst hA
            obtain ⟨c0, c1, c2, c3, c4⟩ := hat
            obtain ⟨hr1, hr2⟩ := HTR.out t (List.mem_of_getElem? ht)
            have HR1 := Lib.hid hr1
            have HR2 := Lib.hid hr2
            have HT := Lib.hid ht
            clear ht hr1 hr2
            rcases hix : ixN bs bs.length t.tk with _ | b
            · have HIX := Lib.hid hix
              have HE := Lib.hid (chkF_stop (e := 3) HZ.out HP.out HOK.out HT.out (by unfold tskErr; rw [hix]) (by decide))
              clear hix
              go_wp2_with (at_lookup; refine wpList_ix_ok rfl (.tmp 69) (.tmp 71) rfl rfl (HST.out.im.alloc _) rfl HR1.out.1 HR1.out.2 ?_; rw [HIX.out]; simp only [ixV, Option.isSome])
              go_ret
              exact ⟨by rw [HE.out]; rfl, HB1.out.trans ((HST.out.bl.alloc HST.out.bl.size _).mono HB1.out.size)⟩
            · have HIX := Lib.hid hix
              have hbb := (ixN_some hix).1
              by_cases hop : t.op < 0 ∨ (l.length : Int) ≤ t.op
              · have HE := Lib.hid (chkF_stop (e := 3) HZ.out HP.out HOK.out HT.out (by unfold tskErr; rw [hix]; exact if_pos hop) (by decide))
                have e1 : (t.op < 0) = True ∨ ((t.op < 0) = False ∧ (t.op ≥ (l.length : Int)) = True) := by
                  by_cases h0 : t.op < 0
                  · exact .inl (eq_true h0)
                  · exact .inr ⟨eq_false h0, eq_true (by omega)⟩
                clear hix
                rcases e1 with e1 | ⟨e1, e2⟩
                · have q1 : t.op < 0 := of_eq_true e1
                  clear e1
                  go_wp2_with (at_lookup; refine wpList_ix_ok rfl (.tmp 69) (.tmp 71) rfl rfl (HST.out.im.alloc _) rfl HR1.out.1 HR1.out.2 ?_; rw [HIX.out]; simp only [ixV, Option.isSome])
                  go_ret
                  exact ⟨by rw [HE.out]; rfl, HB1.out.trans ((HST.out.bl.alloc HST.out.bl.size _).mono HB1.out.size)⟩
                · have q1 : ¬ t.op < 0 := of_eq_false e1
                  have q2 : (l.length : Int) ≤ t.op := of_eq_true e2
                  clear e1 e2
                  go_wp2_with (at_lookup; refine wpList_ix_ok rfl (.tmp 69) (.tmp 71) rfl rfl (HST.out.im.alloc _) rfl HR1.out.1 HR1.out.2 ?_; rw [HIX.out]; simp only [ixV, Option.isSome])
                  go_ret
                  exact ⟨by rw [HE.out]; rfl, HB1.out.trans ((HST.out.bl.alloc HST.out.bl.size _).mono HB1.out.size)⟩
              · obtain ⟨o, ho⟩ : ∃ o : Nat, t.op = o := ⟨t.op.toNat, by omega⟩
                have hol : o < l.length := by omega
                go_wp2_with (at_lookup; refine wpList_ix_ok rfl (.tmp 69) (.tmp 71) rfl rfl (HST.out.im.alloc _) rfl HR1.out.1 HR1.out.2 ?_; rw [HIX.out]; simp only [ixV, Option.isSome])
                obtain ⟨w4, hw4, _, d1, d2, d3, d4, hv, hbw4⟩ := tk_new wr t.tk (o : Int) t.st t.a t.b
                rw [← hw4]
                have HST4 := Lib.hid (HST.out.below hbw4)
                have HBW4 := Lib.hid hbw4
                clear c0 c1 c2 c3 c4 hbw4 hw4
                obtain ⟨g, q, hgq, hq, ct, hrq, _, hql⟩ := HST4.out.tab.at_ (i := b) (by rw [tabOf_len]; exact hbb)
                unfold slc at ct
                obtain ⟨z, hzq⟩ : ∃ z, q[o]? = some z := ⟨_, List.getElem?_eq_getElem (by rw [hql]; exact hol)⟩
                have cz := hrq.cell hzq
                have fz := hrq.free o
                have i0 : (0 : Int) ≤ (o : Int) := by omega
                have i1 : (o : Int) < (l.length : Int) := by omega
                have i2 : (0 : Int) ≤ (b : Int) := by omega
                have i3 : (b : Int) < (bs.length : Int) := by omega
                have hqe := (tabOf_at (l := l) (ts := ts.take k) hbb).symm.trans hq
                injection hqe with hqe
                rw [(ixN_some hix).2] at hqe
                have hze : z = endOf (ts.take k) t.tk (o : Int) := by
                  have h1 := row_at (ts := ts.take k) (k := t.tk) hol
                  rw [hqe, List.getD_eq_getElem?_getD, hzq] at h1
                  exact h1
                have HQE := Lib.hid hqe
                have HZQ := Lib.hid hzq
                have HRQ := Lib.hid hrq
                have HQ := Lib.hid hq
                have HGQ := Lib.hid hgq
                have HQL := Lib.hid hql
                have hno := endOf_none (tsks_pos HOK.out) (k := t.tk) (o := (o : Int))
                rw [← hze] at hno
                clear hqe hzq hrq hq hgq hql hze
                have hneg : ¬ (t.op < 0 ∨ (l.length : Int) ≤ t.op) := hop
                have HOP := Lib.hid hop
                have HO_ := Lib.hid ho
                by_cases hfn : fnd (ts.take k) t.tk (o : Int) = none
                · have hzz : z = -1 := hno.2 hfn
                  subst hzz
                  have HFN := Lib.hid hfn
                  clear hno hfn hneg hop
                  go_quiet (fail)
                  go_wp2_with fail
                  have HST5 := Lib.hid (HST4.out.below (below_drewN (Below.refl _ _) nq))
                  have HBW5 := Lib.hid (below_drewN HBW4.out nq)
                  have HRQ5 : Hid (Row (w4.drewN nq) g q) := HRQ
                  have d1 : (w4.drewN nq).cell? ⟨wr.heap.size, 1, none⟩ = some (.int .i64 (o : Int)) := d1
                  have d2 : (w4.drewN nq).cell? ⟨wr.heap.size, 2, none⟩ = some (.int .i64 t.st) := d2
                  have d3 : (w4.drewN nq).cell? ⟨wr.heap.size, 3, none⟩ = some (.int .i64 t.a) := d3
                  have d4 : (w4.drewN nq).cell? ⟨wr.heap.size, 4, none⟩ = some (.int .i64 t.b) := d4
                  have hv : wr.heap.size < (w4.drewN nq).heap.size := hv
                  clear ct cz fz HST4 HBW4 HRQ
                  generalize w4.drewN nq = w5 at *
                  have hya : at_[o]? = some (at_.getD o 0) := getD_some (by rw [HF.out.atl]; exact hol)
                  obtain ⟨y, hy⟩ : ∃ y, at_.getD o 0 = y := ⟨_, rfl⟩
                  rw [hy] at hya
                  have cy := HST5.out.rat.cell hya
                  have HY := Lib.hid hy
                  clear hya hy
                  by_cases hsy : t.st = y
                  · go_quiet (fail)
                    go_wp2_with fail
                    have HST6 := Lib.hid (HST5.out.below (below_drewN (Below.refl _ _) nq))
                    have HBW6 := Lib.hid (below_drewN HBW5.out nq)
                    have HRQ6 : Hid (Row (w5.drewN nq) g q) := HRQ5
                    have d1 : (w5.drewN nq).cell? ⟨wr.heap.size, 1, none⟩ = some (.int .i64 (o : Int)) := d1
                    have d3 : (w5.drewN nq).cell? ⟨wr.heap.size, 3, none⟩ = some (.int .i64 t.a) := d3
                    have d4 : (w5.drewN nq).cell? ⟨wr.heap.size, 4, none⟩ = some (.int .i64 t.b) := d4
                    have hv : wr.heap.size < (w5.drewN nq).heap.size := hv
                    clear cy d2 HST5 HBW5 HRQ5
                    generalize w5.drewN nq = w6 at *
                    have HBX := Lib.hid (HB1.out.trans (HST6.out.bl.mono HB1.out.size))
                    obtain ⟨bo, offo, op, hA, hbo, hopx, hat⟩ := HO.out.at_ HBX.out hol
                    obtain ⟨by_, offb, x, hA2, hby, hx, hbt⟩ := HBB.out.at_ HBX.out hbb
                    obtain ⟨hc0, hc1, hc2, ⟨Af, cf, hc3, _⟩, ⟨Au, cu, hc4, _⟩⟩ := hat
                    obtain ⟨hd0, hd1, hd2, hd3, hd4, hd5⟩ := hbt
                    have hmn : mn l o = op.mins := by unfold mn; rw [List.getD_eq_getElem?_getD, hopx]; rfl
                    have hmc : mc l o = op.mach := by unfold mc; rw [List.getD_eq_getElem?_getD, hopx]; rfl
                    have hgx : bs.getD b bn0 = x := by rw [List.getD_eq_getElem?_getD, hx]; rfl
                    have hwk : wk l x o = op.mins * (x.tp - x.fr) := by unfold wk; rw [hmn]
                    have hmn1 : 1 ≤ op.mins ∧ op.mins ≤ 10000 := by
                      have := HSD.out.mins _ (getD_mem hol)
                      have h2 : (l.getD o op0).mins = op.mins := hmn
                      omega
                    have hpl := HBO.out.pl x (List.mem_of_getElem? hx)
                    obtain ⟨E, hE⟩ : ∃ E, E = M.finT ds op.mach t.a (op.mins * (x.tp - x.fr)) := ⟨_, rfl⟩
                    obtain ⟨F, hF⟩ : ∃ F, F = M.finErr ds t.a (op.mins * (x.tp - x.fr)) := ⟨_, rfl⟩
                    have HFIN : Hid (∀ wx, Below w6.heap.size w6 wx → Calls Try.prog 51 #[.agg #[.string op.name, .int .i64 op.mach, .int .i64 op.mins, .slice Af op.after.length cf, .slice Au op.uses.length cu], .agg #[.int .i64 x.tk, .int .i64 x.gm, .int .i64 x.sz, .int .i64 x.lot, .int .i64 x.fr, .int .i64 x.tp], .slice D ds.length capD, .int .i64 t.a] wx
                        fun e w' => e = .returned (.tuple #[.int .i64 E, .int .i64 F]) ∧ Below wx.heap.size wx w') := by
                      refine Lib.hid fun wx hb => ?_
                      have := flowFinish_any op.name op.mach op.mins (.slice Af op.after.length cf) (.slice Au op.uses.length cu) x D capD ds t.a wx hmn1.1 hmn1.2 hpl.1 hpl.2 (dgo HDD.out (HBX.out.trans (hb.mono HBX.out.size))) hdl
                      rw [← hE, ← hF] at this
                      exact this
                    have HWE : Hid (M.finT ds (mc l o) t.a (wk l (bs.getD b bn0) o) = E ∧ M.finErr ds t.a (wk l (bs.getD b bn0) o) = F) := by
                      rw [hgx, hwk, hmc, ← hE, ← hF]; exact Lib.hid ⟨rfl, rfl⟩
                    clear hmn hmc hgx hwk hE hF hx hopx
                    subst hA hA2
                    have HK : Hid (∀ wx, Below w6.heap.size w6 wx → ((wx.cell? ⟨bo, offo + o * 5, none⟩ = some (.string op.name) ∧ wx.cell? ⟨bo, offo + o * 5 + 1, none⟩ = some (.int .i64 op.mach) ∧ wx.cell? ⟨bo, offo + o * 5 + 2, none⟩ = some (.int .i64 op.mins) ∧ wx.cell? ⟨bo, offo + o * 5 + 3, none⟩ = some (.slice Af op.after.length cf) ∧ wx.cell? ⟨bo, offo + o * 5 + 4, none⟩ = some (.slice Au op.uses.length cu)) ∧ (wx.cell? ⟨by_, offb + b * 6, none⟩ = some (.int .i64 x.tk) ∧ wx.cell? ⟨by_, offb + b * 6 + 1, none⟩ = some (.int .i64 x.gm) ∧ wx.cell? ⟨by_, offb + b * 6 + 2, none⟩ = some (.int .i64 x.sz) ∧ wx.cell? ⟨by_, offb + b * 6 + 3, none⟩ = some (.int .i64 x.lot) ∧ wx.cell? ⟨by_, offb + b * 6 + 4, none⟩ = some (.int .i64 x.fr) ∧ wx.cell? ⟨by_, offb + b * 6 + 5, none⟩ = some (.int .i64 x.tp)) ∧ (wx.cell? ⟨wr.heap.size, 1, none⟩ = some (.int .i64 (o : Int)) ∧ wx.cell? ⟨wr.heap.size, 3, none⟩ = some (.int .i64 t.a) ∧ wx.cell? ⟨wr.heap.size, 4, none⟩ = some (.int .i64 t.b)) ∧ Below w6.heap.size w6 wx)) := by
                      refine Lib.hid fun wx hb => ?_
                      have q1 : bo < w6.heap.size := Nat.lt_of_lt_of_le hbo HBX.out.size
                      have q2 : by_ < w6.heap.size := Nat.lt_of_lt_of_le hby HBX.out.size
                      refine ⟨⟨?_, ?_, ?_, ?_, ?_⟩, ⟨?_, ?_, ?_, ?_, ?_, ?_⟩, ⟨?_, ?_, ?_⟩, hb⟩
                      · exact (hb.cell (p := ⟨bo, _, none⟩) q1).trans hc0
                      · exact (hb.cell (p := ⟨bo, _, none⟩) q1).trans hc1
                      · exact (hb.cell (p := ⟨bo, _, none⟩) q1).trans hc2
                      · exact (hb.cell (p := ⟨bo, _, none⟩) q1).trans hc3
                      · exact (hb.cell (p := ⟨bo, _, none⟩) q1).trans hc4
                      · exact (hb.cell (p := ⟨by_, _, none⟩) q2).trans hd0
                      · exact (hb.cell (p := ⟨by_, _, none⟩) q2).trans hd1
                      · exact (hb.cell (p := ⟨by_, _, none⟩) q2).trans hd2
                      · exact (hb.cell (p := ⟨by_, _, none⟩) q2).trans hd3
                      · exact (hb.cell (p := ⟨by_, _, none⟩) q2).trans hd4
                      · exact (hb.cell (p := ⟨by_, _, none⟩) q2).trans hd5
                      · exact (hb.cell (p := ⟨wr.heap.size, _, none⟩) hv).trans d1
                      · exact (hb.cell (p := ⟨wr.heap.size, _, none⟩) hv).trans d3
                      · exact (hb.cell (p := ⟨wr.heap.size, _, none⟩) hv).trans d4
                    clear hc0 hc1 hc2 hc3 hc4 hd0 hd1 hd2 hd3 hd4 hd5 d1 d3 d4
                    go_wp2_with fail
                    go_region_held3 (fun wx => (wx.cell? ⟨bo, offo + o * 5, none⟩ = some (.string op.name) ∧ wx.cell? ⟨bo, offo + o * 5 + 1, none⟩ = some (.int .i64 op.mach) ∧ wx.cell? ⟨bo, offo + o * 5 + 2, none⟩ = some (.int .i64 op.mins) ∧ wx.cell? ⟨bo, offo + o * 5 + 3, none⟩ = some (.slice Af op.after.length cf) ∧ wx.cell? ⟨bo, offo + o * 5 + 4, none⟩ = some (.slice Au op.uses.length cu)) ∧ (wx.cell? ⟨by_, offb + b * 6, none⟩ = some (.int .i64 x.tk) ∧ wx.cell? ⟨by_, offb + b * 6 + 1, none⟩ = some (.int .i64 x.gm) ∧ wx.cell? ⟨by_, offb + b * 6 + 2, none⟩ = some (.int .i64 x.sz) ∧ wx.cell? ⟨by_, offb + b * 6 + 3, none⟩ = some (.int .i64 x.lot) ∧ wx.cell? ⟨by_, offb + b * 6 + 4, none⟩ = some (.int .i64 x.fr) ∧ wx.cell? ⟨by_, offb + b * 6 + 5, none⟩ = some (.int .i64 x.tp)) ∧ (wx.cell? ⟨wr.heap.size, 1, none⟩ = some (.int .i64 (o : Int)) ∧ wx.cell? ⟨wr.heap.size, 3, none⟩ = some (.int .i64 t.a) ∧ wx.cell? ⟨wr.heap.size, 4, none⟩ = some (.int .i64 t.b)) ∧ Below w6.heap.size w6 wx)
                      (first | exact HK.out _ (Below.refl _ _).drew | (go_split_ands; exact HK.out _ (keepB (by assumption) hb7)))
                      (first | (go_at_call 51; refine (HFIN.out _ ?_).mono ?_; (go_split_ands; assumption); rintro e w7 ⟨rfl, hb7⟩))
                    rename_i hSl
                    have hb8 := hSl.2.2.2
                    have d1 := hSl.2.2.1.1
                    have d4 := hSl.2.2.1.2.2
                    have HST8 := Lib.hid (HST6.out.below hb8)
                    have HBW8 := Lib.hid (HBW6.out.trans (hb8.mono HBW6.out.size))
                    have HRQ8 := Lib.hid (HRQ6.out.below hb8 HRQ6.out.lt)
                    clear hSl hb8 hb7 HK HFIN
                    rename World => w8
                    by_cases e2 : F = 0
                    · by_cases e3 : E = t.b
                      · have hno1 : tskErr l at_ bs ds (ts.take k) t = 0 := by
                          unfold tskErr; rw [hix]; dsimp only; rw [if_neg HOP.out, if_neg (by rw [ho, HFN.out]; simp), if_neg (by rw [ho, Int.toNat_natCast, HY.out, hsy]; simp), if_neg (by rw [ho, Int.toNat_natCast, HWE.out.1, HWE.out.2]; simp [e2, e3])]
                        have HN : Hid (tsksErr l at_ bs ds ts (k + 1) = 0) := (tsksErr_succ HOK.out HT.out).trans hno1
                        have HTE : Hid ((tabOf l bs (ts.take k)).set b (q.set o E) = tabOf l bs (ts.take (k + 1))) := by
                          show _ = _
                          have htk := (ixN_some hix).2
                          have h1 := tab_step (l := l) (ts := ts.take k) (t := t) HND.out hbb hol htk.symm ho (by rw [ho]; exact HFN.out)
                          rw [htk, HQE.out, ← e3] at h1
                          rw [take_tk HT.out]; exact h1
                        obtain ⟨g2, q2, hg2, hq2, ct, hrq2, _, _⟩ := HST8.out.tab.at_ (i := b) (by rw [tabOf_len]; exact hbb)
                        obtain rfl : g2 = g := by have := HGQ.out; rw [hg2] at this; injection this
                        obtain rfl : q2 = q := by have := HQ.out; rw [hq2] at this; injection this
                        unfold slc at ct
                        have cz := hrq2.cell HZQ.out
                        have fz := hrq2.free o
                        have HPUT := Lib.hid ((HST8.out.put hg2 hq2 (o := o) E).below (Below.refl _ _).drew)
                        rw [HTE.out] at HPUT
                        have b2 : (F != 0) = false := by simp [e2]
                        have b3 : (E != t.b) = false := by simp [e3]
                        clear hix e2 e3 hno1 hg2 hq2 hrq2
                        go_wp2_with fail
                        go_region
                        go_wp2_with fail
                        go_roundw
                        case rel => exact ⟨k + 1, by omega, by go_num, HPUT.out, HN.out⟩
                        case measure => simp [intOf]; omega
                      · have HE := Lib.hid (chkF_stop (e := 1) HZ.out HP.out HOK.out HT.out (by unfold tskErr; rw [hix]; dsimp only; rw [if_neg HOP.out, if_neg (by rw [ho, HFN.out]; simp), if_neg (by rw [ho, Int.toNat_natCast, HY.out, hsy]; simp), if_pos (.inr (by rw [ho, Int.toNat_natCast, HWE.out.1]; exact e3))]) (by decide))
                        have b2 : (F != 0) = false := by simp [e2]
                        have b3 : (E != t.b) = true := by simpa using e3
                        clear hix e2 e3
                        go_wp2_with fail
                        go_ret
                        exact ⟨by rw [HE.out]; rfl, HB1.out.trans (HST8.out.bl.mono HB1.out.size)⟩
                    · have HE := Lib.hid (chkF_stop (e := 1) HZ.out HP.out HOK.out HT.out (by unfold tskErr; rw [hix]; dsimp only; rw [if_neg HOP.out, if_neg (by rw [ho, HFN.out]; simp), if_neg (by rw [ho, Int.toNat_natCast, HY.out, hsy]; simp), if_pos (.inl (by rw [ho, Int.toNat_natCast, HWE.out.2]; exact e2))]) (by decide))
                      have b2 : (F != 0) = true := by simpa using e2
                      clear hix e2
                      go_wp2_with fail
                      go_ret
                      exact ⟨by rw [HE.out]; rfl, HB1.out.trans (HST8.out.bl.mono HB1.out.size)⟩
                  · have HE := Lib.hid (chkF_stop (e := 1) HZ.out HP.out HOK.out HT.out (by unfold tskErr; rw [hix]; dsimp only; rw [if_neg HOP.out, if_neg (by rw [ho, HFN.out]; simp), if_pos (by rw [ho, Int.toNat_natCast, HY.out]; exact hsy)]) (by decide))
                    clear hix
                    have hyb : (t.st != y) = true := by simpa using hsy
                    go_quiet (fail)
                    go_wp2_with fail
                    go_ret
                    exact ⟨by rw [HE.out]; rfl, HB1.out.trans ((below_drewN HST5.out.bl _).mono HB1.out.size)⟩
                · have hzz : z ≠ -1 := fun e => hfn (hno.1 e)
                  have HE := Lib.hid (chkF_stop (e := 7) HZ.out HP.out HOK.out HT.out (by unfold tskErr; rw [hix]; dsimp only; rw [if_neg hneg, if_pos (by rw [ho]; exact hfn)]) (by decide))
                  clear hno hfn hneg hop hix
                  have hzb : (z != -1) = true := by simpa using hzz
                  go_quiet (fail)
                  go_wp2_with fail
                  go_ret
                  exact ⟨by rw [HE.out]; rfl, HB1.out.trans ((below_drewN HST4.out.bl _).mono HB1.out.size)⟩
          · obtain rfl : ts.length = k := by omega
            obtain ⟨wo2, rfl⟩ : ∃ wo2 : World, wo2 = wr := ⟨_, rfl⟩
            rw [List.take_length] at HST
            have HPOS := Lib.hid (tsks_pos HOK.out)
            rw [List.take_length] at HPOS
            go_wp2_with fail
            go_loopw [24, 26, 27, 141] (fun _ _ _ j wx => ∃ k : Nat, k ≤ ts.length ∧ j = .int .i64 k ∧ CkSt w1 wx ba bt gs at_ bs l.length (tabOf l bs ts) ∧ (ts.take k).any (earlyB l ts) = false) (fun _ _ _ j _ => ts.length - (intOf j).toNat)
            case atStart => exact ⟨0, Nat.zero_le _, rfl, HST.out, rfl⟩
            case round =>
              clear HST
              obtain ⟨k, hk, rfl, hst, hea⟩ := hrel
              have HST := Lib.hid hst
              have HEA := Lib.hid hea
              clear hst hea
              by_cases hlt : k < ts.length
              · obtain ⟨bx, off, t, hA, hb, ht, hat⟩ := HTT.out.at_ (HB1.out.trans (HST.out.bl.mono HB1.out.size)) hlt
                subst hA
                obtain ⟨c0, c1, c2, c3, c4⟩ := hat
                obtain ⟨hr1, _⟩ := HTR.out t (List.mem_of_getElem? ht)
                obtain ⟨b, hgood⟩ := tsks_op HOK.out ht
                obtain ⟨o, hto⟩ : ∃ o : Nat, t.op = o := ⟨t.op.toNat, by have := hgood.o0; omega⟩
                have hol : o < l.length := by have := hgood.o1; omega
                have hbb := (ixN_some hgood.ix).1
                have HIX := Lib.hid hgood.ix
                have HR1 := Lib.hid hr1
                have HT := Lib.hid ht
                have HTO := Lib.hid hto
                rw [hto] at c1
                have HEE : Hid (earlyB l ts t = (af l o).any (earlyA ts t)) := by show _ = _; rw [earlyB_eq, hto]; rfl
                clear ht hr1 hgood hto
                obtain ⟨bo, offo, op, hA, hbo, hopx, hat⟩ := HO.out.at_ (HB1.out.trans (HST.out.bl.mono HB1.out.size)) hol
                obtain ⟨_, _, _, ⟨Af, cf, hc3, _, haf⟩, _⟩ := hat
                have hafe := af_at hopx
                have hso := (HS.out op (List.mem_of_getElem? hopx)).2.1
                have HIDX := Lib.hid (HSD.out.idx op (List.mem_of_getElem? hopx))
                rw [hafe] at HEE
                subst hA
                have qo : bo < wr.heap.size := Nat.lt_of_lt_of_le hbo (HB1.out.trans (HST.out.bl.mono HB1.out.size)).size
                have i0 : (0 : Int) ≤ (o : Int) := by omega
                have i1 : (o : Int) < (l.length : Int) := by omega
                have HAF := Lib.hid haf
                clear hafe hopx haf
                go_wp2_with fail
                obtain ⟨w4, hw4, d0, _, d2, d3, d4, hv, hbw4⟩ := tk_new wr t.tk (o : Int) t.st t.a t.b
                rw [← hw4]
                have HST4 := Lib.hid (HST.out.below hbw4)
                have HBW4 := Lib.hid hbw4
                have HAF4 := Lib.hid ((HAF.out.more (show w.heap.size ≤ wr.heap.size from (HB1.out.trans (HST.out.bl.mono HB1.out.size)).size)).below hbw4)
                clear c0 c1 c2 c3 c4 hbw4 hw4 hc3 HAF
                go_loop [26, 27, 152] (fun _ _ j => ∃ i : Nat, i ≤ op.after.length ∧ j = .int .i64 i ∧ (op.after.take i).any (earlyA ts t) = false) (fun _ _ j => op.after.length - (intOf j).toNat)
                case atStart => exact ⟨0, Nat.zero_le _, rfl, rfl⟩
                case round =>
                  obtain ⟨i, hi, rfl, hu⟩ := hrel
                  have HU := Lib.hid hu
                  clear hu
                  by_cases hlk : i < op.after.length
                  · obtain ⟨b2, off2, x, hA2, hB2, hdx, cx⟩ := HAF4.out.at_ (Below.refl _ _) hlk
                    subst hA2
                    obtain ⟨x0, x1⟩ := HIDX.out x (List.mem_of_getElem? hdx)
                    obtain ⟨xn, rfl⟩ : ∃ xn : Nat, x = (xn : Int) := ⟨x.toNat, by omega⟩
                    have hxn : xn < l.length := by omega
                    obtain ⟨g, q, hgq, hq, ct, hrq, _, hql⟩ := HST4.out.tab.at_ (i := b) (by rw [tabOf_len]; exact hbb)
                    unfold slc at ct
                    obtain ⟨z, hzq⟩ : ∃ z, q[xn]? = some z := ⟨_, List.getElem?_eq_getElem (by rw [hql]; exact hxn)⟩
                    have cz := hrq.cell hzq
                    have hqe := (tabOf_at (l := l) (ts := ts) hbb).symm.trans hq
                    injection hqe with hqe
                    rw [(ixN_some HIX.out).2] at hqe
                    have hze : z = endOf ts t.tk (xn : Int) := by
                      have h1 := row_at (ts := ts) (k := t.tk) hxn
                      rw [hqe, List.getD_eq_getElem?_getD, hzq] at h1
                      exact h1
                    have HZE := Lib.hid hze
                    have HDX := Lib.hid hdx
                    have i2 : (0 : Int) ≤ (b : Int) := by omega
                    have i3 : (b : Int) < (bs.length : Int) := by omega
                    have j0 : (0 : Int) ≤ (i : Int) := by omega
                    have j1 : (i : Int) < (op.after.length : Int) := by omega
                    clear hdx hqe hze hzq hrq hql hq hgq
                    by_cases e1 : z = -1
                    · have HE := Lib.hid (chkF_early HZ.out HP.out HOK.out (any_hit HT.out (HEE.out.trans (any_hit HDX.out (earlyA_yes HPOS.out HZE.out (.inl e1))))))
                      have b1 : (z == -1) = true := by simp [e1]
                      clear e1
                      go_wp2_with (at_lookup; refine wpList_ix_look rfl (.tmp 157) (.tmp 159) rfl rfl HST4.out.im rfl HR1.out.1 HR1.out.2 ?_; rw [HIX.out]; simp only [ixV])
                      go_ret
                      exact ⟨ret_int HE.out.symm, HB1.out.trans (HST4.out.bl.mono HB1.out.size)⟩
                    · have b1 : (z == -1) = false := by simpa using e1
                      by_cases e2 : t.a < z
                      · have HE := Lib.hid (chkF_early HZ.out HP.out HOK.out (any_hit HT.out (HEE.out.trans (any_hit HDX.out (earlyA_yes HPOS.out HZE.out (.inr e2))))))
                        clear e1
                        go_wp2_with (at_lookup; refine wpList_ix_look rfl (.tmp 157) (.tmp 159) rfl rfl HST4.out.im rfl HR1.out.1 HR1.out.2 ?_; rw [HIX.out]; simp only [ixV])
                        go_ret
                        exact ⟨ret_int HE.out.symm, HB1.out.trans (HST4.out.bl.mono HB1.out.size)⟩
                      · have HN := Lib.hid (any_snoc HDX.out HU.out (earlyA_no HZE.out e1 e2))
                        clear e1
                        go_wp2_with (at_lookup; refine wpList_ix_look rfl (.tmp 157) (.tmp 159) rfl rfl HST4.out.im rfl HR1.out.1 HR1.out.2 ?_; rw [HIX.out]; simp only [ixV])
                        go_round
                        case rel => exact ⟨i + 1, by omega, by go_num, HN.out⟩
                        case measure => simp [intOf]; omega
                  · obtain rfl : op.after.length = i := by omega
                    have HN := Lib.hid (any_snoc HT.out HEA.out (HEE.out.trans (any_done HU.out)))
                    go_wp2_with fail
                    go_roundw
                    case rel => exact ⟨k + 1, by omega, by go_num, HST4.out, HN.out⟩
                    case measure => simp [intOf]; omega
              · obtain rfl : ts.length = k := by omega
                have HEF := Lib.hid (any_done HEA.out)
                obtain ⟨wo3, rfl⟩ : ∃ wo3 : World, wo3 = wr := ⟨_, rfl⟩
                have HBW3 := Lib.hid (HB1.out.trans (HST.out.bl.mono HB1.out.size))
                have hlb0 : (0 : Int) ≤ (bs.length : Int) * (l.length : Int) := Int.mul_nonneg (by omega) (by omega)
                have hlb1 : (bs.length : Int) * (l.length : Int) ≤ 960 := by
                  have := Int.mul_le_mul (show (bs.length : Int) ≤ 60 from by have := HBO.out.len; omega) (show (l.length : Int) ≤ 16 by omega) (by omega) (by omega)
                  omega
                go_wp2_with fail
                go_loopw [28, 29, 31, 178] (fun _ _ _ j wx => ∃ k : Nat, k ≤ ts.length ∧ j = .int .i64 k ∧ clashN ts k = false ∧ Below w.heap.size w wx) (fun _ _ _ j _ => ts.length - (intOf j).toNat)
                case atStart => exact ⟨0, Nat.zero_le _, rfl, rfl, HBW3.out⟩
                case round =>
                  obtain ⟨k, hk, rfl, hcl, hb⟩ := hrel
                  have HCL := Lib.hid hcl
                  have HB := Lib.hid hb
                  have hsz := hb.size
                  clear hcl hb
                  by_cases hlt : k < ts.length
                  · obtain ⟨bx, off, t, hA, hbx, ht, hat⟩ := HTT.out.at_ HB.out hlt
                    subst hA
                    obtain ⟨c0, c1, c2, c3, c4⟩ := hat
                    have HT := Lib.hid ht
                    have k0 : (0 : Int) ≤ (k : Int) := by omega
                    have k1 : (k : Int) ≤ (capT : Int) := by omega
                    clear ht
                    go_wp2_with fail
                    obtain ⟨w4, hw4, _, _, d2, d3, d4, hv, hbw4⟩ := tk_new wr t.tk t.op t.st t.a t.b
                    rw [← hw4]
                    have HB4 := Lib.hid (HB.out.trans (hbw4.mono hsz))
                    have hs4 := (HB.out.trans (hbw4.mono hsz)).size
                    clear c0 c1 c2 c3 c4 hbw4 hw4
                    have HD4 : Hid ((w4.cell? ⟨wr.heap.size, 2, none⟩ = some (.int .i64 t.st) ∧ w4.cell? ⟨wr.heap.size, 3, none⟩ = some (.int .i64 t.a) ∧ w4.cell? ⟨wr.heap.size, 4, none⟩ = some (.int .i64 t.b))) := Lib.hid ⟨d2, d3, d4⟩
                    clear d2 d3 d4
                    obtain ⟨wo4, rfl⟩ : ∃ wo4 : World, wo4 = wr := ⟨_, rfl⟩
                    go_loopw [31, 187] (fun _ j wx => ∃ i : Nat, i ≤ k ∧ j = .int .i64 i ∧ (ts.take i).any (clash2 t) = false ∧ Below w4.heap.size w4 wx) (fun _ j _ => k - (intOf j).toNat)
                    case atStart => exact ⟨0, Nat.zero_le _, rfl, rfl, Below.refl _ _⟩
                    case round =>
                      obtain ⟨i, hi, rfl, hu, hb5⟩ := hrel
                      have HU := Lib.hid hu
                      have HB5 := Lib.hid hb5
                      have HB5' := Lib.hid (HB4.out.trans (hb5.mono HB4.out.size))
                      have hs5 := hb5.size
                      have d2 := (hb5.cell (p := ⟨wo4.heap.size, _, none⟩) hv).trans HD4.out.1
                      have d3 := (hb5.cell (p := ⟨wo4.heap.size, _, none⟩) hv).trans HD4.out.2.1
                      have d4 := (hb5.cell (p := ⟨wo4.heap.size, _, none⟩) hv).trans HD4.out.2.2
                      have hv5 : wo4.heap.size < wr.heap.size := Nat.lt_of_lt_of_le hv hs5
                      clear hu hb5
                      by_cases hik : i < k
                      · obtain ⟨by_, offy, u, hAy, hby, hud, hatu⟩ := HTT.out.at_ HB5'.out (show i < ts.length by omega)
                        obtain ⟨rfl, rfl⟩ : by_ = bx ∧ offy = off := by injection hAy with h1; injection h1 with h1 h2; exact ⟨h1.symm, h2.symm⟩
                        obtain ⟨g0, g1, g2, g3, g4⟩ := hatu
                        have HUD := Lib.hid hud
                        have j0 : (0 : Int) ≤ (i : Int) := by omega
                        have j1 : (i : Int) < (k : Int) := by omega
                        clear hud hAy
                        cases hc : clash2 t u with
                        | true =>
                          have HE := Lib.hid (chkF_clash HZ.out HP.out HOK.out HEF.out (clashN_hit HT.out hik HUD.out hc))
                          obtain ⟨e1, e2, e3⟩ := clash2_true hc
                          clear hc
                          go_wp2_with fail
                          go_ret
                          exact ⟨ret_int HE.out.symm, HB5'.out.alloc HB5'.out.size _⟩
                        | false =>
                          have HN := Lib.hid (any_snoc HUD.out HU.out hc)
                          have hcc := clash2_cases hc
                          clear hc
                          rcases hcc with e1 | ⟨e1, e2⟩ | ⟨e1, e2, e3⟩
                          all_goals
                            go_wp2_with fail
                            go_roundw
                            case rel => exact ⟨i + 1, by omega, by go_num, HN.out, HB5.out.alloc hs5 _⟩
                            case measure => simp [intOf]; omega
                      · obtain rfl : k = i := by omega
                        have HN := Lib.hid (clashN_next HT.out HCL.out HU.out)
                        go_wp2_with fail
                        go_roundw
                        case rel => exact ⟨k + 1, by omega, by go_num, HN.out, HB5'.out⟩
                        case measure => simp [intOf]; omega
                  · obtain rfl : ts.length = k := by omega
                    by_cases hgap : ts.length < l.length * bs.length
                    · have HE := Lib.hid (chkF_gap HZ.out HP.out HOK.out HEF.out HCL.out hgap)
                      have hgi : (ts.length : Int) < (bs.length : Int) * (l.length : Int) := by rw [← Int.natCast_mul, Nat.mul_comm]; omega
                      clear hgap
                      go_wp2_with fail
                      go_ret
                      exact ⟨ret_int HE.out.symm, HB.out⟩
                    · have HE := Lib.hid (chkF_ok HZ.out HP.out HOK.out HEF.out HCL.out hgap)
                      have hgi : ¬ (ts.length : Int) < (bs.length : Int) * (l.length : Int) := by rw [← Int.natCast_mul, Nat.mul_comm]; omega
                      clear hgap
                      go_wp2_with fail
                      go_ret
                      exact ⟨ret_int HE.out.symm, HB.out⟩
  · have HE := Lib.hid (chkF_com (ts := ts) hz)
    have hzb : (comErr l ss bs ds != 0) = true := by simpa using hz
    clear hz
    go_wp2
    go_ret
    exact ⟨ret_int HE.out.symm, HB1.out⟩
end Go.Proofs.Ytelgkangojmhdaa
