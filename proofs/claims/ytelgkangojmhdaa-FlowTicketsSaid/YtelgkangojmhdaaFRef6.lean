/- The reference of the flow: single: the walk. -/
import Derived.Test.YtelgkangojmhdaaFRef4
import Derived.Deep.RegionHeld3
import Derived.Deep.RegionWith
import Derived.RegionTactic
import Derived.BigRegion
import Derived.BigQuiet
import Derived.Outline
import Derived.Handy
namespace Go.Proofs.Ytelgkangojmhdaa
open Go.RowKit

theorem ix_none {bs : List Bn} {k : Int} (h : bs.find? (tkEq k) = none) : ixN bs bs.length k = none := by
  cases hx : ixN bs bs.length k with
  | none => rfl
  | some b =>
    obtain ⟨h1, h2⟩ := ixN_some hx
    rw [List.find?_eq_none] at h
    exact absurd (by unfold tkEq; simpa using h2) (h _ (bmem h1))
theorem ix_some {bs : List Bn} (hb : BnOk bs) {k : Int} {x : Bn} (h : bs.find? (tkEq k) = some x) : ∃ b, ixN bs bs.length k = some b ∧ bs.getD b bn0 = x ∧ x ∈ bs := by
  have h1 := List.mem_of_find?_eq_some h
  have h2 := List.find?_some h
  unfold tkEq at h2
  simp at h2
  obtain ⟨b, _, e1, e2⟩ := bn_index hb h1
  exact ⟨b, by rw [← h2]; exact e2, e1, h1⟩
theorem TRd.take {w : World} {B : Nat} {A : Option Addr} {ts : List Tsk} (h : TRd w B A ts) (i : Nat) : TRd w B A (ts.take i) := by
  intro hne
  obtain ⟨b, off, e, hb, hc⟩ := h (by intro e; subst e; simp at hne)
  refine ⟨b, off, e, hb, fun j x hx => hc j x ?_⟩
  rw [List.getElem?_take] at hx
  split at hx
  · exact hx
  · cases hx
section
variable {l : List Opn} {at_ : List Int} {bs : List Bn} {ds : List M.Dn} {seen : List Tsk} {t : Tsk} {b o : Nat} {x : Bn}
theorem tskErr_no (h : ixN bs bs.length t.tk = none) : tskErr l at_ bs ds seen t = 3 := by unfold tskErr; rw [h]
theorem tskErr_op (h : ixN bs bs.length t.tk = some b) (ho : t.op < 0 ∨ (l.length : Int) ≤ t.op) : tskErr l at_ bs ds seen t = 3 := by unfold tskErr; rw [h]; exact if_pos ho
theorem tskErr_two (h : ixN bs bs.length t.tk = some b) (hto : t.op = o) (ho : o < l.length) (hf : fnd seen t.tk o ≠ none) : tskErr l at_ bs ds seen t = 7 := by
  unfold tskErr; rw [h]; dsimp only; rw [if_neg (by omega), if_pos (by rw [hto]; exact hf)]
theorem tskErr_rest (h : ixN bs bs.length t.tk = some b) (hx : bs.getD b bn0 = x) (hto : t.op = o) (ho : o < l.length) (hf : fnd seen t.tk o = none) :
    tskErr l at_ bs ds seen t = if t.st ≠ at_.getD o 0 then 1 else if M.finErr ds t.a (wk l x o) ≠ 0 ∨ M.finT ds (mc l o) t.a (wk l x o) ≠ t.b then 1 else 0 := by
  unfold tskErr; rw [h]; dsimp only; rw [if_neg (by omega), if_neg (by rw [hto, hf]; simp), hto, hx, Int.toNat_natCast]
end

set_option maxRecDepth 100000 in
set_option maxHeartbeats 8000000 in
theorem single_any49 (A : Option Addr) (cap : Nat) (l : List Opn) (Aa : Option Addr) (capA : Nat) (at_ : List Int) (Ab : Option Addr) (capB : Nat) (bs : List Bn) (D : Option Addr) (capD : Nat) (ds : List M.Dn) (Tk : Option Addr) (capT : Nat) (ts : List Tsk) (i : Nat) (t : Tsk) (w : World)
    (h : ORd w w.heap.size A l) (hsd : Sound l) (ha : IRd w w.heap.size Aa at_) (hla : at_.length = l.length) (hB : BRd w w.heap.size Ab bs) (hbo : BnOk bs) (hD : M.DRd w w.heap.size D ds) (hdl : ds.length ≤ 1000)
    (hT : TRd w w.heap.size Tk ts) (hn : ts.length ≤ 20000) (hcT : ts.length ≤ capT) (ht : ts[i]? = some t) :
    Calls Try.prog 40 #[.slice A l.length cap, .slice Aa l.length capA, .slice Ab bs.length capB, .slice D ds.length capD, .slice Tk ts.length capT, .int .i64 i] w fun e w' => e = .returned (.int .i64 (tskErr l at_ bs ds (ts.take i) t)) ∧ Below w.heap.size w w' := by
  have HO := Lib.hid h
  have HSD := Lib.hid hsd
  have HA := Lib.hid ha
  have HLA := Lib.hid hla
  have HBB := Lib.hid hB
  have HBO := Lib.hid hbo
  have HDD := Lib.hid hD
  have HTT := Lib.hid hT
  have HT := Lib.hid ht
  have hil : i < ts.length := (List.getElem?_eq_some_iff.1 ht).1
  have hl16 := hsd.len
  have hb60 := hbo.len
  obtain ⟨bt, offt, t', hA, hbt, hd, hat⟩ := hT.at_ (Below.refl _ _) hil
  obtain rfl : t' = t := by rw [ht] at hd; injection hd with e; exact e.symm
  subst hA
  obtain ⟨c0, c1, c2, c3, c4⟩ := hat
  have ii0 : (0 : Int) ≤ (i : Int) := by omega
  have ii1 : (i : Int) < (ts.length : Int) := by omega
  have ii2 : (i : Int) ≤ (capT : Int) := by omega
  clear h hsd ha hla hB hbo hD hT ht hd
  go_enter Try.func40, Try.ntmps40
  go_wp2_with fail
  have HBN := Lib.hid (below_new w (.cells #[.int .i64 t'.tk, .int .i64 t'.op, .int .i64 t'.st, .int .i64 t'.a, .int .i64 t'.b] 39))
  have HK0 := Lib.hid (Blk.new w #[.int .i64 t'.tk, .int .i64 t'.op, .int .i64 t'.st, .int .i64 t'.a, .int .i64 t'.b] 39)
  ((with_reducible refine (bundle_any Ab capB bs t'.tk _ (HBB.out.go HBN.out) (by omega)).mono ?_); rintro e w2 ⟨hp, hb2⟩)
  have HB2 := Lib.hid (HBN.out.trans (hb2.mono HBN.out.size))
  have HK2 := Lib.hid (HK0.out.below hb2 HK0.out.lt)
  have hs2 : w.heap.size < w2.heap.size := HK2.out.lt
  clear hb2 HBN HK0 c0 c1 c2 c3 c4
  cases hf : bs.find? (tkEq t'.tk) with
  | none =>
    obtain rfl := hp.1 hf
    have HE := Lib.hid (tskErr_no (l := l) (at_ := at_) (ds := ds) (seen := ts.take i) (ix_none hf))
    clear hp hf
    go_wp2
    go_ret
    exact ⟨ret_int HE.out.symm, HB2.out.alloc HB2.out.size _⟩
  | some x =>
    obtain rfl := hp.2 x hf
    obtain ⟨b, hix, hbx, hxm⟩ := ix_some HBO.out hf
    have HIX := Lib.hid hix
    have HBX := Lib.hid hbx
    have hpl := HBO.out.pl x hxm
    clear hp hf hix hbx hxm
    by_cases hop : t'.op < 0 ∨ (l.length : Int) ≤ t'.op
    · have HE := Lib.hid (tskErr_op (at_ := at_) (ds := ds) (seen := ts.take i) HIX.out hop)
      have hK1 := HK2.out.cell (i := 1) (v := .int .i64 t'.op) rfl
      have hc : t'.op < 0 ∨ ¬ t'.op < 0 ∧ (l.length : Int) ≤ t'.op := by omega
      clear hop
      rcases hc with q1 | ⟨q1, q2⟩
      all_goals
        go_wp2
        go_ret
        exact ⟨ret_int HE.out.symm, HB2.out.alloc HB2.out.size _⟩
    · obtain ⟨o, hto⟩ : ∃ o : Nat, t'.op = o := ⟨t'.op.toNat, by omega⟩
      have ho : o < l.length := by omega
      have HTO := Lib.hid hto
      rw [hto] at HK2
      clear hop hto
      have hK1 := HK2.out.cell (i := 1) (v := .int .i64 (o : Int)) rfl
      have i0 : (0 : Int) ≤ (o : Int) := by omega
      have i1 : (o : Int) < (l.length : Int) := by omega
      have i2 : ¬ (o : Int) < 0 := by omega
      have HB3 := Lib.hid (HB2.out.alloc HB2.out.size (.cells #[.int .i64 x.tk, .int .i64 x.gm, .int .i64 x.sz, .int .i64 x.lot, .int .i64 x.fr, .int .i64 x.tp] 42))
      have HK13 := Lib.hid (HK2.out.alloc (.cells #[.int .i64 x.tk, .int .i64 x.gm, .int .i64 x.sz, .int .i64 x.lot, .int .i64 x.fr, .int .i64 x.tp] 42))
      have HK14 := Lib.hid (Blk.new w2 #[.int .i64 x.tk, .int .i64 x.gm, .int .i64 x.sz, .int .i64 x.lot, .int .i64 x.fr, .int .i64 x.tp] 42)
      have hs3 : w2.heap.size < (w2.alloc (.cells #[.int .i64 x.tk, .int .i64 x.gm, .int .i64 x.sz, .int .i64 x.lot, .int .i64 x.fr, .int .i64 x.tp] 42)).heap.size := by simp
      go_wp2_with fail
      clear hK1
      revert HB3 HK13 HK14 hs3
      generalize w2.alloc (.cells #[.int .i64 x.tk, .int .i64 x.gm, .int .i64 x.sz, .int .i64 x.lot, .int .i64 x.fr, .int .i64 x.tp] 42) = w3
      intro HB3 HK13 HK14 hs3
      have HK : Hid (∀ wx, Below w3.heap.size w3 wx → ((wx.cell? ⟨w.heap.size, 0, none⟩ = some (.int .i64 t'.tk) ∧ wx.cell? ⟨w.heap.size, 1, none⟩ = some (.int .i64 (o : Int))) ∧ Below w3.heap.size w3 wx)) :=
        Lib.hid fun wx hb => ⟨⟨(HK13.out.below hb HK13.out.lt).cell (i := 0) rfl, (HK13.out.below hb HK13.out.lt).cell (i := 1) rfl⟩, hb⟩
      have HFD : Hid (∀ wx, Below w3.heap.size w3 wx → Calls Try.prog 64 #[.slice (some ⟨bt, offt, none⟩) i capT, .int .i64 t'.tk, .int .i64 (o : Int)] wx fun e w' => FndPost (fnd (ts.take i) t'.tk (o : Int)) e ∧ Below wx.heap.size wx w') := by
        refine Lib.hid fun wx hb => ?_
        have := find_any (some ⟨bt, offt, none⟩) capT (ts.take i) t'.tk (o : Int) wx ((HTT.out.go (HB3.out.trans (hb.mono HB3.out.size))).take i) (by rw [List.length_take]; omega)
        rw [List.length_take, Nat.min_eq_left (by omega)] at this
        exact this
      cases hfn : fnd (ts.take i) t'.tk (o : Int) with
      | some p =>
        have HE := Lib.hid (tskErr_two (at_ := at_) (ds := ds) (seen := ts.take i) HIX.out HTO.out ho (by rw [hfn]; simp))
        rw [hfn] at HFD
        clear hfn
        go_region_held3 (fun wx => (wx.cell? ⟨w.heap.size, 0, none⟩ = some (.int .i64 t'.tk) ∧ wx.cell? ⟨w.heap.size, 1, none⟩ = some (.int .i64 (o : Int))) ∧ Below w3.heap.size w3 wx)
          (first | exact HK.out _ (Below.refl _ _).drew | (go_split_ands; refine HK.out _ ?_; go_grown; done))
          (first | (go_at_call 64; refine (HFD.out _ ?_).mono ?_; (go_split_ands; assumption); rintro e w7 ⟨hp7, hb7⟩; obtain rfl := hp7.2 p rfl; clear hp7; go_split_ands; have hB7 : Below w3.heap.size w3 w7 := keepB (by assumption) hb7; have hs7 := hB7.size; have hc7 := rd_cell hb7; have hf7 := rd_free hb7; clear hb7))
        all_goals
          rename_i hSl
          have HBZ := Lib.hid hSl.2
          clear hSl
          go_wp2
          go_ret
          exact ⟨ret_int HE.out.symm, HB3.out.trans (HBZ.out.mono HB3.out.size)⟩
      | none =>
        have HE := Lib.hid (tskErr_rest (at_ := at_) (ds := ds) (seen := ts.take i) HIX.out HBX.out HTO.out ho hfn)
        rw [hfn] at HFD
        clear hfn
        go_cut [15, 16, 17] (fun s15 _ s17 wx => s15 = .bool true ∧ s17 = .bool false ∧ Below w3.heap.size w3 wx)
        case first =>
          go_region_held3 (fun wx => (wx.cell? ⟨w.heap.size, 0, none⟩ = some (.int .i64 t'.tk) ∧ wx.cell? ⟨w.heap.size, 1, none⟩ = some (.int .i64 (o : Int))) ∧ Below w3.heap.size w3 wx)
            (first | exact HK.out _ (Below.refl _ _).drew | (go_split_ands; refine HK.out _ ?_; go_grown; done))
            (first | (go_at_call 64; refine (HFD.out _ ?_).mono ?_; (go_split_ands; assumption); rintro e w7 ⟨hp7, hb7⟩; obtain rfl := hp7.1 rfl; clear hp7; go_split_ands; have hB7 : Below w3.heap.size w3 w7 := keepB (by assumption) hb7; have hs7 := hB7.size; have hc7 := rd_cell hb7; have hf7 := rd_free hb7; clear hb7))
          all_goals
            rename_i hSl
            have HBZ := Lib.hid hSl.2
            clear hSl
            go_wp2_with fail
            go_meet
            exact ⟨rfl, rfl, HBZ.out⟩
        case rest =>
          obtain ⟨rfl, rfl, hb4⟩ := hcut
          obtain ⟨w4, rfl⟩ : ∃ w4 : World, w4 = wc := ⟨_, rfl⟩
          have HB4 := Lib.hid (HB3.out.trans (hb4.mono HB3.out.size))
          have HK13' := Lib.hid (HK13.out.below hb4 HK13.out.lt)
          have HK14' := Lib.hid (HK14.out.below hb4 (show w2.heap.size < w3.heap.size from hs3))
          clear hb4 HK HFD HK13 HK14
          obtain ⟨bx, off, op, hA, hbx, hop, hat⟩ := HO.out.at_ HB4.out ho
          have hmn : mn l o = op.mins := by unfold mn; rw [List.getD_eq_getElem?_getD, hop]; rfl
          have hmc : mc l o = op.mach := by unfold mc; rw [List.getD_eq_getElem?_getD, hop]; rfl
          have hmn1 : 1 ≤ mn l o ∧ mn l o ≤ 10000 := HSD.out.mins _ (getD_mem ho)
          have hc1 := hat.2.1
          subst hA
          obtain ⟨E, hE⟩ : ∃ E, E = M.finT ds op.mach t'.a (wk l x o) := ⟨_, rfl⟩
          obtain ⟨F, hF⟩ : ∃ F, F = M.finErr ds t'.a (wk l x o) := ⟨_, rfl⟩
          rw [hmc, ← hE, ← hF] at HE
          have HWK : Hid (∀ wx, Below w4.heap.size w4 wx → Calls Try.prog 38 #[.slice (some ⟨bx, off, none⟩) l.length cap, .int .i64 (o : Int), .agg #[.int .i64 x.tk, .int .i64 x.gm, .int .i64 x.sz, .int .i64 x.lot, .int .i64 x.fr, .int .i64 x.tp]] wx fun e w' => e = .returned (.int .i64 (wk l x o)) ∧ Below wx.heap.size wx w') :=
            Lib.hid fun wx hb => work49_any (some ⟨bx, off, none⟩) cap l o x wx (HO.out.go (HB4.out.trans (hb.mono HB4.out.size))) ho hmn1 hpl
          have HFN : Hid (∀ wx, Below w4.heap.size w4 wx → Calls Try.prog 37 #[.slice D ds.length capD, .int .i64 op.mach, .int .i64 t'.a, .int .i64 (wk l x o)] wx fun e w' => e = .returned (.tuple #[.int .i64 E, .int .i64 F]) ∧ Below wx.heap.size wx w') := by
            refine Lib.hid fun wx hb => ?_
            have := M.refFinish_any D capD ds op.mach t'.a (wk l x o) wx (dgo HDD.out (HB4.out.trans (hb.mono HB4.out.size))) hdl
            rw [← hF, ← hE] at this
            exact this
          have HK : Hid (∀ wx, Below w4.heap.size w4 wx → ((wx.cell? ⟨w.heap.size, 1, none⟩ = some (.int .i64 (o : Int)) ∧ wx.cell? ⟨w.heap.size, 3, none⟩ = some (.int .i64 t'.a) ∧ wx.cell? ⟨bx, off + o * 5 + 1, none⟩ = some (.int .i64 op.mach)) ∧ (wx.cell? ⟨w2.heap.size, 0, none⟩ = some (.int .i64 x.tk) ∧ wx.cell? ⟨w2.heap.size, 1, none⟩ = some (.int .i64 x.gm) ∧ wx.cell? ⟨w2.heap.size, 2, none⟩ = some (.int .i64 x.sz) ∧ wx.cell? ⟨w2.heap.size, 3, none⟩ = some (.int .i64 x.lot) ∧ wx.cell? ⟨w2.heap.size, 4, none⟩ = some (.int .i64 x.fr) ∧ wx.cell? ⟨w2.heap.size, 5, none⟩ = some (.int .i64 x.tp)) ∧ Below w4.heap.size w4 wx)) := by
            refine Lib.hid fun wx hb => ?_
            have k13 := HK13'.out.below hb HK13'.out.lt
            have k14 := HK14'.out.below hb HK14'.out.lt
            exact ⟨⟨k13.cell (i := 1) rfl, k13.cell (i := 3) rfl, (hb.cell (p := ⟨bx, _, none⟩) (Nat.lt_of_lt_of_le hbx HB4.out.size)).trans hc1⟩, ⟨k14.cell (i := 0) rfl, k14.cell (i := 1) rfl, k14.cell (i := 2) rfl, k14.cell (i := 3) rfl, k14.cell (i := 4) rfl, k14.cell (i := 5) rfl⟩, hb⟩
          clear hE hF hmn hmc hop hat hc1 hmn1
          generalize wk l x o = wkv at *
          go_wp2_with fail
          go_region_held3 (fun wx => (wx.cell? ⟨w.heap.size, 1, none⟩ = some (.int .i64 (o : Int)) ∧ wx.cell? ⟨w.heap.size, 3, none⟩ = some (.int .i64 t'.a) ∧ wx.cell? ⟨bx, off + o * 5 + 1, none⟩ = some (.int .i64 op.mach)) ∧ (wx.cell? ⟨w2.heap.size, 0, none⟩ = some (.int .i64 x.tk) ∧ wx.cell? ⟨w2.heap.size, 1, none⟩ = some (.int .i64 x.gm) ∧ wx.cell? ⟨w2.heap.size, 2, none⟩ = some (.int .i64 x.sz) ∧ wx.cell? ⟨w2.heap.size, 3, none⟩ = some (.int .i64 x.lot) ∧ wx.cell? ⟨w2.heap.size, 4, none⟩ = some (.int .i64 x.fr) ∧ wx.cell? ⟨w2.heap.size, 5, none⟩ = some (.int .i64 x.tp)) ∧ Below w4.heap.size w4 wx)
            (first | exact HK.out _ (Below.refl _ _).drew | (go_split_ands; exact HK.out _ (keepB (by assumption) hb7)))
            (first | (go_at_call 38; refine (HWK.out _ ?_).mono ?_; (go_split_ands; assumption); rintro e w7 ⟨rfl, hb7⟩) | (go_at_call 37; refine (HFN.out _ ?_).mono ?_; (go_split_ands; assumption); rintro e w7 ⟨rfl, hb7⟩))
          rename_i hSl
          have hb8 := hSl.2.2
          have HB8 := Lib.hid (HB4.out.trans (hb8.mono HB4.out.size))
          have HK8 := Lib.hid (HK13'.out.below hb8 HK13'.out.lt)
          clear hSl hb8
          clear hb7
          rename World => w8
          obtain ⟨ba, offa, y, hA2, hBa, hda, ca⟩ := HA.out.at_ HB8.out (show o < at_.length by rw [HLA.out]; exact ho)
          have hy : at_.getD o 0 = y := by rw [List.getD_eq_getElem?_getD, hda]; rfl
          rw [hy] at HE
          subst hA2
          have d1 := HK8.out.cell (i := 1) (v := .int .i64 (o : Int)) rfl
          have d2 := HK8.out.cell (i := 2) (v := .int .i64 t'.st) rfl
          have d4 := HK8.out.cell (i := 4) (v := .int .i64 t'.b) rfl
          clear hda hy HK HWK HFN HK13' HK14' HK2
          by_cases e1 : t'.st = y
          · by_cases e2 : F = 0
            · by_cases e3 : E = t'.b
              · have HX : Hid (tskErr l at_ bs ds (ts.take i) t' = 0) := by show _ = _; rw [HE.out, if_neg (by simp [e1]), if_neg (by simp [e2, e3])]
                have b1 : (t'.st != y) = false := by simp [e1]
                have b2 : (F != 0) = false := by simp [e2]
                have b3 : (E != t'.b) = false := by simp [e3]
                clear e1 e2 e3 HE
                go_wp2_with fail
                go_quiet (fail)
                go_wp2_with fail
                go_ret
                exact ⟨ret_int HX.out.symm, below_drewN HB8.out _⟩
              · have HX : Hid (tskErr l at_ bs ds (ts.take i) t' = 1) := by show _ = _; rw [HE.out, if_neg (by simp [e1]), if_pos (.inr e3)]
                have b1 : (t'.st != y) = false := by simp [e1]
                have b2 : (F != 0) = false := by simp [e2]
                have b3 : (E != t'.b) = true := by simpa using e3
                clear e1 e2 e3 HE
                go_wp2_with fail
                go_quiet (fail)
                go_wp2_with fail
                go_ret
                exact ⟨ret_int HX.out.symm, below_drewN HB8.out _⟩
            · have HX : Hid (tskErr l at_ bs ds (ts.take i) t' = 1) := by show _ = _; rw [HE.out, if_neg (by simp [e1]), if_pos (.inl e2)]
              have b1 : (t'.st != y) = false := by simp [e1]
              have b2 : (F != 0) = true := by simpa using e2
              clear e1 e2 HE
              go_wp2_with fail
              go_quiet (fail)
              go_wp2_with fail
              go_ret
              exact ⟨ret_int HX.out.symm, below_drewN HB8.out _⟩
          · have HX : Hid (tskErr l at_ bs ds (ts.take i) t' = 1) := by show _ = _; rw [HE.out, if_pos e1]
            have b1 : (t'.st != y) = true := by simpa using e1
            clear e1 HE
            go_wp2_with fail
            go_quiet (fail)
            go_wp2_with fail
            go_ret
            exact ⟨ret_int HX.out.symm, below_drewN HB8.out _⟩
end Go.Proofs.Ytelgkangojmhdaa
