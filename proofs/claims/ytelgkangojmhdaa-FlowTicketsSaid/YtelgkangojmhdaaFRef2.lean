/- The reference of the flow: next: the walk. -/
import Derived.Test.YtelgkangojmhdaaFRef1
import Derived.Deep.RegionHeld3
import Derived.Deep.RegionWith
import Derived.Deep.DeepCutAuto
import Derived.RegionTactic
import Derived.BigRegion
import Derived.BigQuiet
import Derived.Outline
import Derived.Handy
namespace Go.Proofs.Ytelgkangojmhdaa
open Go.RowKit

/-- A block of the call's own, known whole. -/
def Blk (w : World) (b : Nat) (t : TypeId) (vs : List Value) : Prop := w.heap[b]? = some (.cells vs.toArray t (0, 0))
section
variable {w w' : World} {b i B : Nat} {t : TypeId} {vs : List Value} {v : Value}
theorem Blk.lt (h : Blk w b t vs) : b < w.heap.size := by
  unfold Blk at h
  by_cases hb : b < w.heap.size
  · exact hb
  · rw [Array.getElem?_eq_none (by omega)] at h; cases h
theorem Blk.cell (h : Blk w b t vs) (hv : vs[i]? = some v) : w.cell? ⟨b, i, none⟩ = some v := by
  unfold Blk at h
  simp [World.cell?, h, hv]
theorem Blk.free (h : Blk w b t vs) (i : Nat) : w.frozen? ⟨b, i, none⟩ = false := by unfold Blk at h; simp [World.frozen?, h]
theorem Blk.alloc (h : Blk w b t vs) (o : Obj) : Blk (w.alloc o) b t vs := (Below.heap_alloc w o b h.lt).trans h
theorem Blk.put (h : Blk w b t vs) (i : Nat) (v : Value) : Blk (w.setCell ⟨b, i, none⟩ v) b t (vs.set i v) := by
  unfold Blk at h ⊢
  show (w.heap.modify b _)[b]? = _
  simp [Array.getElem?_modify, h]
theorem Blk.far (h : Blk w b t vs) {p : Addr} (hp : b ≠ p.block) (u : Value) : Blk (w.setCell p u) b t vs := (Below.heap_setCell w p u b hp).trans h
theorem Blk.below (h : Blk w b t vs) (hb : Below B w w') (hB : b < B) : Blk w' b t vs := (hb.block b hB).trans h
theorem Blk.drew (h : Blk w b t vs) : Blk w.drew b t vs := h
theorem Blk.new (w : World) (cs : Array Value) (t : TypeId) : Blk (w.alloc (.cells cs t)) w.heap.size t cs.toList := by
  unfold Blk
  rw [heap_alloc_new w (.cells cs t)]
end
def z5 : List Value := [.int .i64 0, .int .i64 0, .int .i64 0, .int .i64 0, .int .i64 0]
def z6 : List Value := [.int .i64 0, .int .i64 0, .int .i64 0, .int .i64 0, .int .i64 0, .int .i64 0]
def bestL (at_ : List Int) (bs : List Bn) : Option (Nat × Nat × Int) → List Value
  | none => z5
  | some (b, o, s) => [.int .i64 (tkN bs b), .int .i64 (o : Nat), .int .i64 (at_.getD o 0), .int .i64 s, .int .i64 0]
def fromL (bs : List Bn) : Option (Nat × Nat × Int) → List Value
  | none => z6
  | some (b, _, _) => encBn (bs.getD b bn0)
/-- The state of next. -/
structure NxSt (w wr : World) (at_ : List Int) (bs : List Bn) (x : Option (Nat × Nat × Int)) : Prop where
  b0 : Blk wr w.heap.size 39 z5
  b1 : Blk wr (w.heap.size + 1) 42 z6
  b2 : Blk wr (w.heap.size + 1 + 1) 39 (bestL at_ bs x)
  b3 : Blk wr (w.heap.size + 1 + 1 + 1) 42 (fromL bs x)
  bl : Below w.heap.size w wr
theorem NxSt.go {w wr w' : World} {at_ : List Int} {bs : List Bn} {x : Option (Nat × Nat × Int)} (h : NxSt w wr at_ bs x) (hb : Below wr.heap.size wr w') : NxSt w w' at_ bs x :=
  ⟨h.b0.below hb h.b0.lt, h.b1.below hb h.b1.lt, h.b2.below hb h.b2.lt, h.b3.below hb h.b3.lt, h.bl.trans (hb.mono h.bl.size)⟩
theorem NxSt.start (w : World) (at_ : List Int) (bs : List Bn) : NxSt w ((((w.alloc (.cells #[.int .i64 0, .int .i64 0, .int .i64 0, .int .i64 0, .int .i64 0] 39)).alloc (.cells #[.int .i64 0, .int .i64 0, .int .i64 0, .int .i64 0, .int .i64 0, .int .i64 0] 42)).alloc (.cells #[.int .i64 0, .int .i64 0, .int .i64 0, .int .i64 0, .int .i64 0] 39)).alloc (.cells #[.int .i64 0, .int .i64 0, .int .i64 0, .int .i64 0, .int .i64 0, .int .i64 0] 42)) at_ bs none := by
  refine ⟨(((Blk.new w _ _).alloc _).alloc _).alloc _, ?_, ?_, ?_, ((((Below.refl _ _).alloc (Nat.le_refl _) _).alloc (by simp) _).alloc (by simp; omega) _).alloc (by simp; omega) _⟩
  · have := ((Blk.new (w.alloc (.cells #[.int .i64 0, .int .i64 0, .int .i64 0, .int .i64 0, .int .i64 0] 39)) #[.int .i64 0, .int .i64 0, .int .i64 0, .int .i64 0, .int .i64 0, .int .i64 0] 42).alloc (.cells #[.int .i64 0, .int .i64 0, .int .i64 0, .int .i64 0, .int .i64 0] 39)).alloc (.cells #[.int .i64 0, .int .i64 0, .int .i64 0, .int .i64 0, .int .i64 0, .int .i64 0] 42)
    simp only [World.size_alloc] at this
    exact this
  · have := (Blk.new ((w.alloc (.cells #[.int .i64 0, .int .i64 0, .int .i64 0, .int .i64 0, .int .i64 0] 39)).alloc (.cells #[.int .i64 0, .int .i64 0, .int .i64 0, .int .i64 0, .int .i64 0, .int .i64 0] 42)) #[.int .i64 0, .int .i64 0, .int .i64 0, .int .i64 0, .int .i64 0] 39).alloc (.cells #[.int .i64 0, .int .i64 0, .int .i64 0, .int .i64 0, .int .i64 0, .int .i64 0] 42)
    simp only [World.size_alloc] at this
    exact this
  · have := Blk.new (((w.alloc (.cells #[.int .i64 0, .int .i64 0, .int .i64 0, .int .i64 0, .int .i64 0] 39)).alloc (.cells #[.int .i64 0, .int .i64 0, .int .i64 0, .int .i64 0, .int .i64 0, .int .i64 0] 42)).alloc (.cells #[.int .i64 0, .int .i64 0, .int .i64 0, .int .i64 0, .int .i64 0] 39)) #[.int .i64 0, .int .i64 0, .int .i64 0, .int .i64 0, .int .i64 0, .int .i64 0] 42
    simp only [World.size_alloc] at this
    exact this
def put5 (w : World) (b : Nat) (v0 v1 v2 v3 v4 : Value) : World := ((((w.setCell ⟨b, 0, none⟩ v0).setCell ⟨b, 1, none⟩ v1).setCell ⟨b, 2, none⟩ v2).setCell ⟨b, 3, none⟩ v3).setCell ⟨b, 4, none⟩ v4
def put6 (w : World) (b : Nat) (v0 v1 v2 v3 v4 v5 : Value) : World := (put5 w b v0 v1 v2 v3 v4).setCell ⟨b, 5, none⟩ v5
section
variable {w w' : World} {b c B : Nat} {t : TypeId} {vs : List Value} {v0 v1 v2 v3 v4 v5 : Value}
theorem Blk.put5 (h : Blk w b t vs) (hl : vs.length = 5) : Blk (put5 w b v0 v1 v2 v3 v4) b t [v0, v1, v2, v3, v4] := by
  have := ((((h.put 0 v0).put 1 v1).put 2 v2).put 3 v3).put 4 v4
  match vs, hl with
  | [_, _, _, _, _], _ => exact this
theorem Blk.put6 (h : Blk w b t vs) (hl : vs.length = 6) : Blk (put6 w b v0 v1 v2 v3 v4 v5) b t [v0, v1, v2, v3, v4, v5] := by
  have := (((((h.put 0 v0).put 1 v1).put 2 v2).put 3 v3).put 4 v4).put 5 v5
  match vs, hl with
  | [_, _, _, _, _, _], _ => exact this
theorem Blk.far5 (h : Blk w c t vs) (hp : c ≠ b) : Blk (Proofs.Ytelgkangojmhdaa.put5 w b v0 v1 v2 v3 v4) c t vs := ((((h.far (p := ⟨b, 0, none⟩) hp _).far (p := ⟨b, 1, none⟩) hp _).far (p := ⟨b, 2, none⟩) hp _).far (p := ⟨b, 3, none⟩) hp _).far (p := ⟨b, 4, none⟩) hp _
theorem Blk.far6 (h : Blk w c t vs) (hp : c ≠ b) : Blk (Proofs.Ytelgkangojmhdaa.put6 w b v0 v1 v2 v3 v4 v5) c t vs := h.far5 hp |>.far (p := ⟨b, 5, none⟩) hp _
theorem below_put5 (h : Below B w w') (hb : B ≤ b) : Below B w (put5 w' b v0 v1 v2 v3 v4) := ((((h.setCell (p := ⟨b, 0, none⟩) hb _).setCell (p := ⟨b, 1, none⟩) hb _).setCell (p := ⟨b, 2, none⟩) hb _).setCell (p := ⟨b, 3, none⟩) hb _).setCell (p := ⟨b, 4, none⟩) hb _
theorem below_put6 (h : Below B w w') (hb : B ≤ b) : Below B w (put6 w' b v0 v1 v2 v3 v4 v5) := (below_put5 h hb).setCell (p := ⟨b, 5, none⟩) hb _
end
theorem NxSt.store {w w4 : World} {at_ : List Int} {bs : List Bn} {x : Option (Nat × Nat × Int)} (h : NxSt w w4 at_ bs x) {k i : Nat} {s : Int} {bx : Bn} {y : Int} (hb : bs.getD k bn0 = bx) (hy : at_.getD i 0 = y) :
    NxSt w (put6 (put5 w4 (w.heap.size + 1 + 1) (.int .i64 bx.tk) (.int .i64 (i : Int)) (.int .i64 y) (.int .i64 s) (.int .i64 0)) (w.heap.size + 1 + 1 + 1) (.int .i64 bx.tk) (.int .i64 bx.gm) (.int .i64 bx.sz) (.int .i64 bx.lot) (.int .i64 bx.fr) (.int .i64 bx.tp)).drew at_ bs (some (k, i, s)) := by
  have l5 : (bestL at_ bs x).length = 5 := by cases x <;> rfl
  have l6 : (fromL bs x).length = 6 := by cases x <;> rfl
  refine ⟨((h.b0.far5 (by omega)).far6 (by omega)).drew, ((h.b1.far5 (by omega)).far6 (by omega)).drew, ?_, ?_, (below_put6 (below_put5 h.bl (by omega)) (by omega)).drew⟩
  · have := (h.b2.put5 (v0 := .int .i64 bx.tk) (v1 := .int .i64 (i : Int)) (v2 := .int .i64 y) (v3 := .int .i64 s) (v4 := .int .i64 0) l5).far6 (b := w.heap.size + 1 + 1 + 1) (v0 := .int .i64 bx.tk) (v1 := .int .i64 bx.gm) (v2 := .int .i64 bx.sz) (v3 := .int .i64 bx.lot) (v4 := .int .i64 bx.fr) (v5 := .int .i64 bx.tp) (by omega)
    show Blk _ _ _ [.int .i64 (tkN bs k), .int .i64 (i : Int), .int .i64 (at_.getD i 0), .int .i64 s, .int .i64 0]
    unfold tkN
    rw [hb, hy]
    exact this.drew
  · have := (h.b3.far5 (b := w.heap.size + 1 + 1) (v0 := .int .i64 bx.tk) (v1 := .int .i64 (i : Int)) (v2 := .int .i64 y) (v3 := .int .i64 s) (v4 := .int .i64 0) (by omega)).put6 (v0 := .int .i64 bx.tk) (v1 := .int .i64 bx.gm) (v2 := .int .i64 bx.sz) (v3 := .int .i64 bx.lot) (v4 := .int .i64 bx.fr) (v5 := .int .i64 bx.tp) l6
    show Blk _ _ _ (encBn (bs.getD k bn0))
    rw [hb]
    exact this.drew
/-- What next returns. -/
def NxPost (at_ : List Int) (bs : List Bn) (x : Option (Nat × Nat × Int)) (e : Ending) : Prop := e = .returned (.tuple #[.agg (bestL at_ bs x).toArray, .agg (fromL bs x).toArray, .bool x.isSome])

set_option maxRecDepth 100000 in
set_option maxHeartbeats 4000000 in
theorem next49_any (A : Option Addr) (cap : Nat) (l : List Opn) (Aa : Option Addr) (capA : Nat) (at_ : List Int) (Ab : Option Addr) (capB : Nat) (bs : List Bn) (Tk : Option Addr) (capT : Nat) (ts : List Tsk) (w : World)
    (h : ORd w w.heap.size A l) (hs : OSmall l) (hl : l.length ≤ 1000) (ha : IRd w w.heap.size Aa at_) (hla : at_.length = l.length) (hB : BRd w w.heap.size Ab bs) (hbl : bs.length ≤ 1000) (ht : TRd w w.heap.size Tk ts) (hn : ts.length ≤ 20000) :
    Calls Try.prog 36 #[.slice A l.length cap, .slice Aa l.length capA, .slice Ab bs.length capB, .slice Tk ts.length capT] w fun e w' => NxPost at_ bs (pickR l at_ bs ts) e ∧ Below w.heap.size w w' := by
  have HO := Lib.hid h
  have HS := Lib.hid hs
  have HA := Lib.hid ha
  have HLA := Lib.hid hla
  have HBB := Lib.hid hB
  have HT := Lib.hid ht
  obtain ⟨f, HF⟩ : ∃ f : Nat → Nat → Option Int, Hid (f = fun b o => erl l at_ ts (tkN bs b) o) := ⟨_, rfl⟩
  have HP : Hid (pickR l at_ bs ts = scanRB (tkN bs) f l.length bs.length) := by show _ = _; unfold pickR; rw [HF.out]
  rw [HP.out]
  have HST := Lib.hid (NxSt.start w at_ bs)
  clear h hs ha hla hB ht
  go_enter Try.func36, Try.ntmps36
  go_wp2_with fail
  go_loopw [13, 14, 15, 16, 17, 18] (fun fd j _ _ _ _ wr => ∃ k : Nat, k ≤ bs.length ∧ j = .int .i64 k ∧ fd = .bool (scanRB (tkN bs) f l.length k).isSome ∧ NxSt w wr at_ bs (scanRB (tkN bs) f l.length k)) (fun _ j _ _ _ _ _ => bs.length - (intOf j).toNat)
  case atStart => exact ⟨0, Nat.zero_le _, rfl, rfl, HST.out⟩
  case round =>
    obtain ⟨k, hk, rfl, rfl, hst⟩ := hrel
    have HST := Lib.hid hst
    clear hst
    by_cases hlt : k < bs.length
    · obtain ⟨x0, hx0⟩ : ∃ x0, scanRB (tkN bs) f l.length k = x0 := ⟨_, rfl⟩
      have HX0 := Lib.hid hx0
      rw [hx0] at HST ⊢
      clear hx0
      obtain ⟨wo, rfl⟩ : ∃ wo : World, wo = wr := ⟨_, rfl⟩
      go_wp2_with fail
      go_loopw [13, 15, 16, 17, 18] (fun fd j _ _ _ wr => ∃ i : Nat, i ≤ l.length ∧ j = .int .i64 i ∧ fd = .bool (scanRO (tkN bs) f k x0 i).isSome ∧ NxSt w wr at_ bs (scanRO (tkN bs) f k x0 i)) (fun _ j _ _ _ _ => l.length - (intOf j).toNat)
      case atStart => exact ⟨0, Nat.zero_le _, rfl, rfl, HST.out⟩
      case round =>
        clear HST
        obtain ⟨i, hi, rfl, rfl, hst⟩ := hrel
        have HST := Lib.hid hst
        clear hst
        by_cases hil : i < l.length
        · obtain ⟨x, hx⟩ : ∃ x, scanRO (tkN bs) f k x0 i = x := ⟨_, rfl⟩
          have HSC : Hid (scanRO (tkN bs) f k x0 (i + 1) = updR (tkN bs) x k i (f k i)) := by show _ = _; rw [← hx]; rfl
          have HX := Lib.hid hx
          rw [hx] at HST ⊢
          clear hx
          have HBW := Lib.hid HST.out.bl
          obtain ⟨bb, offb, bx, hAb, hBB, hdb, hbt⟩ := HBB.out.at_ HBW.out hlt
          have htk : tkN bs k = bx.tk := by unfold tkN; rw [List.getD_eq_getElem?_getD, hdb]; rfl
          have HDB := Lib.hid hdb
          have HTKN := Lib.hid htk
          have c0 := hbt.1
          have HBT := Lib.hid hbt
          subst hAb
          clear hdb htk hbt
          have j0 : (0 : Int) ≤ (k : Int) := by omega
          have j1 : (k : Int) < (bs.length : Int) := by omega
          go_wp2_with fail
          ((with_reducible refine (begin49_any A cap l Aa capA at_ Tk capT ts bx.tk i _ (HO.out.go HBW.out) HS.out (HA.out.go HBW.out) HLA.out (HT.out.go HBW.out) hn hil).mono ?_); rintro e w3 ⟨hp, hb3⟩)
          have hfk : f k i = erl l at_ ts bx.tk i := by rw [HF.out, ← HTKN.out]
          rw [← hfk] at hp
          have HST3 := Lib.hid (HST.out.go hb3)
          clear hb3 hfk c0
          cases hf : f k i with
          | none =>
            obtain rfl := hp.1 hf
            have HN : Hid (scanRO (tkN bs) f k x0 (i + 1) = x) := by show _ = _; rw [HSC.out, hf]; rfl
            clear hf hp
            go_wp2_with fail
            go_roundw
            case rel => exact ⟨i + 1, by omega, by go_num, by rw [HN.out], by rw [HN.out]; exact HST3.out⟩
            case measure => simp [intOf]; omega
          | some s =>
            obtain rfl := hp.2 s hf
            have HN : Hid (scanRO (tkN bs) f k x0 (i + 1) = updR (tkN bs) x k i (some s)) := by show _ = _; rw [HSC.out, hf]
            clear hf hp
            have HBW3 := Lib.hid HST3.out.bl
            have hbt := HBB.out.at_ HBW3.out hlt
            obtain ⟨bb', offb', bx', hAb', _, hdb', hbt⟩ := hbt
            obtain ⟨rfl, rfl⟩ : bb' = bb ∧ offb' = offb := by injection hAb' with h1; injection h1 with h1 h2; exact ⟨h1.symm, h2.symm⟩
            obtain rfl : bx' = bx := by have := HDB.out; rw [hdb'] at this; injection this
            obtain ⟨c0, c1, c2, c3, c4, c5⟩ := hbt
            clear hdb' hAb'
            obtain ⟨ba, offa, y, hA2, hBa, hda, ca⟩ := HA.out.at_ HBW3.out (show i < at_.length by rw [HLA.out]; exact hil)
            have HDA : Hid (at_.getD i 0 = y) := by show _ = _; rw [List.getD_eq_getElem?_getD, hda]; rfl
            subst hA2
            clear hda
            have k0 : (0 : Int) ≤ (i : Int) := by omega
            have k1 : (i : Int) < (l.length : Int) := by omega
            have q1 : bb' < w3.heap.size := Nat.lt_of_lt_of_le hBB HBW3.out.size
            have q2 : ba < w3.heap.size := Nat.lt_of_lt_of_le hBa HBW3.out.size
            have HST4 : Hid (NxSt w (w3.alloc (.cells #[.int .i64 bx'.tk, .int .i64 (i : Int), .int .i64 y, .int .i64 s, .int .i64 0] 39)).drew at_ bs x) := HST3.out.go ((below_new _ _).drew)
            have HB18 : Hid (Blk (w3.alloc (.cells #[.int .i64 bx'.tk, .int .i64 (i : Int), .int .i64 y, .int .i64 s, .int .i64 0] 39)).drew w3.heap.size 39 [.int .i64 bx'.tk, .int .i64 (i : Int), .int .i64 y, .int .i64 s, .int .i64 0]) := Blk.new w3 _ _
            have HBN : Hid (BnAt (w3.alloc (.cells #[.int .i64 bx'.tk, .int .i64 (i : Int), .int .i64 y, .int .i64 s, .int .i64 0] 39)).drew bb' (offb' + k * 6) bx') := BnAt.below (B := w3.heap.size) ⟨c0, c1, c2, c3, c4, c5⟩ ((below_new _ _).drew) q1
            have h34 : w3.heap.size < (w3.alloc (.cells #[.int .i64 bx'.tk, .int .i64 (i : Int), .int .i64 y, .int .i64 s, .int .i64 0] 39)).drew.heap.size := by simp
            have hH : w.heap.size + 1 + 1 + 1 < w3.heap.size := HST3.out.b3.lt
            go_wp2_with fail
            go_region
            clear c0 c1 c2 c3 c4 c5 ca
            revert HST4 HB18 HBN h34
            generalize (w3.alloc (.cells #[.int .i64 bx'.tk, .int .i64 (i : Int), .int .i64 y, .int .i64 s, .int .i64 0] 39)).drew = w4
            intro HST4 HB18 HBN h34
            have d0 := HB18.out.cell (i := 0) rfl
            have d1 := HB18.out.cell (i := 1) rfl
            have d2 := HB18.out.cell (i := 2) rfl
            have d3 := HB18.out.cell (i := 3) rfl
            have d4 := HB18.out.cell (i := 4) rfl
            obtain ⟨c0, c1, c2, c3, c4, c5⟩ := HBN.out
            have hcase : (updR (tkN bs) x k i (some s) = some (k, i, s) ∧ (x = none ∨ ∃ b0 o0 s0, x = some (b0, o0, s0) ∧ (s < s0 ∨ ¬ s < s0 ∧ (s == s0) = true ∧ bx'.tk < tkN bs b0))) ∨ (updR (tkN bs) x k i (some s) = x ∧ ∃ b0 o0 s0, x = some (b0, o0, s0) ∧ ¬ s < s0 ∧ ((s == s0) = false ∨ (s == s0) = true ∧ ¬ bx'.tk < tkN bs b0)) := by
              cases x with
              | none => exact .inl ⟨rfl, .inl rfl⟩
              | some yy =>
                obtain ⟨b0, o0, s0⟩ := yy
                unfold updR
                simp only
                rw [HTKN.out]
                by_cases e1 : s < s0
                · rw [if_pos (.inl e1)]; exact .inl ⟨rfl, .inr ⟨b0, o0, s0, rfl, .inl e1⟩⟩
                · by_cases e2 : s = s0
                  · by_cases e3 : bx'.tk < tkN bs b0
                    · rw [if_pos (.inr ⟨e2, e3⟩)]; exact .inl ⟨rfl, .inr ⟨b0, o0, s0, rfl, .inr ⟨e1, by simpa using e2, e3⟩⟩⟩
                    · rw [if_neg (by omega)]; exact .inr ⟨rfl, b0, o0, s0, rfl, e1, .inr ⟨by simpa using e2, e3⟩⟩
                  · rw [if_neg (by omega)]; exact .inr ⟨rfl, b0, o0, s0, rfl, e1, .inl (by simpa using e2)⟩
            rcases hcase with ⟨hu, hc⟩ | ⟨hu, b0, o0, s0, rfl, e1, hc⟩
            · have HN2 : Hid (scanRO (tkN bs) f k x0 (i + 1) = some (k, i, s)) := HN.out.trans hu
              clear hu
              obtain ⟨p0, p1, p2, p3, p4, hp5⟩ : ∃ p0 p1 p2 p3 p4, bestL at_ bs x = [p0, p1, p2, p3, p4] := by cases x <;> exact ⟨_, _, _, _, _, rfl⟩
              obtain ⟨r0, r1, r2, r3, r4, r5, hr6⟩ : ∃ r0 r1 r2 r3 r4 r5, fromL bs x = [r0, r1, r2, r3, r4, r5] := by cases x <;> exact ⟨_, _, _, _, _, _, rfl⟩
              have B2 := HST4.out.b2
              have B3 := HST4.out.b3
              rw [hp5] at B2
              rw [hr6] at B3
              have g0 := B2.cell (i := 0) rfl
              have g1 := B2.cell (i := 1) rfl
              have g2 := B2.cell (i := 2) rfl
              have g3 := B2.cell (i := 3) rfl
              have g4 := B2.cell (i := 4) rfl
              have f0 := B2.free 0
              have f1 := B2.free 1
              have f2 := B2.free 2
              have f3 := B2.free 3
              have f4 := B2.free 4
              have m0 := B3.cell (i := 0) rfl
              have m1 := B3.cell (i := 1) rfl
              have m2 := B3.cell (i := 2) rfl
              have m3 := B3.cell (i := 3) rfl
              have m4 := B3.cell (i := 4) rfl
              have m5 := B3.cell (i := 5) rfl
              have n0 := B3.free 0
              have n1 := B3.free 1
              have n2 := B3.free 2
              have n3 := B3.free 3
              have n4 := B3.free 4
              have n5 := B3.free 5
              have HB2 := Lib.hid B2
              have HB3 := Lib.hid B3
              clear B2 B3
              have HSN := Lib.hid (HST4.out.store (k := k) (i := i) (s := s) (bx := bx') (y := y) (by rw [List.getD_eq_getElem?_getD, HDB.out]; rfl) HDA.out)
              rcases hc with rfl | ⟨b0, o0, s0, rfl, hc | ⟨e1, e2, e3⟩⟩
              · clear hp5 hr6
                simp only [Option.isSome_none]
                go_wp2_with fail
                go_region
                go_wp2_with fail
                go_roundw
                case rel => exact ⟨i + 1, by omega, by go_num, by rw [HN2.out]; rfl, by rw [HN2.out]; exact HSN.out⟩
                case measure => simp [intOf]; omega
              all_goals
                obtain ⟨rfl, rfl⟩ : p0 = .int .i64 (tkN bs b0) ∧ p3 = .int .i64 s0 := by simp [bestL] at hp5; exact ⟨hp5.1.symm, hp5.2.2.2.1.symm⟩
                clear hp5 hr6
                simp only [Option.isSome_some]
                go_wp2_with fail
                go_region
                go_wp2_with fail
                go_roundw
                case rel => exact ⟨i + 1, by omega, by go_num, by rw [HN2.out]; rfl, by rw [HN2.out]; exact HSN.out⟩
                case measure => simp [intOf]; omega
            · have HN2 : Hid (scanRO (tkN bs) f k x0 (i + 1) = some (b0, o0, s0)) := HN.out.trans hu
              clear hu
              have B2 := HST4.out.b2
              have g0 := B2.cell (i := 0) (v := .int .i64 (tkN bs b0)) rfl
              have g3 := B2.cell (i := 3) (v := .int .i64 s0) rfl
              clear B2
              simp only [Option.isSome_some]
              rcases hc with e2 | ⟨e2, e3⟩
              all_goals
                go_wp2_with fail
                go_roundw
                case rel => exact ⟨i + 1, by omega, by go_num, by rw [HN2.out]; rfl, by rw [HN2.out]; exact HST4.out⟩
                case measure => simp [intOf]; omega
        · obtain rfl : l.length = i := by omega
          have HN : Hid (scanRB (tkN bs) f l.length (k + 1) = scanRO (tkN bs) f k x0 l.length) := by show _ = _; rw [← HX0.out]; rfl
          go_wp2_with fail
          go_roundw
          case rel => exact ⟨k + 1, by omega, by go_num, by rw [HN.out], by rw [HN.out]; exact HST.out⟩
          case measure => simp [intOf]; omega
    · obtain rfl : bs.length = k := by omega
      obtain ⟨x, hx⟩ : ∃ x, scanRB (tkN bs) f l.length bs.length = x := ⟨_, rfl⟩
      rw [hx] at HST ⊢
      have HX := Lib.hid hx
      clear hx
      obtain ⟨p0, p1, p2, p3, p4, hp5⟩ : ∃ p0 p1 p2 p3 p4 : Int, bestL at_ bs x = [.int .i64 p0, .int .i64 p1, .int .i64 p2, .int .i64 p3, .int .i64 p4] := by cases x <;> exact ⟨_, _, _, _, _, rfl⟩
      obtain ⟨r0, r1, r2, r3, r4, r5, hr6⟩ : ∃ r0 r1 r2 r3 r4 r5 : Int, fromL bs x = [.int .i64 r0, .int .i64 r1, .int .i64 r2, .int .i64 r3, .int .i64 r4, .int .i64 r5] := by cases x <;> exact ⟨_, _, _, _, _, _, rfl⟩
      have B2 := HST.out.b2
      have B3 := HST.out.b3
      rw [hp5] at B2
      rw [hr6] at B3
      have HP5 := Lib.hid hp5
      have HR6 := Lib.hid hr6
      clear hp5 hr6
      have g0 := B2.cell (i := 0) rfl
      have g1 := B2.cell (i := 1) rfl
      have g2 := B2.cell (i := 2) rfl
      have g3 := B2.cell (i := 3) rfl
      have g4 := B2.cell (i := 4) rfl
      have m0 := B3.cell (i := 0) rfl
      have m1 := B3.cell (i := 1) rfl
      have m2 := B3.cell (i := 2) rfl
      have m3 := B3.cell (i := 3) rfl
      have m4 := B3.cell (i := 4) rfl
      have m5 := B3.cell (i := 5) rfl
      have B0 := HST.out.b0
      have B1 := HST.out.b1
      unfold z5 at B0
      unfold z6 at B1
      have a0 := B0.cell (i := 0) rfl
      have a1 := B0.cell (i := 1) rfl
      have a2 := B0.cell (i := 2) rfl
      have a3 := B0.cell (i := 3) rfl
      have a4 := B0.cell (i := 4) rfl
      have f0 := B0.free 0
      have f1 := B0.free 1
      have f2 := B0.free 2
      have f3 := B0.free 3
      have f4 := B0.free 4
      have e0 := B1.cell (i := 0) rfl
      have e1 := B1.cell (i := 1) rfl
      have e2 := B1.cell (i := 2) rfl
      have e3 := B1.cell (i := 3) rfl
      have e4 := B1.cell (i := 4) rfl
      have e5 := B1.cell (i := 5) rfl
      have n0 := B1.free 0
      have n1 := B1.free 1
      have n2 := B1.free 2
      have n3 := B1.free 3
      have n4 := B1.free 4
      have n5 := B1.free 5
      have hH : w.heap.size + 1 + 1 + 1 < wr.heap.size := HST.out.b3.lt
      clear B0 B1 B2 B3
      go_wp2_with fail
      go_region
      go_wp2_with fail
      obtain ⟨W', hW⟩ : ∃ W', W' = (put6 (put5 wr w.heap.size (.int .i64 p0) (.int .i64 p1) (.int .i64 p2) (.int .i64 p3) (.int .i64 p4)) (w.heap.size + 1) (.int .i64 r0) (.int .i64 r1) (.int .i64 r2) (.int .i64 r3) (.int .i64 r4) (.int .i64 r5)).drew := ⟨_, rfl⟩
      have Z0 : Blk W' w.heap.size 39 [.int .i64 p0, .int .i64 p1, .int .i64 p2, .int .i64 p3, .int .i64 p4] := by rw [hW]; exact ((HST.out.b0.put5 rfl).far6 (by omega)).drew
      have Z1 : Blk W' (w.heap.size + 1) 42 [.int .i64 r0, .int .i64 r1, .int .i64 r2, .int .i64 r3, .int .i64 r4, .int .i64 r5] := by rw [hW]; exact ((HST.out.b1.far5 (by omega)).put6 rfl).drew
      have ZB : Below w.heap.size w W' := by rw [hW]; exact (below_put6 (b := w.heap.size + 1) (below_put5 (b := w.heap.size) HST.out.bl (Nat.le_refl _)) (by omega)).drew
      unfold put6 put5 at hW
      rw [← hW]
      clear hW g0 g1 g2 g3 g4 m0 m1 m2 m3 m4 m5 a0 a1 a2 a3 a4 f0 f1 f2 f3 f4 e0 e1 e2 e3 e4 e5 n0 n1 n2 n3 n4 n5
      have a0 := Z0.cell (i := 0) rfl
      have a1 := Z0.cell (i := 1) rfl
      have a2 := Z0.cell (i := 2) rfl
      have a3 := Z0.cell (i := 3) rfl
      have a4 := Z0.cell (i := 4) rfl
      have e0 := Z1.cell (i := 0) rfl
      have e1 := Z1.cell (i := 1) rfl
      have e2 := Z1.cell (i := 2) rfl
      have e3 := Z1.cell (i := 3) rfl
      have e4 := Z1.cell (i := 4) rfl
      have e5 := Z1.cell (i := 5) rfl
      refine bodyPost_ret (v := .tuple #[.agg #[.int .i64 p0, .int .i64 p1, .int .i64 p2, .int .i64 p3, .int .i64 p4], .agg #[.int .i64 r0, .int .i64 r1, .int .i64 r2, .int .i64 r3, .int .i64 r4, .int .i64 r5], .bool x.isSome]) (by simp [results, Try.results36, go_sem, a0, a1, a2, a3, a4, e0, e1, e2, e3, e4, e5]) rfl ⟨?_, ZB⟩
      unfold NxPost
      rw [HX.out, HP5.out, HR6.out]
end Go.Proofs.Ytelgkangojmhdaa
