/- Slices of bundles; walks of the reference's Plies, named and of both common. -/
import Derived.Test.YtelgkangojmhdaaFlowPlain
import Derived.Test.YtelgkangojmhdaaG4
import Derived.Test.YtelgkangojmhdaaG5
namespace Go.Proofs.Ytelgkangojmhdaa
open Go.RowKit

/-- One bundle at offset p of block b. -/
def BnAt (w : World) (b p : Nat) (x : Bn) : Prop :=
  w.cell? ⟨b, p, none⟩ = some (.int .i64 x.tk) ∧ w.cell? ⟨b, p + 1, none⟩ = some (.int .i64 x.gm) ∧ w.cell? ⟨b, p + 2, none⟩ = some (.int .i64 x.sz) ∧
  w.cell? ⟨b, p + 3, none⟩ = some (.int .i64 x.lot) ∧ w.cell? ⟨b, p + 4, none⟩ = some (.int .i64 x.fr) ∧ w.cell? ⟨b, p + 5, none⟩ = some (.int .i64 x.tp)
/-- The slice at A reads as the bundles l; it lies below block B. -/
def BRd (w : World) (B : Nat) (A : Option Addr) (l : List Bn) : Prop :=
  l ≠ [] → ∃ b off, A = some ⟨b, off, none⟩ ∧ b < B ∧ ∀ i x, l[i]? = some x → BnAt w b (off + i * 6) x
theorem BnAt.below {w w' : World} {B b p : Nat} {x : Bn} (h : BnAt w b p x) (hb : Below B w w') (hB : b < B) : BnAt w' b p x := by
  obtain ⟨h0, h1, h2, h3, h4, h5⟩ := h
  exact ⟨(hb.cell (p := ⟨b, _, none⟩) hB).trans h0, (hb.cell (p := ⟨b, _, none⟩) hB).trans h1, (hb.cell (p := ⟨b, _, none⟩) hB).trans h2,
    (hb.cell (p := ⟨b, _, none⟩) hB).trans h3, (hb.cell (p := ⟨b, _, none⟩) hB).trans h4, (hb.cell (p := ⟨b, _, none⟩) hB).trans h5⟩
theorem BRd.below {w w' : World} {B : Nat} {A : Option Addr} {l : List Bn} (h : BRd w B A l) (hb : Below B w w') : BRd w' B A l := by
  intro hl
  obtain ⟨b, off, e, hB, hc⟩ := h hl
  exact ⟨b, off, e, hB, fun i x hx => (hc i x hx).below hb hB⟩
theorem BRd.more {w : World} {B B' : Nat} {A : Option Addr} {l : List Bn} (h : BRd w B A l) (hB : B ≤ B') : BRd w B' A l := by
  intro hl
  obtain ⟨b, off, e, hb, hc⟩ := h hl
  exact ⟨b, off, e, by omega, hc⟩
theorem BRd.go {w w' : World} {A : Option Addr} {l : List Bn} (h : BRd w w.heap.size A l) (hb : Below w.heap.size w w') : BRd w' w'.heap.size A l := (h.below hb).more hb.size
theorem BRd.at_ {w w' : World} {B : Nat} {A : Option Addr} {l : List Bn} (h : BRd w B A l) (hb : Below B w w') {k : Nat} (hk : k < l.length) :
    ∃ b off x, A = some ⟨b, off, none⟩ ∧ b < B ∧ l[k]? = some x ∧ BnAt w' b (off + k * 6) x := by
  obtain ⟨b, off, e, hB, hc⟩ := (h.below hb) (by intro e; subst e; simp at hk)
  have hd : l[k]? = some l[k] := List.getElem?_eq_getElem hk
  exact ⟨b, off, l[k], e, hB, hd, hc k _ hd⟩
/-- The ends of a bundle are numbers of an int. -/
def BnR (b : Bn) : Prop := (-9223372036854775808 ≤ b.fr ∧ b.fr ≤ 9223372036854775807) ∧ -9223372036854775808 ≤ b.tp ∧ b.tp ≤ 9223372036854775807
theorem ORd.go {w w' : World} {A : Option Addr} {l : List Opn} (h : ORd w w.heap.size A l) (hb : Below w.heap.size w w') : ORd w' w'.heap.size A l := (h.below hb).more hb.size
theorem SRd.go {w w' : World} {A : Option Addr} {l : List (List Int)} (h : SRd w w.heap.size A l) (hb : Below w.heap.size w w') : SRd w' w'.heap.size A l := (h.below hb).more hb.size
theorem IRd.go {w w' : World} {A : Option Addr} {l : List Int} (h : IRd w w.heap.size A l) (hb : Below w.heap.size w w') : IRd w' w'.heap.size A l := (h.below hb).more hb.size
theorem dgo {w w' : World} {A : Option Addr} {l : List M.Dn} (h : M.DRd w w.heap.size A l) (hb : Below w.heap.size w w') : M.DRd w' w'.heap.size A l := (h.below hb).more hb.size
theorem below_new (w : World) (o : Obj) : Below w.heap.size w (w.alloc o) := (Below.refl _ _).alloc (Nat.le_refl _) _
theorem usub {a b : Int} (h : BnR ⟨0, 0, 0, 0, a, b⟩) (hab : a < b) : IntKind.u64.wrap (IntKind.u64.wrap b - IntKind.u64.wrap a) = b - a := by
  obtain ⟨⟨h1, h2⟩, h3, h4⟩ := h
  simp only at h1 h2 h3 h4
  simp [IntKind.wrap, IntKind.bits, IntKind.signed]
  omega

set_option maxHeartbeats 1000000 in
theorem plies_any (b : Bn) (w : World) (hb : BnR b) : Calls Try.prog 22 #[.agg #[.int .i64 b.tk, .int .i64 b.gm, .int .i64 b.sz, .int .i64 b.lot, .int .i64 b.fr, .int .i64 b.tp]] w fun e w' => e = .returned (.bool (!bnBad b)) ∧ Below w.heap.size w w' := by
  by_cases h : b.fr < b.tp
  · have hu := usub (a := b.fr) (b := b.tp) hb h
    go_enter Try.func22, Try.ntmps22
    go_wp2
    go_ret
    exact ⟨ret_bool (by unfold bnBad; rw [Bool.eq_iff_iff]; simp; omega), below_new _ _⟩
  · have HE : Hid (bnBad b = true) := by show _ = _; unfold bnBad; simp; omega
    go_enter Try.func22, Try.ntmps22
    go_wp2
    go_ret
    exact ⟨ret_bool (by rw [HE.out]; rfl), below_new _ _⟩

theorem bn_any_step {bs : List Bn} {k : Nat} {x : Bn} {q : Bn → Bool} (h : bs[k]? = some x) (h1 : (bs.take k).any q = false) (h2 : q x = false) : (bs.take (k + 1)).any q = false := any_snoc h h1 h2
set_option maxHeartbeats 1000000 in
theorem named_any (A : Option Addr) (cap : Nat) (bs : List Bn) (n : Nat) (k : Int) (w : World) (h : BRd w w.heap.size A bs) (hn : n ≤ bs.length) (hb : bs.length ≤ 1000) :
    Calls Try.prog 58 #[.slice A bs.length cap, .int .i64 n, .int .i64 k] w fun e w' => e = .returned (.bool ((bs.take n).any (tkEq k))) ∧ w = w' := by
  have H := Lib.hid h
  clear h
  go_enter Try.func58, Try.ntmps58
  go_wp2
  go_loop [7] (fun j => ∃ i : Nat, i ≤ n ∧ j = .int .i64 i ∧ (bs.take i).any (tkEq k) = false) (fun j => n - (intOf j).toNat)
  case atStart => exact ⟨0, Nat.zero_le _, rfl, rfl⟩
  case round =>
    obtain ⟨i, hi, rfl, hu⟩ := hrel
    have HU := Lib.hid hu
    clear hu
    by_cases hlt : i < n
    · obtain ⟨b, off, x, rfl, hB, hd, hat⟩ := H.out.at_ (Below.refl _ _) (show i < bs.length by omega)
      have c0 := hat.1
      have HD := Lib.hid hd
      clear hd hat
      by_cases hx : x.tk = k
      · have hxb : (x.tk == k) = true := by simp [hx]
        have HF : Hid ((bs.take n).any (tkEq k) = true) := by
          show _ = _
          refine any_hit (k := i) (x := x) ?_ (by unfold tkEq; simpa using hx)
          rw [List.getElem?_take, if_pos hlt]; exact HD.out
        clear hx
        go_wp2
        go_ret
        exact ⟨ret_bool HF.out.symm, rfl⟩
      · have hxb : (x.tk == k) = false := by simp [hx]
        have HU' := Lib.hid (any_snoc HD.out HU.out (by unfold tkEq; simpa using hx))
        clear hx
        go_wp2
        go_round
        case rel => exact ⟨i + 1, by omega, by go_num, HU'.out⟩
        case measure => simp [intOf]; omega
    · obtain rfl : n = i := by omega
      go_wp2
      go_ret
      exact ⟨ret_bool HU.out.symm, rfl⟩

set_option maxRecDepth 100000 in
set_option maxHeartbeats 4000000 in
theorem refCommon_any (A : Option Addr) (cap : Nat) (l : List Opn) (S : Option Addr) (capS : Nat) (ss : List (List Int)) (Ab : Option Addr) (capB : Nat) (bs : List Bn) (D : Option Addr) (capD : Nat) (ds : List M.Dn) (w : World)
    (h : ORd w w.heap.size A l) (hn : l.length ≤ 1000) (hs : OSmall l) (hS : SRd w w.heap.size S ss) (hsm : SSmall ss) (hB : BRd w w.heap.size Ab bs) (hbl : bs.length ≤ 1000) (hbr : ∀ b ∈ bs, BnR b) (hD : M.DRd w w.heap.size D ds) (hdl : ds.length ≤ 1000) :
    Calls Try.prog 34 #[.slice A l.length cap, .slice S ss.length capS, .slice Ab bs.length capB, .slice D ds.length capD] w fun e w' => e = .returned (.int .i64 (comErr l ss bs ds)) ∧ Below w.heap.size w w' := by
  have HO := Lib.hid h
  have HS := Lib.hid hs
  have HSS := Lib.hid hS
  have HSM := Lib.hid hsm
  have HBB := Lib.hid hB
  have HBR := Lib.hid hbr
  have HDD := Lib.hid hD
  clear h hs hS hsm hB hbr hD
  go_enter Try.func34, Try.ntmps34
  go_wp2_with fail
  ((with_reducible refine (refOrder_any A cap l _ HO.out hn HS.out).mono ?_); rintro e w1 ⟨⟨A1, n1, c1, rfl, hp1, hp2⟩, hb1⟩)
  have HB1 := Lib.hid hb1
  clear hp1 hp2 hb1
  by_cases hz : ordErr l = 0
  · have HZ := Lib.hid hz
    clear hz
    rw [HZ.out]
    go_wp2_with fail
    ((with_reducible refine (refCheck_any A cap l 1000000 S capS ss _ (HO.out.go HB1.out) hn HS.out (HSS.out.go HB1.out) HSM.out).mono ?_); rintro e w2 ⟨rfl, hb2⟩)
    have HB2 := Lib.hid (HB1.out.trans (hb2.mono HB1.out.size))
    clear hb2
    by_cases hc : chkErr l 1000000 ss = 0
    · have HC := Lib.hid hc
      clear hc
      rw [HC.out]
      by_cases hlong : 60 < bs.length
      · have HE := Lib.hid (com_long (ds := ds) HZ.out HC.out hlong)
        go_wp2
        go_ret
        exact ⟨ret_int HE.out.symm, HB2.out⟩
      · go_wp2_with fail
        go_loopw [12] (fun j wr => ∃ k : Nat, k ≤ bs.length ∧ j = .int .i64 k ∧ bnUpto bs k = 0 ∧ Below w.heap.size w wr) (fun j _ => bs.length - (intOf j).toNat)
        case atStart => exact ⟨0, Nat.zero_le _, rfl, rfl, HB2.out⟩
        case round =>
          obtain ⟨k, hk, rfl, hu, hb⟩ := hrel
          have HU := Lib.hid hu
          have HB := Lib.hid hb
          clear hu hb
          by_cases hlt : k < bs.length
          · have HBG := Lib.hid (HBB.out.go HB.out)
            obtain ⟨b, off, x, rfl, hB, hd, hat⟩ := HBB.out.at_ HB.out hlt
            obtain ⟨c0, c1, c2, c3, c4, c5⟩ := hat
            have HD := Lib.hid hd
            have HXR := Lib.hid (HBR.out x (List.mem_of_getElem? hd))
            have hB' : b < wr.heap.size := Nat.lt_of_lt_of_le hB HB.out.size
            have CK := Lib.hid c0
            clear hd
            go_wp2_with fail
            ((with_reducible refine (plies_any x _ HXR.out).mono ?_); rintro e w3 ⟨rfl, hb3⟩)
            have HB3 := Lib.hid (HB.out.trans (hb3.mono HB.out.size))
            have HBG3 := Lib.hid (HBG.out.go hb3)
            have c0' := (hb3.cell (p := ⟨b, _, none⟩) hB').trans CK.out
            clear hb3 c0 c1 c2 c3 c4 c5
            cases hbad : bnBad x with
            | true =>
              have HE := Lib.hid (com_bn (ds := ds) HZ.out HC.out (by omega) (bnUpto_stop HU.out (by rw [bnErr_range HD.out hbad]; omega) _ hlt) (by rw [bnErr_range HD.out hbad]; omega))
              rw [bnErr_range HD.out hbad] at HE
              clear hbad
              go_wp2
              go_ret
              exact ⟨ret_int HE.out.symm, HB3.out⟩
            | false =>
              have HBAD := Lib.hid hbad
              clear hbad
              go_wp2_with fail
              ((with_reducible refine (named_any (some ⟨b, off, none⟩) capB bs k x.tk _ HBG3.out (by omega) (by omega)).mono ?_); rintro e w4 ⟨rfl, rfl⟩)
              cases htw : (bs.take k).any (tkEq x.tk) with
              | true =>
                have HE := Lib.hid (com_bn (ds := ds) HZ.out HC.out (by omega) (bnUpto_stop HU.out (by rw [bnErr_twice HD.out HBAD.out htw]; omega) _ hlt) (by rw [bnErr_twice HD.out HBAD.out htw]; omega))
                rw [bnErr_twice HD.out HBAD.out htw] at HE
                clear htw
                go_wp2
                go_ret
                exact ⟨ret_int HE.out.symm, HB3.out⟩
              | false =>
                have HU' := Lib.hid (bnUpto_go HU.out (bnErr_ok HD.out HBAD.out htw))
                clear htw
                go_wp2
                go_roundw
                case rel => exact ⟨k + 1, by omega, by go_num, HU'.out, HB3.out⟩
                case measure => simp [intOf]; omega
          · obtain rfl : bs.length = k := by omega
            have HE := Lib.hid (com_down (ds := ds) HZ.out HC.out (by omega) HU.out)
            go_wp2_with fail
            ((with_reducible refine (M.refCheck_any D capD ds _ (dgo HDD.out HB.out) hdl).mono ?_); rintro e w3 ⟨rfl, hb3⟩)
            have HB3 := Lib.hid (HB.out.trans (hb3.mono HB.out.size))
            clear hb3
            go_wp2
            go_ret
            exact ⟨ret_int HE.out.symm, HB3.out⟩
    · have HE := Lib.hid (com_chk (bs := bs) (ds := ds) HZ.out hc)
      have hne : (chkErr l 1000000 ss != 0) = true := by simpa using hc
      clear hc
      go_wp2
      go_ret
      exact ⟨ret_int HE.out.symm, HB2.out⟩
  · have HE := Lib.hid (com_ord (ss := ss) (bs := bs) (ds := ds) hz)
    have hne : (ordErr l != 0) = true := by simpa using hz
    clear hz
    go_wp2
    go_ret
    exact ⟨ret_int HE.out.symm, HB1.out⟩

theorem bnNew (w : World) (x : Bn) (T : TypeId) :
    (w.alloc (.cells #[.int .i64 x.tk, .int .i64 x.gm, .int .i64 x.sz, .int .i64 x.lot, .int .i64 x.fr, .int .i64 x.tp] T)).cell? ⟨w.heap.size, 0, none⟩ = some (.int .i64 x.tk) ∧
    w.heap.size < (w.alloc (.cells #[.int .i64 x.tk, .int .i64 x.gm, .int .i64 x.sz, .int .i64 x.lot, .int .i64 x.fr, .int .i64 x.tp] T)).heap.size := ⟨by simp [go_sem], by simp⟩

set_option maxRecDepth 100000 in
set_option maxHeartbeats 4000000 in
theorem common_any (A : Option Addr) (cap : Nat) (l : List Opn) (S : Option Addr) (capS : Nat) (ss : List (List Int)) (Ab : Option Addr) (capB : Nat) (bs : List Bn) (D : Option Addr) (capD : Nat) (ds : List M.Dn) (w : World)
    (h : ORd w w.heap.size A l) (hn : l.length ≤ 1000) (hcap : l.length ≤ cap) (hs : OSmall l) (hS : SRd w w.heap.size S ss) (hsm : SSmall ss) (hB : BRd w w.heap.size Ab bs) (hbl : bs.length ≤ 1000) (hbc : bs.length ≤ capB) (hbr : ∀ b ∈ bs, BnR b) (hD : M.DRd w w.heap.size D ds) (hdl : ds.length ≤ 1000) :
    Calls Try.prog 43 #[.slice A l.length cap, .slice S ss.length capS, .slice Ab bs.length capB, .slice D ds.length capD] w fun e w' => e = .returned (.int .i64 (comErr l ss bs ds)) ∧ Below w.heap.size w w' := by
  have HO := Lib.hid h
  have HS := Lib.hid hs
  have HSS := Lib.hid hS
  have HSM := Lib.hid hsm
  have HBB := Lib.hid hB
  have HBR := Lib.hid hbr
  have HDD := Lib.hid hD
  clear h hs hS hsm hB hbr hD
  go_enter Try.func43, Try.ntmps43
  go_wp2_with fail
  ((with_reducible refine (order_any A cap l _ HO.out hn hcap HS.out).mono ?_); rintro e w1 ⟨⟨A1, n1, c1, rfl, hp1, hp2⟩, hb1⟩)
  have HB1 := Lib.hid hb1
  clear hp1 hp2 hb1
  by_cases hz : ordErr l = 0
  · have HZ := Lib.hid hz
    clear hz
    rw [HZ.out]
    go_wp2_with fail
    ((with_reducible refine (check_any A cap l 1000000 S capS ss _ (HO.out.go HB1.out) hn hcap HS.out (HSS.out.go HB1.out) HSM.out).mono ?_); rintro e w2 ⟨rfl, hb2⟩)
    have HB2 := Lib.hid (HB1.out.trans (hb2.mono HB1.out.size))
    clear hb2
    by_cases hc : chkErr l 1000000 ss = 0
    · have HC := Lib.hid hc
      clear hc
      rw [HC.out]
      by_cases hlong : 60 < bs.length
      · have HE := Lib.hid (com_long (ds := ds) HZ.out HC.out hlong)
        go_wp2
        go_ret
        exact ⟨ret_int HE.out.symm, HB2.out⟩
      · go_wp2_with fail
        go_loopw [12, 13, 15, 35] (fun _ _ _ j wr => ∃ k : Nat, k ≤ bs.length ∧ j = .int .i64 k ∧ bnUpto bs k = 0 ∧ Below w.heap.size w wr) (fun _ _ _ j _ => bs.length - (intOf j).toNat)
        case atStart => exact ⟨0, Nat.zero_le _, rfl, rfl, HB2.out⟩
        case round =>
          obtain ⟨k, hk, rfl, hu, hb⟩ := hrel
          have HU := Lib.hid hu
          have HB := Lib.hid hb
          have hsz := hb.size
          clear hu hb
          by_cases hlt : k < bs.length
          · obtain ⟨b, off, x, rfl, hB, hd, hat⟩ := HBB.out.at_ HB.out hlt
            obtain ⟨c0, c1, c2, c3, c4, c5⟩ := hat
            have HD := Lib.hid hd
            have HXR := Lib.hid (HBR.out x (List.mem_of_getElem? hd))
            clear hd
            have hk0 : (0 : Int) ≤ (k : Int) := by omega
            have hk1 : (k : Int) ≤ (capB : Int) := by omega
            have HNW := Lib.hid (bnNew wr x 42)
            have HB3 := Lib.hid (HB.out.alloc hsz (.cells #[.int .i64 x.tk, .int .i64 x.gm, .int .i64 x.sz, .int .i64 x.lot, .int .i64 x.fr, .int .i64 x.tp] 42))
            by_cases hft : x.tp ≤ x.fr
            · have hbad : bnBad x = true := by unfold bnBad; simp; omega
              have HE := Lib.hid (com_bn (ds := ds) HZ.out HC.out (by omega) (bnUpto_stop HU.out (by rw [bnErr_range HD.out hbad]; omega) _ hlt) (by rw [bnErr_range HD.out hbad]; omega))
              rw [bnErr_range HD.out hbad] at HE
              clear hbad
              go_wp2
              go_ret
              exact ⟨ret_int HE.out.symm, HB3.out⟩
            · have hu := usub (a := x.fr) (b := x.tp) HXR.out (by omega)
              by_cases hbig : 40 < x.tp - x.fr
              · have hbad : bnBad x = true := by unfold bnBad; simp; omega
                have HE := Lib.hid (com_bn (ds := ds) HZ.out HC.out (by omega) (bnUpto_stop HU.out (by rw [bnErr_range HD.out hbad]; omega) _ hlt) (by rw [bnErr_range HD.out hbad]; omega))
                rw [bnErr_range HD.out hbad] at HE
                clear hbad
                go_wp2
                go_ret
                exact ⟨ret_int HE.out.symm, HB3.out⟩
              · have HBAD : Hid (bnBad x = false) := by show _ = _; unfold bnBad; simp; omega
                go_wp2_with fail
                clear hu
                revert HNW HB3
                generalize wr.alloc (.cells #[.int .i64 x.tk, .int .i64 x.gm, .int .i64 x.sz, .int .i64 x.lot, .int .i64 x.fr, .int .i64 x.tp] 42) = w3
                intro HNW HB3
                clear c0 c1 c2 c3 c4 c5
                obtain ⟨wo, rfl⟩ : ∃ wo : World, wo = wr := ⟨_, rfl⟩
                go_loopw [15, 59] (fun _ j wq => ∃ i : Nat, i ≤ k ∧ j = .int .i64 i ∧ (bs.take i).any (tkEq x.tk) = false ∧ Below w3.heap.size w3 wq) (fun _ j _ => k - (intOf j).toNat)
                case atStart => exact ⟨0, Nat.zero_le _, rfl, rfl, Below.refl _ _⟩
                case round =>
                  obtain ⟨i, hi, rfl, hu, hb⟩ := hrel
                  have HUI := Lib.hid hu
                  have HBI := Lib.hid hb
                  have HBW := Lib.hid (HB3.out.trans (hb.mono HB3.out.size))
                  have hszq := hb.size
                  have hzlt : wo.heap.size < wr.heap.size := Nat.lt_of_lt_of_le HNW.out.2 hszq
                  have z0 := (hb.cell (p := ⟨wo.heap.size, 0, none⟩) HNW.out.2).trans HNW.out.1
                  clear hu hb
                  by_cases hli : i < k
                  · obtain ⟨b', off', y, e', hB', hdy, haty⟩ := HBB.out.at_ HBW.out (show i < bs.length by omega)
                    cases e'
                    obtain ⟨d0, d1, d2, d3, d4, d5⟩ := haty
                    have HDY := Lib.hid hdy
                    clear hdy hB'
                    by_cases hxy : y.tk = x.tk
                    · have hxyb : (y.tk == x.tk) = true := by simp [hxy]
                      have htw : (bs.take k).any (tkEq x.tk) = true := any_hit (k := i) (x := y) (by rw [List.getElem?_take, if_pos hli]; exact HDY.out) (by unfold tkEq; simpa using hxy)
                      have HE := Lib.hid (com_bn (ds := ds) HZ.out HC.out (by omega) (bnUpto_stop HU.out (by rw [bnErr_twice HD.out HBAD.out htw]; omega) _ hlt) (by rw [bnErr_twice HD.out HBAD.out htw]; omega))
                      rw [bnErr_twice HD.out HBAD.out htw] at HE
                      clear hxy htw
                      go_wp2
                      go_ret
                      exact ⟨ret_int HE.out.symm, HBW.out.alloc (Nat.le_trans HB3.out.size hszq) _⟩
                    · have hxyb : (y.tk == x.tk) = false := by simp [hxy]
                      have HU' := Lib.hid (any_snoc HDY.out HUI.out (by unfold tkEq; simpa using hxy))
                      clear hxy
                      go_wp2
                      go_roundw
                      case rel => exact ⟨i + 1, by omega, by go_num, HU'.out, HBI.out.alloc hszq _⟩
                      case measure => simp [intOf]; omega
                  · obtain rfl : k = i := by omega
                    have HU' := Lib.hid (bnUpto_go HU.out (bnErr_ok HD.out HBAD.out HUI.out))
                    go_wp2
                    go_roundw
                    case rel => exact ⟨k + 1, by omega, by go_num, HU'.out, HBW.out⟩
                    case measure => simp [intOf]; omega
          · obtain rfl : bs.length = k := by omega
            have HE := Lib.hid (com_down (ds := ds) HZ.out HC.out (by omega) HU.out)
            go_wp2_with fail
            ((with_reducible refine (M.check_any D capD ds _ (dgo HDD.out HB.out) hdl).mono ?_); rintro e w3 ⟨rfl, hb3⟩)
            have HB3 := Lib.hid (HB.out.trans (hb3.mono HB.out.size))
            clear hb3
            go_wp2
            go_ret
            exact ⟨ret_int HE.out.symm, HB3.out⟩
    · have HE := Lib.hid (com_chk (bs := bs) (ds := ds) HZ.out hc)
      have hne : (chkErr l 1000000 ss != 0) = true := by simpa using hc
      clear hc
      go_wp2
      go_ret
      exact ⟨ret_int HE.out.symm, HB2.out⟩
  · have HE := Lib.hid (com_ord (ss := ss) (bs := bs) (ds := ds) hz)
    have hne : (ordErr l != 0) = true := by simpa using hz
    clear hz
    go_wp2
    go_ret
    exact ⟨ret_int HE.out.symm, HB1.out⟩
end Go.Proofs.Ytelgkangojmhdaa
