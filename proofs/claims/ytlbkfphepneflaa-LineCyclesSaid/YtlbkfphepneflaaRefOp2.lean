/- Walks of the reference's sorted, sound and Order of operations. -/
import Derived.Test.YtlbkfphepneflaaRefOp
namespace Go.Proofs.Ytlbkfphepneflaa
open Go.RowKit

def inOut (out : List Nat) (x : Int) : Bool := out.contains x.toNat
theorem hasB_out {out : List Nat} {x : Int} (h : 0 ≤ x) : hasB (out.map Int.ofNat) x = inOut out x := by
  unfold hasB inOut
  rw [Bool.eq_iff_iff, List.contains_iff_mem, List.contains_iff_mem, List.mem_map]
  constructor
  · rintro ⟨a, ha, rfl⟩; simpa using ha
  · intro ha; exact ⟨_, ha, by simp; omega⟩
theorem hasOut_any (A : Option Addr) (cap : Nat) (out : List Nat) (x : Int) (w : World) (h : IRd w w.heap.size A (out.map Int.ofNat)) (hn : out.length ≤ 1000) (hx : 0 ≤ x) :
    Calls Try.prog 39 #[.slice A out.length cap, .int .i64 x] w fun e w' => e = .returned (.bool (inOut out x)) ∧ w = w' := by
  have := has45_any A cap (out.map Int.ofNat) x w h (by simpa using hn)
  rw [List.length_map, hasB_out hx] at this
  exact this
def readyK (l : List Opn) (out : List Nat) (i k : Nat) : Bool := !inOut out i && (((l.getD i op0).after.take k).all fun a => inOut out a)
theorem readyK_all {l : List Opn} {out : List Nat} {i k : Nat} (h : (l.getD i op0).after.length ≤ k) : readyK l out i k = readyB l out i := by
  unfold readyK readyB inOut; rw [List.take_of_length_le h]; simp
theorem readyK_succ {l : List Opn} {out : List Nat} {i k : Nat} {a : Int} (h : (l.getD i op0).after[k]? = some a) : readyK l out i (k + 1) = (readyK l out i k && inOut out a) := by
  unfold readyK; rw [List.take_add_one, h]; simp [Bool.and_assoc]
theorem order_stuck {l : List Opn} {out : List Nat} {t : Nat} (h : order l = topo l (l.length - t) out) (hp : pick l out = none) : order l = topo l (l.length - (t + 1)) out := by
  rw [h, topo_stuck hp, topo_stuck hp]
theorem order_next {l : List Opn} {out : List Nat} {t i : Nat} (ht : t < l.length) (h : order l = topo l (l.length - t) out) (hp : pick l out = some i) : order l = topo l (l.length - (t + 1)) (out ++ [i]) := by
  rw [h, show l.length - t = (l.length - (t + 1)) + 1 from by omega, topo_step hp]

set_option maxRecDepth 100000 in
set_option maxHeartbeats 2000000 in
theorem sorted_any (A : Option Addr) (cap : Nat) (l : List Opn) (w : World) (h : ORd w w.heap.size A l) (hs : OSmall l) (hsd : Sound l) :
    Calls Try.prog 34 #[.slice A l.length cap] w fun e w' => (∃ A' c, e = .returned (.slice A' (order l).length c) ∧ IRd w' w'.heap.size A' ((order l).map Int.ofNat)) ∧ Below w.heap.size w w' := by
  have H := Lib.hid h
  have HS := Lib.hid hs
  have HSD := Lib.hid hsd
  have hn : l.length ≤ 16 := hsd.len
  clear h hs hsd
  obtain ⟨i0, hi0, hz0, hz1, hz2⟩ := info_parts infoInt
  go_enter Try.func34, Try.ntmps34
  go_wp2_with fail
  go_loopw [3, 4, 5, 6, 9] (fun v _ _ _ j wr => ∃ (t : Nat) (out : List Nat), t ≤ l.length ∧ j = .int .i64 t ∧ Upto l out ∧ order l = topo l (l.length - t) out ∧ wr.ownsRow w.heap.size 3 1 v out.length (natCells out) ∧ Below w.heap.size w wr) (fun _ _ _ _ j _ => l.length - (intOf j).toNat)
  case atStart => exact ⟨0, [], Nat.zero_le _, rfl, Upto.nil l, rfl, ⟨by simp [natCells], .inl ⟨rfl, rfl⟩⟩, Below.refl _ _⟩
  case round =>
    obtain ⟨t, out, ht, rfl, hup, hord, hown, hb⟩ := hrel
    have HUP := Lib.hid hup
    have HORD := Lib.hid hord
    have HOWN := Lib.hid hown
    have HB := Lib.hid hb
    have hol := hup.le
    have hsz := hb.size
    obtain ⟨A9, c9, rfl⟩ := own_any HOWN.out
    have HI := Lib.hid (ird_own HOWN.out)
    clear hup hord hown hb
    obtain ⟨wm, rfl⟩ : ∃ wm : World, wm = wr := ⟨_, rfl⟩
    by_cases hlt : t < l.length
    · go_wp2_with fail
      go_loop [3, 4, 5, 6] (fun v j _ _ => ∃ q : Nat, q ≤ l.length ∧ v = .slice A9 out.length c9 ∧ j = .int .i64 q ∧ (∀ i, i < q → readyB l out i = false)) (fun _ j _ _ => l.length - (intOf j).toNat)
      case atStart => exact ⟨0, Nat.zero_le _, rfl, rfl, fun i hi => absurd hi (by omega)⟩
      case round =>
        obtain ⟨q, hq, rfl, rfl, hnr⟩ := hrel
        have HNR := Lib.hid hnr
        clear hnr
        by_cases hlq : q < l.length
        · obtain ⟨b, off, o, rfl, hB, hd, hat⟩ := H.out.at_ (Below.refl _ _) hlq
          obtain ⟨c0', c1', c2', ⟨Aa, ca, c3', a1, a2⟩, _⟩ := hat
          have c3 := (HB.out.cell (p := ⟨b, _, none⟩) hB).trans c3'
          have HA := Lib.hid a2
          have HGD := Lib.hid (getD_at hd)
          have hso := (HS.out o (List.mem_of_getElem? hd)).2.1
          have HDX := Lib.hid (HSD.out.idx o (List.mem_of_getElem? hd))
          clear c0' c1' c2' c3' a2 hd
          go_wp2_with fail
          ((with_reducible refine (hasOut_any A9 c9 out q _ HI.out (by omega) (by omega)).mono ?_); rintro e w1 ⟨rfl, rfl⟩)
          have HK0 : Hid ((!inOut out q) = readyK l out q 0) := by show _ = _; unfold readyK; simp
          go_wp2_with fail
          rw [HK0.out]
          go_loop [5, 6] (fun v j => ∃ k : Nat, k ≤ o.after.length ∧ j = .int .i64 k ∧ v = .bool (readyK l out q k)) (fun _ j => o.after.length - (intOf j).toNat)
          case atStart => exact ⟨0, Nat.zero_le _, rfl, rfl⟩
          case round =>
            obtain ⟨k, hk, rfl, rfl⟩ := hrel
            by_cases hlk : k < o.after.length
            · obtain ⟨b2, off2, x, rfl, hB2, hdx, cx⟩ := HA.out.at_ HB.out hlk
              obtain ⟨x0, x1⟩ := HDX.out x (List.mem_of_getElem? hdx)
              have HKS := Lib.hid (readyK_succ (l := l) (out := out) (i := q) (k := k) (a := x) (by rw [HGD.out]; exact hdx))
              clear hdx
              cases hrk : readyK l out q k with
              | false =>
                have HKS' : Hid (readyK l out q (k + 1) = false) := by rw [HKS.out, hrk]; rfl
                clear hrk
                go_wp2
                go_round
                case rel => exact ⟨k + 1, by omega, by go_num, by rw [HKS'.out]⟩
                case measure => simp [intOf]; omega
              | true =>
                have HKS' : Hid (readyK l out q (k + 1) = inOut out x) := by rw [HKS.out, hrk]; rfl
                clear hrk
                go_wp2_with fail
                ((with_reducible refine (hasOut_any A9 c9 out x _ HI.out (by omega) x0).mono ?_); rintro e w1 ⟨rfl, rfl⟩)
                go_wp2
                go_round
                case rel => exact ⟨k + 1, by omega, by go_num, by rw [HKS'.out]⟩
                case measure => simp [intOf]; omega
            · have HKA := Lib.hid (readyK_all (l := l) (out := out) (i := q) (k := k) (by rw [HGD.out]; omega))
              rw [HKA.out]
              cases hrd : readyB l out q with
              | false =>
                have HRD := Lib.hid hrd
                clear hrd
                go_wp2
                go_round
                case rel => exact ⟨q + 1, by omega, rfl, by go_num, upto_succ HNR.out HRD.out⟩
                case measure => simp [intOf]; omega
              | true =>
                have HPK := Lib.hid (pick_eq hlq hrd HNR.out)
                clear hrd
                go_wp2_with (at_builtin; refine wpList_append_own _ rfl (.tmp 45) (.tmp 47) 35 rfl w.heap.size 3 i0 _ 1 8 Try.underlying35 hi0 hz0 hz1 hz2 rfl (by decide) _ _ _ rfl (HOWN.out.alloc _) ⟨wm.heap.size, 0, none⟩ 1 1 [.int .i64 (q : Int)] rfl rfl ?m1 ?m2 ?m3 ?m4 ?m5 ?_)
                case m2 => first | rfl | (intro u hu; simp at hu; subst hu; rfl)
                case m3 => unfold maxLen; omega
                case m4 => omega
                case m5 => first | omega | (simp; omega)
                intro v' w' hown' hgrow _
                have HO' : Hid (w'.ownsRow w.heap.size 3 1 v' (out ++ [q]).length (natCells (out ++ [q]))) := by
                  show World.ownsRow _ _ _ _ _ _ _
                  rw [List.length_append]; unfold natCells; rw [List.map_append]; exact hown'
                have HB' : Hid (Below w.heap.size w w') := (HB.out.alloc hsz _).grown hgrow (by simp; omega) (fun g hg => (HOWN.out.lt g hg).1)
                have HUP' := Lib.hid (HUP.out.step HPK.out)
                have HORD' := Lib.hid (order_next hlt HORD.out HPK.out)
                clear hown' hgrow
                go_wp2
                go_roundw
                case rel => exact ⟨t + 1, out ++ [q], by omega, by go_num, HUP'.out, HORD'.out, HO'.out, HB'.out⟩
                case measure => simp [intOf]; omega
        · have hql : q = l.length := by omega
          subst hql
          have HPN := Lib.hid (pick_eq_none HNR.out)
          have HORD' := Lib.hid (order_stuck HORD.out HPN.out)
          go_wp2
          go_roundw
          case rel => exact ⟨t + 1, out, by omega, by go_num, HUP.out, HORD'.out, HOWN.out, HB.out⟩
          case measure => simp [intOf]; omega
    · have htl : t = l.length := by omega
      subst htl
      have e : order l = out := by rw [HORD.out, Nat.sub_self]; rfl
      have HE := Lib.hid e
      clear e
      go_wp2
      go_ret
      rw [HE.out]
      exact ⟨⟨A9, c9, rfl, HI.out⟩, HB.out⟩

set_option maxHeartbeats 1000000 in
theorem sound_any (A : Option Addr) (cap : Nat) (l : List Opn) (w : World) (h : ORd w w.heap.size A l) (hn : l.length ≤ 1000) (hs : OSmall l) :
    Calls Try.prog 33 #[.slice A l.length cap] w fun e w' => e = .returned (.int .i64 (ordErr l)) ∧ Below w.heap.size w w' := by
  have H := Lib.hid h
  have HS := Lib.hid hs
  clear h hs
  go_enter Try.func33, Try.ntmps33
  go_wp2_with fail
  ((with_reducible refine (single_any A cap l _ H.out hn HS.out).mono ?_); rintro e w1 ⟨rfl, hb1⟩)
  have HR1 := Lib.hid ((H.out.below hb1).more hb1.size)
  have HB1 := Lib.hid hb1
  have hs1 := hb1.size
  clear hb1
  by_cases hz : singErr l = 0
  · have HZ := Lib.hid hz
    clear hz
    rw [HZ.out]
    go_wp2_with fail
    ((with_reducible refine (sorted_any A cap l _ HR1.out HS.out (sound_of HZ.out)).mono ?_); rintro e w2 ⟨⟨A2, c2, rfl, _⟩, hb2⟩)
    have HB2 := Lib.hid (HB1.out.trans (hb2.mono hs1))
    clear hb2
    by_cases ho : (order l).length = l.length
    · have HE := Lib.hid (ordErr_ok HZ.out ho)
      have hnl : decide ((order l).length < l.length) = false := by simp; omega
      clear ho
      go_wp2
      go_ret
      exact ⟨ret_int HE.out.symm, HB2.out⟩
    · have HE := Lib.hid (ordErr_cycle HZ.out ho)
      have hle := (topo_upto (l := l) l.length [] (Upto.nil l)).le
      have hlt : (order l).length < l.length := by unfold order at ho ⊢; omega
      have hnl : decide ((order l).length < l.length) = true := by simpa using hlt
      clear ho hle hlt
      go_wp2
      go_ret
      exact ⟨ret_int HE.out.symm, HB2.out⟩
  · have HE := Lib.hid (show ordErr l = singErr l from by unfold ordErr; rw [if_pos hz])
    have hne : (singErr l != 0) = true := by simpa using hz
    clear hz
    go_wp2
    go_ret
    exact ⟨ret_int HE.out.symm, HB1.out⟩

set_option maxHeartbeats 1000000 in
theorem refOrder_any (A : Option Addr) (cap : Nat) (l : List Opn) (w : World) (h : ORd w w.heap.size A l) (hn : l.length ≤ 1000) (hs : OSmall l) :
    Calls Try.prog 22 #[.slice A l.length cap] w fun e w' => OrdPost l e w' ∧ Below w.heap.size w w' := by
  have H := Lib.hid h
  have HS := Lib.hid hs
  clear h hs
  go_enter Try.func22, Try.ntmps22
  go_wp2_with fail
  ((with_reducible refine (sound_any A cap l _ H.out hn HS.out).mono ?_); rintro e w1 ⟨rfl, hb1⟩)
  have HR1 := Lib.hid ((H.out.below hb1).more hb1.size)
  have HB1 := Lib.hid hb1
  have hs1 := hb1.size
  clear hb1
  by_cases hz : ordErr l = 0
  · have HZ := Lib.hid hz
    clear hz
    rw [HZ.out]
    go_wp2_with fail
    ((with_reducible refine (sorted_any A cap l _ HR1.out HS.out (sound_of (ordErr_zero HZ.out).1)).mono ?_); rintro e w2 ⟨⟨A2, c2, rfl, hi⟩, hb2⟩)
    have HB2 := Lib.hid (HB1.out.trans (hb2.mono hs1))
    have HI := Lib.hid hi
    clear hb2 hi
    go_wp2
    go_ret2
    exact ⟨⟨A2, (order l).length, c2, by rw [HZ.out]; rfl, fun _ => ⟨rfl, HI.out⟩, fun h => absurd HZ.out h⟩, HB2.out⟩
  · have HNE := Lib.hid hz
    have hne : (ordErr l != 0) = true := by simpa using hz
    clear hz
    go_wp2
    go_ret2
    exact ⟨ordPost_bad rfl HNE.out, HB1.out⟩
end Go.Proofs.Ytlbkfphepneflaa
