/- The reference's Balance and Same: the walks. -/
import Derived.Test.YtlbkfphepneflaaLinePlain4
namespace Go.Proofs.Ytlbkfphepneflaa
open Go.RowKit

theorem ird_nil (w : World) (B : Nat) (A : Option Addr) : IRd w B A [] := fun h => absurd rfl h
theorem grp_succ {at_ : List Int} {k x : Nat} (hx : at_.getD k 0 = (x : Int)) (s : Nat) : grp at_ (k + 1) s = if s = x then grp at_ k x ++ [(k : Int)] else grp at_ k s := by
  unfold grp
  rw [List.range_succ, List.filter_append, List.map_append]
  by_cases e : s = x
  · subst e
    rw [if_pos rfl, List.filter_cons_of_pos (by rw [hx]; simp)]
    rfl
  · rw [if_neg e, List.filter_cons_of_neg (by rw [hx]; simp; omega)]
    simp

set_option maxRecDepth 100000 in
set_option maxHeartbeats 4000000 in
theorem refBalance_any (A : Option Addr) (cap : Nat) (l : List Opn) (c : Int) (w : World) (h : ORd w w.heap.size A l) (hn : l.length ≤ 1000) (hs : OSmall l) :
    Calls Try.prog 16 #[.slice A l.length cap, .int .i64 c] w fun e w' => BalPost l c e w' ∧ Below w.heap.size w w' := by
  have H := Lib.hid h
  have HS := Lib.hid hs
  clear h hs
  obtain ⟨i0, hi0, hz0, hz1, hz2⟩ := info_parts infoInt
  go_enter Try.func16, Try.ntmps16
  go_wp2_with fail
  ((with_reducible refine (begin_any A cap l c _ H.out hn HS.out).mono ?_); rintro e w1 ⟨rfl, hb1⟩)
  have HB1 := Lib.hid hb1
  have hs1 := hb1.size
  have HO1 := Lib.hid ((H.out.below hb1).more hb1.size)
  clear hb1
  by_cases hz : bndErr l c = 0
  · have HZ := Lib.hid hz
    have HLO := Lib.hid (lineOk_of hz)
    obtain ⟨ho, hc0, hc1, -⟩ := bndErr_zero hz
    have HSD := Lib.hid (sound_of (ordErr_zero ho).1)
    have hl16 := (sound_of (ordErr_zero ho).1).len
    clear hz ho
    rw [HZ.out]
    go_wp2_with fail
    ((with_reducible refine (refbound_any A cap l c _ HO1.out HZ.out).mono ?_); rintro e w2 ⟨rfl, rfl⟩)
    have hbn := bnd_nSt HLO.out
    have hb0 : 0 ≤ bndMax l c := by unfold bndMax; omega
    have hKn := nSt_le HLO.out
    have HNO : Hid (∀ m, m < nSt l c → srch l c m l.length [] = none) := fun m hm => srch_none HLO.out hm
    have HYES := Lib.hid (srch_some HLO.out)
    have HRNG : Hid (∀ k, k < l.length → 0 ≤ (balAt l c l.length).getD k 0 ∧ (balAt l c l.length).getD k 0 < nSt l c) := fun k hk => bal_rng HLO.out hk
    have HBL := Lib.hid (balAt_len l c l.length)
    have HBS : Hid (balSt l c = (List.range (nSt l c)).map (grp (balAt l c l.length) l.length)) := rfl
    obtain ⟨K, HKD⟩ : ∃ K, Hid (nSt l c = K) := ⟨_, rfl⟩
    rw [HKD.out] at hbn hKn HNO HYES HRNG HBS
    obtain ⟨m0, HM0⟩ : ∃ m0 : Nat, Hid (bndMax l c = (m0 : Int)) := ⟨(bndMax l c).toNat, by show _ = _; omega⟩
    rw [HM0.out] at hbn
    rw [HM0.out]
    clear hb0
    obtain ⟨q, HQ⟩ : ∃ q, Hid (balAt l c l.length = q) := ⟨_, rfl⟩
    rw [HQ.out] at HYES HRNG HBS HBL
    go_wp2_with fail
    go_loopw [7, 8, 9, 10, 11] (fun j _ _ _ _ wr => ∃ m : Nat, m ≤ K ∧ j = .int .i64 m ∧ Below w1.heap.size w1 wr) (fun j _ _ _ _ _ => K - (intOf j).toNat)
    case atStart => exact ⟨m0, by omega, rfl, Below.refl _ _⟩
    case round =>
      obtain ⟨m, hm, rfl, hb⟩ := hrel
      have HB := Lib.hid hb
      have hsz := hb.size
      clear hb
      have HO := Lib.hid ((H.out.below (HB1.out.trans (HB.out.mono hs1))).more (Nat.le_trans hs1 hsz))
      have hml : (m : Int) ≤ (l.length : Int) := by omega
      go_wp2_with fail
      have hk := search_any A cap l c m (by omega) HS.out HSD.out l.length none 0 [] wr HO.out (ird_nil _ _ _) (fun _ => rfl) (by simp)
      rw [List.length_nil] at hk
      ((with_reducible refine hk.mono ?_); rintro e w2 ⟨hp2, hb2⟩)
      clear hk
      have HB2 := Lib.hid (HB.out.trans (hb2.mono hsz))
      clear hb2
      by_cases hmK : m < K
      · obtain rfl := hp2.1 (HNO.out m hmK)
        clear hp2
        go_wp2
        go_roundw
        case rel => exact ⟨m + 1, by omega, by go_num, HB2.out⟩
        case measure => simp [intOf]; omega
      · obtain rfl : K = m := by omega
        obtain ⟨A2, c2, rfl, hi2⟩ := hp2.2 q HYES.out
        have HI2 := Lib.hid hi2
        have hsz2 := HB2.out.size
        clear hp2 hi2
        have hmk := mkRows K (by omega)
        go_wp2_with fail
        clear hmk
        obtain ⟨w5, HW5⟩ : ∃ w5 : World, Hid (w5 = wr) := ⟨_, rfl⟩
        have HG0 := Lib.hid (Grps.new w2 K)
        have HI3 : Hid (IRd (w2.alloc (.cells (nilCells K) 35)) w2.heap.size A2 q) := HI2.out.below ((Below.refl _ _).alloc (Nat.le_refl _) _)
        have HB3 := Lib.hid (HB2.out.alloc hsz2 (.cells (nilCells K) 35))
        rw [HBL.out]
        go_loopw [11] (fun j wr => ∃ k : Nat, k ≤ l.length ∧ j = .int .i64 k ∧ IRd wr w2.heap.size A2 q ∧ Grps wr (w2.heap.size + 1) w2.heap.size K (grp q k) ∧ Below w1.heap.size w1 wr) (fun j _ => l.length - (intOf j).toNat)
        case atStart => exact ⟨0, Nat.zero_le _, rfl, HI3.out, HG0.out, HB3.out⟩
        case round =>
          clear HW5 HG0 HI3 HB3 HI2 HB2 HO
          obtain ⟨k, hk, rfl, hird, hgrp, hb⟩ := hrel
          have HI := Lib.hid hird
          have HG := Lib.hid hgrp
          have HB4 := Lib.hid hb
          clear hird hgrp hb
          by_cases hlt : k < l.length
          · have hk0 : (0 : Int) ≤ (k : Int) := by omega
            have hk1 : (k : Int) < (l.length : Int) := by omega
            obtain ⟨ba, offa, y, rfl, hBa, hdy, cx0⟩ := HI.out.at_ (Below.refl _ _) (show k < q.length by rw [HBL.out]; exact hlt)
            have HY : Hid (q.getD k 0 = y) := by show _ = _; rw [List.getD_eq_getElem?_getD, hdy]; rfl
            have hyr := HRNG.out k hlt
            rw [HY.out] at hyr
            obtain ⟨x, rfl⟩ : ∃ x : Nat, y = (x : Int) := ⟨y.toNat, by omega⟩
            have hxK : x < K := by omega
            have HGS := Lib.hid (fun s => grp_succ (k := k) (x := x) HY.out s)
            have hgr := grp_len q k x
            have hba4 : ba < wr.heap.size := Nat.lt_trans hBa HG.out.lt
            have hbs4 := HG.out.lt
            clear hyr hdy
            go_upto_block 3 with fail
            go_cut [11] (fun s11 wx => s11 = .int .i64 (k : Int) ∧ IRd wx w2.heap.size (some ⟨ba, offa, none⟩) q ∧ Grps wx (w2.heap.size + 1) w2.heap.size K (grp q (k + 1)) ∧ Below w1.heap.size w1 wx)
            case first =>
              go_wp2_with fail
              obtain ⟨w4, HW4⟩ : ∃ w4 : World, Hid (wr = w4) := ⟨_, rfl⟩
              rw [HW4.out] at HI HG HB4 cx0 hba4 hbs4
              rw [HW4.out]
              have cx := cx0
              obtain ⟨v, cv, fv, hov⟩ := HG.out.at_ hxK
              have HOV := Lib.hid hov
              have hvb : ∀ g, v.ownBlock = some g → w2.heap.size + 1 ≤ g := fun g hg => (hov.lt g hg).1
              have nba : v.ownBlock ≠ some ba := fun e => by have := hvb _ e; omega
              have nbs : v.ownBlock ≠ some w2.heap.size := fun e => by have := hvb _ e; omega
              have NBA := Lib.hid nba
              have NBS := Lib.hid nbs
              have CV := Lib.hid cv
              clear hov hvb nba nbs cx0
              have hx0 : (0 : Int) ≤ (x : Int) := by omega
              have hx1 : (x : Int) < (K : Int) := by omega
              have ca : (w4.alloc (.cells #[.int .i64 (k : Int)] 3)).cell? ⟨ba, offa + k, none⟩ = some (.int .i64 (x : Int)) := by rw [World.cell?_alloc_lt _ _ _ (by simpa using hba4)]; exact cx
              have cva : (w4.alloc (.cells #[.int .i64 (k : Int)] 3)).cell? ⟨w2.heap.size, x, none⟩ = some v := by rw [World.cell?_alloc_lt _ _ _ (by simpa using hbs4)]; exact cv
              have fva : (w4.alloc (.cells #[.int .i64 (k : Int)] 3)).frozen? ⟨w2.heap.size, x, none⟩ = false := (World.frozen?_of_block (a := ⟨w2.heap.size, x, none⟩) (Below.heap_alloc w4 _ _ hbs4)).trans fv
              have HOA : Hid ((w4.alloc (.cells #[.int .i64 (k : Int)] 3)).ownsRow (w2.heap.size + 1) 3 1 v (grp q k x).length (cellsL (grp q k x))) := HOV.out.alloc _
              have HNW := Lib.hid (World.news_of_block (cs := #[.int .i64 (k : Int)]) (t := 3) (fr := (0, 0)) (heap_alloc_new w4 (.cells #[.int .i64 (k : Int)] 3)))
              go_region_law ((refine step_append_lies _ (by rfl) _ _ _ (by rfl) (w2.heap.size + 1) 3 i0 _ 1 8 Try.underlying35 hi0 hz0 hz1 hz2 rfl (by omega) v (grp q k x).length (cellsL (grp q k x)) (by rfl) HOA.out ⟨w4.heap.size, 0, none⟩ 1 1 [.int .i64 (k : Int)] (by rfl) (by rfl) HNW.out (by simp [Value.oneCell']) (by omega) (by unfold maxLen; omega) (by omega) (by simp; omega) (w4.heap.size + 1) (by simp) ?_; intro gg capg w6 hown6 hgrow hat hlt6; have c61 := (hgrow.cell_far ⟨ba, offa + k, none⟩ (by simp; omega) (Ne.symm NBA.out)).trans ca; have c62 := (hgrow.cell_far ⟨w2.heap.size, x, none⟩ (by simp; omega) (Ne.symm NBS.out)).trans cva; have c63 := (hgrow.frozen_far ⟨w2.heap.size, x, none⟩ (by simp; omega) (Ne.symm NBS.out)).trans fva))
              all_goals
                (go_wp2_with fail; go_meet; exact ⟨rfl, HI.out.below ((((Below.refl w2.heap.size w4).alloc (by omega) (.cells #[.int .i64 (k : Int)] 3)).drew.grown hgrow (by simp; omega) (fun g hg => by have := (HOV.out.lt g hg).1; omega)).setCell (p := ⟨w2.heap.size, x, none⟩) (Nat.le_refl _) _), ((HG.out.step (x := (k : Int)) (show w2.heap.size < w2.heap.size + 1 by omega) hxK CV.out (grownBy_drew (World.grownBy_alloc w4 _ none)) (show (w4.alloc (.cells #[.int .i64 (k : Int)] 3)).drew.heap.size = w4.heap.size + 1 by simp) hgrow hown6 hat).cong (fun s => (HGS.out s).symm)), (((HB4.out.alloc HB4.out.size (.cells #[.int .i64 (k : Int)] 3)).drew).grown hgrow (by have := HB4.out.size; simp; omega) (fun g hg => by have := (HOV.out.lt g hg).1; omega)).setCell (p := ⟨w2.heap.size, x, none⟩) hsz2 _⟩)
            case rest =>
              obtain ⟨rfl, hr7, hg7, hb7⟩ := hcut
              have HR7 := Lib.hid hr7
              have HG7 := Lib.hid hg7
              have HB7 := Lib.hid hb7
              clear hr7 hg7 hb7
              go_wp2
              go_roundw
              case rel => exact ⟨k + 1, by omega, by go_num, HR7.out, HG7.out, HB7.out⟩
              case measure => simp [intOf]; omega
          · obtain rfl : l.length = k := by omega
            have HFIN := Lib.hid HG.out.srd
            rw [← HBS.out] at HFIN
            go_wp2
            go_ret2
            exact ⟨balPost_ok HZ.out HKD.out.symm (Nat.le_refl _) HFIN.out, HB1.out.trans (HB4.out.mono hs1)⟩
  · have HNE := Lib.hid hz
    have hne : (bndErr l c != 0) = true := by simpa using hz
    clear hz
    go_wp2
    go_ret2
    exact ⟨balPost_bad rfl HNE.out, HB1.out⟩
end Go.Proofs.Ytlbkfphepneflaa
