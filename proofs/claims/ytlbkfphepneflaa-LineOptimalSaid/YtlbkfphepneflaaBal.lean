/- line.Balance: the walk. -/
import Derived.Test.YtlbkfphepneflaaGrp
import Derived.Test.YtlbkfphepneflaaLinePlain3
import Derived.Deep.RegionLaw
import Derived.Deep.DeepCutAuto
import Derived.Deep.CutBlock
namespace Go.Proofs.Ytlbkfphepneflaa
open Go.RowKit

/-- The operations below k at station s. -/
def grp (at_ : List Int) (k s : Nat) : List Int := ((List.range k).filter fun i => decide (at_.getD i 0 = (s : Int))).map Int.ofNat
theorem grp_set {at_ : List Int} {k x : Nat} (hk : k < at_.length) (s : Nat) : grp (at_.set k (x : Int)) (k + 1) s = if s = x then grp at_ k x ++ [(k : Int)] else grp at_ k s := by
  unfold grp
  rw [List.range_succ, List.filter_append, List.map_append]
  have h1 : ((List.range k).filter fun i => decide ((at_.set k (x : Int)).getD i 0 = (s : Int))) = (List.range k).filter fun i => decide (at_.getD i 0 = (s : Int)) := by
    apply List.filter_congr
    intro i hi
    rw [getD_set _ _ _ _ hk, if_neg (by have := List.mem_range.1 hi; omega)]
  rw [h1]
  have h2 : ((at_.set k (x : Int)).getD k 0) = x := by rw [getD_set _ _ _ _ hk, if_pos rfl]
  by_cases e : s = x
  · subst e
    rw [if_pos rfl, List.filter_cons_of_pos (by rw [h2]; simp)]
    rfl
  · rw [if_neg e, List.filter_cons_of_neg (by rw [h2]; simp; omega)]
    simp
theorem grp_len (at_ : List Int) (k s : Nat) : (grp at_ k s).length ≤ k := by
  unfold grp; rw [List.length_map]; have := List.length_filter_le (fun i => decide (at_.getD i 0 = (s : Int))) (List.range k); simpa using this
def balSt (l : List Opn) (c : Int) : List (List Int) := (List.range (nSt l c)).map (grp (balAt l c l.length) l.length)
def BalPost (l : List Opn) (c : Int) (e : Ending) (w' : World) : Prop :=
  ∃ A n cap, e = .returned (.tuple #[.slice A n cap, .int .i64 (bndErr l c)]) ∧ (bndErr l c ≠ 0 → A = none ∧ n = 0 ∧ cap = 0) ∧ (bndErr l c = 0 → n = nSt l c ∧ n ≤ cap ∧ SRd w' w'.heap.size A (balSt l c))
theorem balPost_bad {l : List Opn} {c x : Int} {w' : World} (h : bndErr l c = x) (hx : x ≠ 0) : BalPost l c (.returned (.tuple #[.slice none 0 0, .int .i64 x])) w' := by
  subst h; exact ⟨none, 0, 0, rfl, fun _ => ⟨rfl, rfl, rfl⟩, fun h => absurd h hx⟩
theorem balPost_ok {l : List Opn} {c : Int} {w' : World} {A : Option Addr} {n cap : Nat} (h : bndErr l c = 0) (hn : n = nSt l c) (hc : n ≤ cap) (hr : SRd w' w'.heap.size A (balSt l c)) : BalPost l c (.returned (.tuple #[.slice A n cap, .int .i64 0])) w' :=
  ⟨A, n, cap, by rw [h], fun h' => absurd h h', fun _ => ⟨hn, hc, hr⟩⟩
theorem noAt_fill {k n : Nat} (h : k < n) : (List.replicate k (-1) ++ List.replicate (n - k) (0 : Int)).set k (-1) = List.replicate (k + 1) (-1) ++ List.replicate (n - (k + 1)) 0 := fillM_next h
theorem balAt_bnd {l : List Opn} {c : Int} (hl : LineOk l c) (hn : l.length ≤ 16) {k : Nat} (hk : k ≤ l.length) : ∀ x ∈ balAt l c k, -1 ≤ x ∧ x ≤ 1000 := by
  intro x hx
  obtain ⟨i, hi, rfl⟩ := List.getElem_of_mem hx
  rw [balAt_len] at hi
  have e : (balAt l c k)[i] = (balAt l c k).getD i 0 := by rw [List.getD_eq_getElem?_getD, List.getElem?_eq_getElem]; rfl
  rw [e]
  by_cases h : i < k
  · rw [balAt_val h hk]
    have := bal_rng hl hi
    have := nSt_le hl
    omega
  · rw [balAt_free (by omega) hi]; omega

theorem Grps.cong {w : World} {base bs K : Nat} {f g : Nat → List Int} (h : Grps w base bs K f) (e : ∀ s, f s = g s) : Grps w base bs K g := by
  have : f = g := funext e
  rw [← this]; exact h
theorem Row.drew {w : World} {b : Nat} {xs : List Int} (h : Row w b xs) : Row w.drew b xs := h
theorem Row.grown {w w' : World} {b : Nat} {xs : List Int} {row : Option Nat} (h : Row w b xs) (hg : w.grownBy w' row) (hne : some b ≠ row) : Row w' b xs := (hg.block b h.lt hne).trans h

set_option maxRecDepth 100000 in
set_option maxHeartbeats 4000000 in
theorem balance_any (A : Option Addr) (cap : Nat) (l : List Opn) (c : Int) (w : World) (h : ORd w w.heap.size A l) (hn : l.length ≤ 1000) (hcap : l.length ≤ cap) (hs : OSmall l) :
    Calls Try.prog 15 #[.slice A l.length cap, .int .i64 c] w fun e w' => BalPost l c e w' ∧ Below w.heap.size w w' := by
  have H := Lib.hid h
  have HS := Lib.hid hs
  clear h hs
  obtain ⟨i0, hi0, hz0, hz1, hz2⟩ := info_parts infoInt
  go_enter Try.func15, Try.ntmps15
  go_wp2_with fail
  ((with_reducible refine (bound_any A cap l c _ H.out hn hcap HS.out).mono ?_); rintro e w1 ⟨rfl, hb1⟩)
  have HB1 := Lib.hid hb1
  have hs1 := hb1.size
  clear hb1
  by_cases hz : bndErr l c = 0
  · have HZ := Lib.hid hz
    have HLO := Lib.hid (lineOk_of hz)
    obtain ⟨ho, hc0, hc1, -⟩ := bndErr_zero hz
    have HSD := Lib.hid (sound_of (ordErr_zero ho).1)
    have hl16 := (sound_of (ordErr_zero ho).1).len
    clear hz ho
    rw [HZ.out]
    have hmk := mkInts l.length (by omega)
    go_wp2_with fail
    clear hmk
    have HR0 : Hid (Row (w1.alloc (.cells (intCells (List.replicate l.length 0)) 3)) w1.heap.size (fillM 0 l.length)) := by rw [fillM_zero]; exact Row.new w1 _
    have HB0 := Lib.hid (HB1.out.alloc hs1 (.cells (intCells (List.replicate l.length 0)) 3))
    go_loopw [9, 29] (fun _ j wr => ∃ q : Nat, q ≤ l.length ∧ j = .int .i64 q ∧ Row wr w1.heap.size (fillM q l.length) ∧ Below w1.heap.size w1 wr) (fun _ j _ => l.length - (intOf j).toNat)
    case atStart => exact ⟨0, Nat.zero_le _, rfl, HR0.out, (Below.refl _ _).alloc (Nat.le_refl _) _⟩
    case round =>
      obtain ⟨q, hq, rfl, hrow, hb⟩ := hrel
      have HF := Lib.hid hrow
      have HB9 := Lib.hid hb
      have hrl9 := hrow.lt
      have hrf := hrow.free
      clear hrow hb HR0 HB0
      by_cases hlq : q < l.length
      · have cy := HF.out.cell (i := q) (x := 0) (fillM_hi hlq)
        have cf := hrf q
        clear hrf
        have HF' := Lib.hid (HF.out.put q (-1))
        rw [fillM_next hlq] at HF'
        have HB9' := Lib.hid (HB9.out.setCell (p := ⟨w1.heap.size, q, none⟩) (Nat.le_refl _) (.int .i64 (-1)))
        go_wp2
        go_roundw
        case rel => exact ⟨q + 1, by omega, by go_num, HF'.out, HB9'.out⟩
        case measure => simp [intOf]; omega
      · obtain rfl : l.length = q := by omega
        have HF' : Hid (Row wr w1.heap.size (noAt l.length)) := by
          have h1 := HF.out
          unfold fillM at h1
          rw [Nat.sub_self, List.replicate_zero, List.append_nil] at h1
          exact h1
        clear HF hrf
        have hlc0 : (0 : Int) ≤ (l.length : Int) * c := Int.mul_nonneg (by omega) (by omega)
        have hlc1 : (l.length : Int) * c ≤ 16000000 := by
          have := Int.mul_le_mul (show (l.length : Int) ≤ 16 by omega) hc1 (by omega) (by omega)
          omega
        have HO1 := Lib.hid ((H.out.below (HB1.out.trans (HB9.out.mono hs1))).more (Nat.le_trans hs1 HB9.out.size))
        have HI1 := Lib.hid (HF'.out.ird HF'.out.lt)
        go_wp2_with fail
        ((with_reducible refine (least_any A cap l c (some ⟨w1.heap.size, 0, none⟩) l.length (noAt l.length) (l.length * c) _ HO1.out HS.out HSD.out HI1.out (by unfold noAt; simp) (by intro x hx; have := (List.mem_replicate.1 hx).2; omega) hc0 hc1 hlc0 (by omega)).mono ?_); rintro e w2 ⟨rfl, hb2⟩)
        have HEE : Hid (leastV l c (noAt l.length) (l.length * c) = endE l c) := rfl
        rw [HEE.out]
        have HB2 := Lib.hid (HB9.out.trans (hb2.mono HB9.out.size))
        have HR2 := Lib.hid (HF'.out.below hb2 HF'.out.lt)
        obtain ⟨he0, he1, he2⟩ := end_bnd HLO.out
        have HK := Lib.hid (nSt_cast HLO.out)
        have HKP := Lib.hid (nSt_pos HLO.out)
        have hK16 := nSt_le HLO.out
        have HKE : Hid (nSt l c = nSt l c) := rfl
        have HFK : Hid (∀ k, balAt l c (k + 1) = (balAt l c k).set k (firstK l c (balAt l c k) k (nSt l c))) := fun _ => rfl
        have HBS : Hid (balSt l c = (List.range (nSt l c)).map (grp (balAt l c l.length) l.length)) := rfl
        have HRNG : Hid (∀ k, k < l.length → firstK l c (balAt l c k) k (nSt l c) < nSt l c) := fun k hk => by
          have h1 := findN_le (fun s => leastB l c ((balAt l c k).set k s) ((nSt l c : Nat) * c)) (nSt l c - 1)
          have h2 := nSt_pos HLO.out (show 0 < l.length by omega)
          unfold firstK
          omega
        clear hb2 he0
        have HKE2 : Hid (∀ K, K = nSt l c → K = nSt l c) := fun _ h => h
        obtain ⟨K, HKD⟩ : ∃ K, Hid (nSt l c = K) := ⟨_, rfl⟩
        rw [HKD.out] at HK HKP hK16 HFK HBS HRNG
        have hKq := HK.out.symm
        have hne : c ≠ 0 := by omega
        have hKc0 : 0 ≤ (K : Int) * c := Int.mul_nonneg (by omega) (by omega)
        have hKc1 : (K : Int) * c ≤ 16000000 := by
          have := Int.mul_le_mul (show (K : Int) ≤ 16 by omega) hc1 (by omega) (by omega)
          omega
        have hmk := mkRows K (by omega)
        obtain ⟨ee, HEE2⟩ : ∃ ee, Hid (endE l c = ee) := ⟨_, rfl⟩
        rw [HEE2.out] at he1 he2 hKq
        rw [HEE2.out]
        clear HK HKE HKE2
        go_wp2_with fail
        clear hmk hKq
        obtain ⟨w5, HW5⟩ : ∃ w5 : World, Hid (w5 = wr) := ⟨_, rfl⟩
        have hba := HR2.out.lt
        have HG0 := Lib.hid (Grps.new w2 K)
        have HR3 := Lib.hid (HR2.out.alloc (.cells (nilCells K) 35))
        have HB3 := Lib.hid (HB2.out.alloc HB2.out.size (.cells (nilCells K) 35))
        go_loopw [14, 60] (fun _ j wr => ∃ k : Nat, k ≤ l.length ∧ j = .int .i64 k ∧ Row wr w1.heap.size (balAt l c k) ∧ Grps wr (w2.heap.size + 1) w2.heap.size K (grp (balAt l c k) k) ∧ Below w1.heap.size w1 wr) (fun _ j _ => l.length - (intOf j).toNat)
        case atStart => exact ⟨0, Nat.zero_le _, rfl, HR3.out, HG0.out, HB3.out⟩
        case round =>
          clear HW5 HG0 HR3 HB3 HB9 hrl9 HF' HO1 HI1 HB2 HR2
          obtain ⟨k, hk, rfl, hrow, hgrp, hb⟩ := hrel
          have HR := Lib.hid hrow
          have HG := Lib.hid hgrp
          have HB := Lib.hid hb
          clear hrow hgrp hb
          by_cases hlt : k < l.length
          · have HO := Lib.hid ((H.out.below (HB1.out.trans (HB.out.mono hs1))).more hs1)
            have hKp := HKP.out (by omega)
            go_upto_block 3 with fail
            go_cut [14] (fun s14 wx => s14 = .int .i64 (k : Int) ∧ Row wx w1.heap.size (balAt l c (k + 1)) ∧ Grps wx (w2.heap.size + 1) w2.heap.size K (grp (balAt l c (k + 1)) (k + 1)) ∧ Below w1.heap.size w1 wx)
            case first =>
              go_wp2_with fail
              ((with_reducible refine (first_any A cap l c w1.heap.size l.length (balAt l c k) k K _ HO.out HS.out HSD.out HR.out (balAt_len l c k) (balAt_bnd HLO.out hl16 hk) hlt (by rw [getD_some (by rw [balAt_len]; exact hlt), balAt_free (Nat.le_refl _) hlt]) hc0 hc1 hKp (by omega)).mono ?_); rintro e w3 ⟨rfl, hb3⟩)
              have HX := Lib.hid (HFK.out k)
              have hxK := HRNG.out k hlt
              have HR4 := Lib.hid ((HR.out.below hb3 HR.out.lt).put k (firstK l c (balAt l c k) k K : Nat))
              rw [← HX.out] at HR4
              have hr3 := (HR.out.below hb3 HR.out.lt).lt
              have cy := (HR.out.below hb3 HR.out.lt).cell (i := k) (x := -1) (by rw [getD_some (by rw [balAt_len]; exact hlt), balAt_free (Nat.le_refl _) hlt])
              have cf := (HR.out.below hb3 HR.out.lt).free k
              have HG4 := Lib.hid ((HG.out.below (by omega) hb3).put (i := k) (b := w1.heap.size) (by omega) (by omega) (by omega) (.int .i64 ((firstK l c (balAt l c k) k K : Nat) : Int)))
              have HB4 := Lib.hid ((HB.out.trans (hb3.mono HB.out.size)).setCell (p := ⟨w1.heap.size, k, none⟩) (Nat.le_refl _) (.int .i64 ((firstK l c (balAt l c k) k K : Nat) : Int)))
              have HGS : Hid (∀ s, grp (balAt l c (k + 1)) (k + 1) s = if s = firstK l c (balAt l c k) k K then grp (balAt l c k) k (firstK l c (balAt l c k) k K) ++ [(k : Int)] else grp (balAt l c k) k s) := fun s => by
                rw [HX.out]; exact grp_set (by rw [balAt_len]; exact hlt) s
              clear hb3
              revert HX hxK HR4 HG4 HB4 HGS
              generalize firstK l c (balAt l c k) k K = x
              intro HX hxK HR4 HG4 HB4 HGS
              go_wp2_with fail
              clear cy cf
              have hgr := grp_len (balAt l c k) k x
              revert HR4 HG4 HB4
              generalize w3.setCell ⟨w1.heap.size, k, none⟩ (.int .i64 (x : Int)) = w4
              intro HR4 HG4 HB4
              have hba4 := HR4.out.lt
              have hbs4 := HG4.out.lt
              have cx := HR4.out.cell (i := k) (x := (x : Int)) (by rw [HX.out, List.getElem?_set, if_pos rfl, if_pos (by rw [balAt_len]; exact hlt)])
              obtain ⟨v, cv, fv, hov⟩ := HG4.out.at_ hxK
              have HOV := Lib.hid hov
              have hvb : ∀ g, v.ownBlock = some g → w2.heap.size + 1 ≤ g := fun g hg => (hov.lt g hg).1
              have nba : v.ownBlock ≠ some w1.heap.size := fun e => by have := hvb _ e; omega
              have nbs : v.ownBlock ≠ some w2.heap.size := fun e => by have := hvb _ e; omega
              have NBA := Lib.hid nba
              have NBS := Lib.hid nbs
              have CV := Lib.hid cv
              clear hov hvb nba nbs
              have hk0 : (0 : Int) ≤ (k : Int) := by omega
              have hk1 : (k : Int) < (l.length : Int) := by omega
              have hx0 : (0 : Int) ≤ (x : Int) := by omega
              have hx1 : (x : Int) < (K : Int) := by omega
              have ca : (w4.alloc (.cells #[.int .i64 (k : Int)] 3)).cell? ⟨w1.heap.size, k, none⟩ = some (.int .i64 (x : Int)) := by rw [World.cell?_alloc_lt _ _ _ (by simpa using hba4)]; exact cx
              have cva : (w4.alloc (.cells #[.int .i64 (k : Int)] 3)).cell? ⟨w2.heap.size, x, none⟩ = some v := by rw [World.cell?_alloc_lt _ _ _ (by simpa using hbs4)]; exact cv
              have fva : (w4.alloc (.cells #[.int .i64 (k : Int)] 3)).frozen? ⟨w2.heap.size, x, none⟩ = false := (World.frozen?_of_block (a := ⟨w2.heap.size, x, none⟩) (Below.heap_alloc w4 _ _ hbs4)).trans fv
              have HOA : Hid ((w4.alloc (.cells #[.int .i64 (k : Int)] 3)).ownsRow (w2.heap.size + 1) 3 1 v (grp (balAt l c k) k x).length (cellsL (grp (balAt l c k) k x))) := HOV.out.alloc _
              have HNW := Lib.hid (World.news_of_block (cs := #[.int .i64 (k : Int)]) (t := 3) (fr := (0, 0)) (heap_alloc_new w4 (.cells #[.int .i64 (k : Int)] 3)))
              go_region_law ((refine step_append_lies _ (by rfl) _ _ _ (by rfl) (w2.heap.size + 1) 3 i0 _ 1 8 Try.underlying35 hi0 hz0 hz1 hz2 rfl (by omega) v (grp (balAt l c k) k x).length (cellsL (grp (balAt l c k) k x)) (by rfl) HOA.out ⟨w4.heap.size, 0, none⟩ 1 1 [.int .i64 (k : Int)] (by rfl) (by rfl) HNW.out (by simp [Value.oneCell']) (by omega) (by unfold maxLen; omega) (by omega) (by simp; omega) (w4.heap.size + 1) (by simp) ?_; intro gg capg w6 hown6 hgrow hat hlt6; have c61 := (hgrow.cell_far ⟨w1.heap.size, k, none⟩ (by simp; omega) (Ne.symm NBA.out)).trans ca; have c62 := (hgrow.cell_far ⟨w2.heap.size, x, none⟩ (by simp; omega) (Ne.symm NBS.out)).trans cva; have c63 := (hgrow.frozen_far ⟨w2.heap.size, x, none⟩ (by simp; omega) (Ne.symm NBS.out)).trans fva))
              all_goals
                (go_wp2_with fail; go_meet; exact ⟨rfl, ((HR4.out.alloc (.cells #[.int .i64 (k : Int)] 3)).drew.grown hgrow (Ne.symm NBA.out)).far (p := ⟨w2.heap.size, x, none⟩) (show w1.heap.size ≠ w2.heap.size by omega) _, ((HG4.out.step (x := (k : Int)) (show w2.heap.size < w2.heap.size + 1 by omega) hxK CV.out (grownBy_drew (World.grownBy_alloc w4 _ none)) (show (w4.alloc (.cells #[.int .i64 (k : Int)] 3)).drew.heap.size = w4.heap.size + 1 by simp) hgrow hown6 hat).cong (fun s => (HGS.out s).symm)), (((HB4.out.alloc HB4.out.size (.cells #[.int .i64 (k : Int)] 3)).drew).grown hgrow (by have := HB4.out.size; simp; omega) (fun g hg => by have := (HOV.out.lt g hg).1; omega)).setCell (p := ⟨w2.heap.size, x, none⟩) (show w1.heap.size ≤ w2.heap.size by omega) _⟩)
            case rest =>
              obtain ⟨rfl, hr7, hg7, hb7⟩ := hcut
              have HR7 := Lib.hid hr7
              have HG7 := Lib.hid hg7
              have HB7 := Lib.hid hb7
              clear hr7 hg7 hb7
              go_wp2
              go_roundw
              case rel => exact ⟨k + 1, by omega, by go_num, HR7.out, HG7.out, HB7.out⟩
              case measure => simp [intOf]; omega
          · obtain rfl : l.length = k := by omega
            have HFIN := Lib.hid HG.out.srd
            rw [← HBS.out] at HFIN
            go_wp2
            go_ret2
            exact ⟨balPost_ok HZ.out HKD.out.symm (Nat.le_refl _) HFIN.out, HB1.out.trans (HB.out.mono hs1)⟩
  · have HNE := Lib.hid hz
    have hne : (bndErr l c != 0) = true := by simpa using hz
    clear hz
    go_wp2
    go_ret2
    exact ⟨balPost_bad rfl HNE.out, HB1.out⟩
end Go.Proofs.Ytlbkfphepneflaa
