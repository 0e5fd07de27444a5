/- operation.Critical: plain law and walk. -/
import Derived.Test.YtelgkangojmhdaaG8
import Derived.Test.YtelgkangojmhdaaG4
import Derived.Deep.RegionHeld3
import Derived.Deep.RegionWith
import Derived.RegionTactic
import Derived.BigRegion
import Derived.BigQuiet
import Derived.Outline
import Derived.Handy
namespace Go.Proofs.Ytelgkangojmhdaa
open Go.RowKit

/-- The sums after k operations of the order. -/
structure CrSt (l : List Opn) (k : Nat) (S : List Int) (g : Int) : Prop where
  len : S.length = l.length
  bd : ∀ o, 0 ≤ S.getD o 0 ∧ S.getD o 0 ≤ 10000 * k
  zero : ∀ o, o ∉ (order l).take k → S.getD o 0 = 0
  way : ∀ o ∈ (order l).take k, S.getD o 0 = mn l o ∨ ∃ a ∈ af l o, S.getD o 0 = mn l o + S.getD a.toNat 0
  top : g = 0 ∨ ∃ o ∈ (order l).take k, g = S.getD o 0
  gb : 0 ≤ g ∧ g ≤ 10000 * k
theorem CrSt.start (l : List Opn) : CrSt l 0 (List.replicate l.length 0) 0 := by
  have hz : ∀ o, (List.replicate l.length (0 : Int)).getD o 0 = 0 := by
    intro o
    rw [List.getD_eq_getElem?_getD, List.getElem?_replicate]
    split <;> rfl
  exact ⟨by simp, fun o => by rw [hz]; omega, fun o _ => hz o, fun o h => by simp at h, .inl rfl, by omega⟩
/-- The sum of an operation while its operations before are looked at. -/
def MidOk (l : List Opn) (S : List Int) (i : Nat) (m : Int) : Prop := m = 0 ∨ ∃ a ∈ af l i, m = S.getD a.toNat 0
theorem CrSt.step {l : List Opn} {k : Nat} {S : List Int} {g m : Int} {i : Nat} (h : CrSt l k S g) (hsd : Sound l) (hi : (order l)[k]? = some i) (hm : MidOk l S i m) : CrSt l (k + 1) (S.set i (m + mn l i)) (max g (m + mn l i)) := by
  have hu : Upto l (order l) := topo_upto (l := l) l.length [] (Upto.nil l)
  have hil : i < l.length := hu.2.1 i (List.mem_of_getElem? hi)
  have hni : i ∉ (order l).take k := by
    intro hmem
    obtain ⟨j, hj, e⟩ := List.mem_take_iff_getElem.1 hmem
    have hk := (List.getElem?_eq_some_iff.1 hi)
    have := List.getElem_inj (xs := order l) (i := j) (j := k) (h₀ := by omega) (h₁ := hk.1) hu.1
    have := this.1 (by rw [e, hk.2])
    omega
  have hmb : 0 ≤ m ∧ m ≤ 10000 * k := by
    rcases hm with rfl | ⟨a, _, rfl⟩
    · omega
    · exact h.bd _
  have hmn := hsd.mins _ (getD_mem hil)
  have hmn' : 1 ≤ mn l i ∧ mn l i ≤ 10000 := hmn
  have hset : ∀ o, (S.set i (m + mn l i)).getD o 0 = if o = i then m + mn l i else S.getD o 0 := fun o => getD_set _ _ _ _ (by rw [h.len]; exact hil)
  have haf : ∀ o ∈ (order l).take (k + 1), ∀ a ∈ af l o, a.toNat ∈ (order l).take k := by
    intro o ho a ha
    obtain ⟨j, hj, e⟩ := List.mem_take_iff_getElem.1 ho
    have h1 := hu.2.2 j o (by rw [List.getElem?_eq_getElem (by omega), e]) a ha
    exact List.mem_of_mem_take (by rw [List.take_take, Nat.min_eq_left (by omega)]; exact h1 : a.toNat ∈ ((order l).take k).take j)
  have hne : ∀ o ∈ (order l).take (k + 1), ∀ a ∈ af l o, a.toNat ≠ i := fun o ho a ha e => hni (e ▸ haf o ho a ha)
  have htk := take_tk hi
  refine ⟨by rw [List.length_set]; exact h.len, fun o => ?_, fun o ho => ?_, fun o ho => ?_, ?_, ?_⟩
  · rw [hset]
    split
    · omega
    · have := h.bd o; omega
  · rw [htk] at ho
    simp at ho
    rw [hset, if_neg ho.2]
    exact h.zero o ho.1
  · rw [hset]
    by_cases e : o = i
    · rw [if_pos e]
      subst e
      rcases hm with rfl | ⟨a, ha, rfl⟩
      · exact .inl (by omega)
      · refine .inr ⟨a, ha, ?_⟩
        rw [hset, if_neg (hne o ho a ha)]
        omega
    · rw [if_neg e]
      have ho' : o ∈ (order l).take k := by
        rw [htk] at ho
        rcases List.mem_append.1 ho with h1 | h1
        · exact h1
        · simp at h1; exact absurd h1 e
      rcases h.way o ho' with h1 | ⟨a, ha, h1⟩
      · exact .inl h1
      · exact .inr ⟨a, ha, by rw [hset, if_neg (hne o ho a ha)]; exact h1⟩
  · by_cases e : g ≤ m + mn l i
    · refine .inr ⟨i, by rw [htk]; simp, ?_⟩
      rw [hset, if_pos rfl]; omega
    · rcases h.top with h1 | ⟨o, ho, h1⟩
      · omega
      · refine .inr ⟨o, by rw [htk]; simp [ho], ?_⟩
        rw [hset, if_neg (fun e2 : o = i => hni (e2 ▸ ho))]; omega
  · have := h.gb; omega
theorem CrSt.done {l : List Opn} {S : List Int} {g : Int} (h : CrSt l (order l).length S g) (ho : (order l).length = l.length) : CritIs l S g := by
  have hu : Upto l (order l) := topo_upto (l := l) l.length [] (Upto.nil l)
  refine ⟨fun o hol => h.way o (by rw [List.take_length]; exact order_mem ho hol), ?_⟩
  rcases h.top with h1 | ⟨o, h1, h2⟩
  · exact .inl h1
  · exact .inr ⟨o, hu.2.1 o (List.mem_of_mem_take h1), h2⟩
theorem maxIf (a b : Int) : (if a < b then b else a) = max a b := by split <;> omega
def CritPost (l : List Opn) (e : Ending) : Prop := ∃ S c, e = .returned (.tuple #[.int .i64 c, .int .i64 0]) ∧ CritIs l S c ∧ 0 ≤ c ∧ c ≤ 160000

set_option maxRecDepth 100000 in
set_option maxHeartbeats 4000000 in
theorem critical_any (A : Option Addr) (cap : Nat) (l : List Opn) (w : World) (h : ORd w w.heap.size A l) (hn : l.length ≤ 1000) (hcap : l.length ≤ cap) (hs : OSmall l) (hz : ordErr l = 0) :
    Calls Try.prog 21 #[.slice A l.length cap] w fun e w' => CritPost l e ∧ Below w.heap.size w w' := by
  have HO := Lib.hid h
  have HS := Lib.hid hs
  have HZ := Lib.hid hz
  have HSD := Lib.hid (sound_of (ordErr_zero hz).1)
  have hl16 := (sound_of (ordErr_zero hz).1).len
  have HOL := Lib.hid (ordErr_zero hz).2
  clear h hs hz
  go_enter Try.func21, Try.ntmps21
  go_wp2_with fail
  ((with_reducible refine (checkList_any A cap l _ HO.out hn hcap HS.out).mono ?_); rintro e w1 ⟨⟨A1, n1, c1, rfl, hp1, _⟩, hb1⟩)
  obtain ⟨rfl, hr1⟩ := hp1 HZ.out
  rw [HZ.out]
  have HB1 := Lib.hid hb1
  have HR1 := Lib.hid hr1
  have hol : (order l).length ≤ 16 := by rw [HOL.out]; exact hl16
  clear hr1 hb1 hp1
  have hmk := mkInts l.length (by omega)
  go_wp2_with fail
  clear hmk
  have HR0 : Hid (Row (w1.alloc (.cells (intCells (List.replicate l.length 0)) 3)) w1.heap.size (List.replicate l.length 0)) := Row.new w1 _
  have HBN := Lib.hid (below_new w1 (.cells (intCells (List.replicate l.length 0)) 3))
  go_loopw [7, 9, 11, 25] (fun v _ _ j wr => ∃ (k : Nat) (S : List Int) (g : Int), k ≤ (order l).length ∧ j = .int .i64 k ∧ v = .int .i64 g ∧ CrSt l k S g ∧ Row wr w1.heap.size S ∧ Below w1.heap.size w1 wr) (fun _ _ _ j _ => (order l).length - (intOf j).toNat)
  case atStart => exact ⟨0, _, 0, Nat.zero_le _, rfl, rfl, CrSt.start l, HR0.out, HBN.out⟩
  case round =>
    clear HR0 HBN
    obtain ⟨k, S, g, hk, rfl, rfl, hcr, hrow, hb⟩ := hrel
    have HCR := Lib.hid hcr
    have HRW := Lib.hid hrow
    have HB := Lib.hid hb
    have HBW := Lib.hid (HB1.out.trans (hb.mono HB1.out.size))
    have hgb := hcr.gb
    clear hcr hrow hb
    by_cases hlt : k < (order l).length
    · obtain ⟨i, hi⟩ : ∃ i, (order l)[k]? = some i := ⟨_, List.getElem?_eq_getElem hlt⟩
      have hu : Upto l (order l) := topo_upto (l := l) l.length [] (Upto.nil l)
      have hil : i < l.length := hu.2.1 i (List.mem_of_getElem? hi)
      have hni : i ∉ (order l).take k := by
        intro hmem
        obtain ⟨j, hj, e⟩ := List.mem_take_iff_getElem.1 hmem
        have hk := (List.getElem?_eq_some_iff.1 hi)
        have := List.getElem_inj (xs := order l) (i := j) (j := k) (h₀ := by omega) (h₁ := hk.1) hu.1
        have := this.1 (by rw [e, hk.2])
        omega
      have HAFT : Hid (∀ a ∈ af l i, a.toNat ≠ i) := Lib.hid fun a ha e => hni (by have := hu.2.2 k i hi a ha; rw [e] at this; exact this)
      have HS0 : Hid (S.set i 0 = S) := by
        have h0 := HCR.out.zero i hni
        show _ = _
        apply List.ext_getElem?
        intro j
        rw [List.getElem?_set]
        by_cases e : i = j
        · subst e
          rw [if_pos rfl, if_pos (by rw [HCR.out.len]; exact hil), getD_some (E := S) (t := i) (by rw [HCR.out.len]; exact hil), h0]
        · rw [if_neg e]
      have HI := Lib.hid hi
      have hmi : ((order l).map Int.ofNat)[k]? = some (i : Int) := by rw [List.getElem?_map, hi]; rfl
      obtain ⟨bq, offq, x, hA1, hBq, hdq, cq⟩ := HR1.out.at_ HB.out (show k < ((order l).map Int.ofNat).length by simpa using hlt)
      obtain rfl : x = (i : Int) := by rw [hmi] at hdq; injection hdq with e; exact e.symm
      subst hA1
      obtain ⟨bo, offo, op, hA, hbo, hopx, hat⟩ := HO.out.at_ (Below.refl _ _) hil
      obtain ⟨_, _, c2, ⟨Af, cf, c3, _, haf⟩, _⟩ := hat
      have c3 := (HBW.out.cell (p := ⟨bo, _, none⟩) hbo).trans c3
      have hafe := af_at hopx
      have hmn : mn l i = op.mins := by unfold mn; rw [List.getD_eq_getElem?_getD, hopx]; rfl
      have hmnb := HSD.out.mins op (List.mem_of_getElem? hopx)
      have hso := (HS.out op (List.mem_of_getElem? hopx)).2.1
      have HIDX := Lib.hid (HSD.out.idx op (List.mem_of_getElem? hopx))
      rw [hafe] at HAFT
      subst hA
      have HAF := Lib.hid haf
      have HAFE := Lib.hid hafe
      have HMN := Lib.hid hmn
      have HC2 := Lib.hid c2
      have i0 : (0 : Int) ≤ (i : Int) := by omega
      have i1 : (i : Int) < (l.length : Int) := by omega
      have j0 : (0 : Int) ≤ (k : Int) := by omega
      have j1 : (k : Int) < ((order l).length : Int) := by omega
      have hwb : w.heap.size ≤ wr.heap.size := HBW.out.size
      clear hi hu hni hmi hdq hopx haf hafe hmn c2
      go_wp2_with fail
      clear cq c3
      obtain ⟨wo, rfl⟩ : ∃ wo : World, wo = wr := ⟨_, rfl⟩
      go_loopw [11, 35] (fun _ j wr => ∃ (q : Nat) (m : Int), q ≤ op.after.length ∧ j = .int .i64 q ∧ MidOk l S i m ∧ Row wr w1.heap.size (S.set i m) ∧ Below w1.heap.size w1 wr) (fun _ j _ => op.after.length - (intOf j).toNat)
      case atStart => exact ⟨0, 0, Nat.zero_le _, rfl, .inl rfl, by rw [HS0.out]; exact HRW.out, HB.out⟩
      case round =>
        obtain ⟨q, m, hq, rfl, hmid, hrow2, hb2⟩ := hrel
        have hmb : 0 ≤ m ∧ m ≤ 10000 * k := by
          rcases hmid with rfl | ⟨a, _, rfl⟩
          · omega
          · exact HCR.out.bd _
        have hlen : (S.set i m).length = l.length := by rw [List.length_set]; exact HCR.out.len
        have ci := hrow2.cell (i := i) (x := m) (by rw [List.getElem?_set, if_pos rfl, if_pos (by rw [HCR.out.len]; exact hil)])
        have fi := hrow2.free i
        have HMID := Lib.hid hmid
        have HRW2 := Lib.hid hrow2
        have HB2 := Lib.hid hb2
        have HBW2 := Lib.hid (HB1.out.trans (hb2.mono HB1.out.size))
        have HLEN := Lib.hid hlen
        clear hmid hrow2 hb2 hlen
        by_cases hlq : q < op.after.length
        · obtain ⟨b2, off2, x, hA2, hB2, hdx, cx⟩ := HAF.out.at_ HBW2.out hlq
          subst hA2
          obtain ⟨x0, x1⟩ := HIDX.out x (List.mem_of_getElem? hdx)
          have hxa : x ∈ af l i := by rw [HAFE.out]; exact List.mem_of_getElem? hdx
          have hxi := HAFT.out x (List.mem_of_getElem? hdx)
          obtain ⟨xn, rfl⟩ : ∃ xn : Nat, x = (xn : Int) := ⟨x.toNat, by omega⟩
          have hxn : xn < l.length := by omega
          rw [Int.toNat_natCast] at hxi
          have hgx : (S.set i m)[xn]? = some (S.getD xn 0) := by
            rw [List.getElem?_set, if_neg (fun e => hxi e.symm)]; exact getD_some (by rw [HCR.out.len]; exact hxn)
          have cy := HRW2.out.cell hgx
          have hyb := HCR.out.bd xn
          have HMAX : Hid (MidOk l S i (max m (S.getD xn 0))) := by
            show MidOk _ _ _ _
            by_cases e : m ≤ S.getD xn 0
            · exact .inr ⟨(xn : Int), hxa, by rw [Int.toNat_natCast]; omega⟩
            · rw [show max m (S.getD xn 0) = m from by omega]; exact HMID.out
          have HPUT : Hid (Row (wr.setCell ⟨w1.heap.size, i, none⟩ (.int .i64 (max m (S.getD xn 0)))).drew w1.heap.size (S.set i (max m (S.getD xn 0)))) := by
            have h1 := HRW2.out.put i (max m (S.getD xn 0))
            rw [List.set_set] at h1
            exact h1
          generalize S.getD xn 0 = y at *
          have x2 : (0 : Int) ≤ (xn : Int) := by omega
          have q0 : (0 : Int) ≤ (q : Int) := by omega
          have q1 : (q : Int) < (op.after.length : Int) := by omega
          clear hdx hgx hxa
          go_wp2_with fail
          go_region
          go_wp2_with fail
          go_roundw
          case rel => exact ⟨q + 1, max m y, by omega, by go_num, HMAX.out, by rw [maxIf]; exact HPUT.out, (HB2.out.setCell (p := ⟨w1.heap.size, i, none⟩) (Nat.le_refl _) _).drew⟩
          case measure => simp [intOf]; omega
        · obtain rfl : op.after.length = q := by omega
          have c2 := (HBW2.out.cell (p := ⟨bo, _, none⟩) hbo).trans HC2.out
          have HST := Lib.hid (HCR.out.step HSD.out HI.out HMID.out)
          rw [HMN.out] at HST
          have HPUT : Hid (Row (wr.setCell ⟨w1.heap.size, i, none⟩ (.int .i64 (m + op.mins))).drew w1.heap.size (S.set i (m + op.mins))) := by
            have h1 := HRW2.out.put i (m + op.mins)
            rw [List.set_set] at h1
            exact h1
          have HBP := Lib.hid ((HB2.out.setCell (p := ⟨w1.heap.size, i, none⟩) (Nat.le_refl _) (.int .i64 (m + op.mins))).drew)
          have hk16 : k ≤ 16 := by omega
          go_wp2_with fail
          go_region
          revert HPUT HBP
          generalize (wr.setCell ⟨w1.heap.size, i, none⟩ (.int .i64 (m + op.mins))).drew = w5
          intro HPUT HBP
          have c5 := HPUT.out.cell (i := i) (x := m + op.mins) (by rw [List.getElem?_set, if_pos rfl, if_pos (by rw [HCR.out.len]; exact hil)])
          clear ci fi c2
          go_wp2_with fail
          go_roundw
          case rel => exact ⟨k + 1, _, max g (m + op.mins), by omega, by go_num, congrArg (Value.int .i64) (maxIf _ _), HST.out, HPUT.out, HBP.out⟩
          case measure => simp [intOf]; omega
    · obtain rfl : (order l).length = k := by omega
      go_wp2_with fail
      go_ret2
      exact ⟨⟨S, g, rfl, HCR.out.done HOL.out, by omega, by omega⟩, HBW.out⟩
end Go.Proofs.Ytelgkangojmhdaa
