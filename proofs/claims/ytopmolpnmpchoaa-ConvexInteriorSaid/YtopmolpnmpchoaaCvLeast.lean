/- The walk of the reference's Least: the list, rotated so that it begins with its least spot. -/
import Derived.Test.YtopmolpnmpchoaaCvHull
namespace Go.Proofs.Ytopmolpnmpchoaa
open Go.RowKit

theorem PRd.drop {w : World} {B b off : Nat} {l : List Pt} (h : PRd w B (some ⟨b, off, none⟩) l) {m : Nat} (hm : m < l.length) : PRd w B (some ⟨b, off + m * 2, none⟩) (l.drop m) := by
  intro _
  obtain ⟨b', off', e, hB, hc⟩ := h (by intro e; subst e; simp at hm)
  cases e
  refine ⟨b, off + m * 2, rfl, hB, fun i p hp => ?_⟩
  rw [List.getElem?_drop] at hp
  obtain ⟨c0, c1⟩ := hc _ _ hp
  rw [show off + (m + i) * 2 = off + m * 2 + i * 2 by omega] at c0 c1
  exact ⟨c0, c1⟩
theorem PRd.take {w : World} {B : Nat} {A : Option Addr} {l : List Pt} (h : PRd w B A l) (m : Nat) : PRd w B A (l.take m) := by
  intro hne
  obtain ⟨b, off, e, hB, hc⟩ := h (by intro e; subst e; simp at hne)
  refine ⟨b, off, e, hB, fun i p hp => hc i p ?_⟩
  rw [List.getElem?_take] at hp
  split at hp
  · exact hp
  · cases hp
def LeastTo (l : List Pt) (k m : Nat) : Prop := m < k ∧ ∀ t q s, t < k → l[t]? = some q → l[m]? = some s → ¬ Less q s
theorem LeastTo.start (l : List Pt) : LeastTo l 1 0 := ⟨by omega, fun t q s ht hq hs => by
  have : t = 0 := by omega
  subst this
  rw [hq] at hs
  cases hs
  unfold Less; omega⟩
theorem LeastTo.keep {l : List Pt} {k m : Nat} {p s : Pt} (h : LeastTo l k m) (hp : l[k]? = some p) (hs : l[m]? = some s) (hn : ¬ Less p s) : LeastTo l (k + 1) m := by
  refine ⟨by have := h.1; omega, fun t q s' ht hq hs' => ?_⟩
  by_cases e : t = k
  · subst e
    rw [hp] at hq
    rw [hs] at hs'
    cases hq; cases hs'
    exact hn
  · exact h.2 t q s' (by omega) hq hs'
theorem LeastTo.turn {l : List Pt} {k m : Nat} {p s : Pt} (h : LeastTo l k m) (hp : l[k]? = some p) (hs : l[m]? = some s) (hn : Less p s) : LeastTo l (k + 1) k := by
  refine ⟨by omega, fun t q s' ht hq hs' => ?_⟩
  rw [hp] at hs'
  cases hs'
  by_cases e : t = k
  · subst e
    rw [hp] at hq
    cases hq
    unfold Less; omega
  · have := h.2 t q s (by omega) hq hs
    unfold Less at *
    omega

set_option maxRecDepth 100000 in
set_option maxHeartbeats 4000000 in
theorem least_any (A : Option Addr) (cap : Nat) (l : List Pt) (w : World) (h : PSl w A cap l) (hl : 0 < l.length) (hn : l.length ≤ 1000000) :
    Calls Try.prog 47 #[.slice A l.length cap] w fun e w' => (∃ A' c' m s, l[m]? = some s ∧ (∀ q ∈ l, ¬ Less q s) ∧ e = .returned (.slice A' l.length c') ∧ PSl w' A' c' (l.drop m ++ l.take m)) ∧ Below w.heap.size w w' := by
  have H := hid h
  have hcap := h.cap
  clear h
  obtain ⟨i0, hi0, hz0, hz1, hz2⟩ := info_parts infoPt
  go_enter Try.func47, Try.ntmps47
  go_wp2_with fail
  go_loopw [3, 4] (fun x i wr => ∃ k m : Nat, k ≤ l.length ∧ m < k ∧ i = .int .i64 k ∧ x = .int .i64 m ∧ Hid (LeastTo l k m) ∧ Hid (Below w.heap.size w wr)) (fun _ i _ => l.length - (intOf i).toNat)
  case atStart => exact ⟨1, 0, by omega, by omega, rfl, rfl, LeastTo.start l, Below.refl _ _⟩
  case round =>
    obtain ⟨k, m, hk, hmk, rfl, rfl, HL, HB⟩ := hrel
    by_cases hlt : k < l.length
    · obtain ⟨b, off, p, hA, hB, hd, c0, c1⟩ := H.out.rd.at_ HB.out hlt
      obtain ⟨b', off', s, hA', _, hd', d0, d1⟩ := H.out.rd.at_ HB.out (show m < l.length by omega)
      obtain ⟨rfl, rfl⟩ : b' = b ∧ off' = off := by rw [hA] at hA'; injection hA' with h1; injection h1 with h1 h2; exact ⟨h1.symm, h2.symm⟩
      subst hA
      clear hA'
      have HKP := hid (fun hn => HL.out.keep hd hd' hn)
      have HTN := hid (fun hn => HL.out.turn hd hd' hn)
      have hbw : b' < wr.heap.size := by have := HB.out.size; omega
      have HCR : Hid (∀ wx, Calls Try.prog 26 #[.agg #[.int .i64 p.x, .int .i64 p.y], .agg #[.int .i64 s.x, .int .i64 s.y]] wx fun e w' => e = .returned (.bool (decide (Less p s))) ∧ Below wx.heap.size wx w') := fun wx => less_any p s wx
      have HK : Hid (∀ wx, Below wr.heap.size wr wx → (wx.cell? ⟨b', off' + k * 2, none⟩ = some (.int .i64 p.x) ∧ wx.cell? ⟨b', off' + k * 2 + 1, none⟩ = some (.int .i64 p.y) ∧ wx.cell? ⟨b', off' + m * 2, none⟩ = some (.int .i64 s.x) ∧ wx.cell? ⟨b', off' + m * 2 + 1, none⟩ = some (.int .i64 s.y)) ∧ Below wr.heap.size wr wx) :=
        fun wx hb => ⟨⟨(hb.cell (p := ⟨b', _, none⟩) hbw).trans c0, (hb.cell (p := ⟨b', _, none⟩) hbw).trans c1, (hb.cell (p := ⟨b', _, none⟩) hbw).trans d0, (hb.cell (p := ⟨b', _, none⟩) hbw).trans d1⟩, hb⟩
      clear hd hd'
      have i1 : (0 : Int) ≤ (k : Int) := by omega
      have i2 : (k : Int) < (l.length : Int) := by omega
      have i3 : (0 : Int) ≤ (m : Int) := by omega
      have i4 : (m : Int) < (l.length : Int) := by omega
      go_wp2_with fail
      go_region_held3 (fun wx => (wx.cell? ⟨b', off' + k * 2, none⟩ = some (.int .i64 p.x) ∧ wx.cell? ⟨b', off' + k * 2 + 1, none⟩ = some (.int .i64 p.y) ∧ wx.cell? ⟨b', off' + m * 2, none⟩ = some (.int .i64 s.x) ∧ wx.cell? ⟨b', off' + m * 2 + 1, none⟩ = some (.int .i64 s.y)) ∧ Below wr.heap.size wr wx)
        (first | exact HK.out _ (Below.refl _ _).drew | (go_split_ands; exact HK.out _ (keepB (by assumption) hb7)))
        (first | (go_at_call 26; refine (HCR.out _).mono ?_; rintro e w7 ⟨rfl, hb7⟩))
      rename_i hSl
      have HBZ := hid (HB.out.trans (hSl.2.mono HB.out.size))
      clear hSl hb7 HK HCR c0 c1 d0 d1
      generalize hbl : decide (Less p s) = bl at *
      cases bl with
      | true =>
        have HY := hid (HTN.out (of_decide_eq_true hbl))
        clear HTN HKP hbl
        go_wp2_with fail
        go_roundw
        case rel => exact ⟨k + 1, k, by omega, by omega, by go_num, rfl, HY.out, HBZ.out⟩
        case measure => simp [intOf]; omega
      | false =>
        have HY := hid (HKP.out (of_decide_eq_false hbl))
        clear HTN HKP hbl
        go_wp2_with fail
        go_roundw
        case rel => exact ⟨k + 1, m, by omega, by omega, by go_num, rfl, HY.out, HBZ.out⟩
        case measure => simp [intOf]; omega
    · obtain rfl : l.length = k := by omega
      obtain ⟨b, off, s, hA, hB, hd, c0, c1⟩ := H.out.rd.at_ HB.out (show m < l.length by omega)
      subst hA
      have HMin : Hid (∀ q ∈ l, ¬ Less q s) := fun q hq => by
        obtain ⟨t, ht, rfl⟩ := List.getElem_of_mem hq
        exact HL.out.2 t _ s ht (List.getElem?_eq_getElem ht) hd
      have HD := hid hd
      have HRd := hid (H.out.rd.keep HB.out HB.out.size)
      have HDr := hid (HRd.out.drop hmk)
      have HTk := hid (HRd.out.take m)
      clear hd c0 c1
      have hdl : (l.drop m).length = l.length - m := by simp
      have htl : (l.take m).length = m := by simp; omega
      have hrl : (l.drop m ++ l.take m).length = l.length := by simp; omega
      generalize hR1 : l.drop m = R1 at *
      generalize hR2 : l.take m = R2 at *
      have HRL := hid hrl
      have HH1 := hid hR1
      have HH2 := hid hR2
      clear hR1 hR2 hrl
      have i3 : (0 : Int) ≤ (m : Int) := by omega
      have i4 : (m : Int) ≤ (l.length : Int) := by omega
      have i5 : (m : Int) ≤ (cap : Int) := by omega
      have i6 : (l.length : Int) ≤ (cap : Int) := by omega
      have hsz := HB.out.size
      have HLEN1 := hid hdl
      have HLEN2 := hid htl
      clear hdl htl
      go_wp2_with (at_builtin; refine wpList_append_rd (by rfl) (.tmp 22) (.tmp 25) 22 rfl w.heap.size 31 i0 _ 2 16 Try.underlying22 hi0 hz0 hz1 hz2 rfl (by decide) (.slice none 0 0) 0 [] rfl (World.ownsRow_nil _ _ _ _) (some ⟨b, off + m * 2, none⟩) (l.length - m) (cap - m) (pCells R1) rfl (by rw [pCells_len, HLEN1.out]) ?m2 ?m3 (pCells_one R1) ?m5 ?m6 ?m7 ?_)
      case m2 => exact fun e => (by cases e)
      case m3 => exact HDr.out.news
      case m5 => unfold maxLen; omega
      case m6 => omega
      case m7 => omega
      intro v1 w1 hown1 hgrow1
      have HB1 : Hid (Below w.heap.size w w1) := HB.out.grown hgrow1 hsz (fun g hg => by simp [Value.ownBlock] at hg)
      have HT1 : Hid (PRd w1 w1.heap.size (some ⟨b, off, none⟩) R2) := by
        have hb : Below wr.heap.size wr w1 := (Below.refl _ _).grown hgrow1 (Nat.le_refl _) (fun g hg => by simp [Value.ownBlock] at hg)
        exact HTk.out.keep hb hb.size
      have HO1 : Hid (w1.ownsRow w.heap.size 31 2 v1 R1.length (pCells R1)) := by
        show World.ownsRow _ _ _ _ _ _ _
        rw [HLEN1.out]
        simpa using hown1
      have hsz1 := HB1.out.size
      have hl1 := HLEN1.out
      have hl2 := HLEN2.out
      have HL1 := hid hl1
      clear hown1 hgrow1 hl1 hl2
      go_wp2_with (at_builtin; refine wpList_append_rd (by rfl) (.tmp 27) (.tmp 30) 22 rfl w.heap.size 31 i0 _ 2 16 Try.underlying22 hi0 hz0 hz1 hz2 rfl (by decide) v1 R1.length (pCells R1) rfl HO1.out (some ⟨b, off, none⟩) m cap (pCells R2) rfl (by rw [pCells_len, HLEN2.out]) ?p2 ?p3 (pCells_one R2) ?p5 ?p6 ?p7 ?_)
      case p2 => exact fun e => (by cases e)
      case p3 => exact HT1.out.news
      case p5 => have := HL1.out; unfold maxLen; omega
      case p6 => have := HL1.out; omega
      case p7 => omega
      intro v2 w2 hown2 hgrow2
      have HB2 : Hid (Below w.heap.size w w2) := own_grow_below HO1.out HB1.out (Nat.le_refl _) hsz1 hgrow2
      have HO2 : Hid (w2.ownsRow w.heap.size 31 2 v2 l.length (pCells (R1 ++ R2))) := by
        show World.ownsRow _ _ _ _ _ _ _
        rw [pCells_app]
        rw [HLEN1.out, show l.length - m + m = l.length by omega] at hown2
        exact hown2
      obtain ⟨A2, c2, rfl, _, _⟩ := own_slice HO2.out
      clear hown2 hgrow2
      go_wp2
      go_ret
      refine ⟨⟨A2, c2, m, s, HD.out, HMin.out, rfl, ?_⟩, HB2.out⟩
      rw [HH1.out, HH2.out]
      exact PSl.of_own (n := l.length) (by rw [HRL.out]; exact HO2.out)
end Go.Proofs.Ytopmolpnmpchoaa
