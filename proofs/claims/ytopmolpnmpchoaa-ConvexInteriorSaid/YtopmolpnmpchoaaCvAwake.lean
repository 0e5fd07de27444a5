/- The walk of the laws' own examples: they hold. -/
import Derived.Test.YtopmolpnmpchoaaCvRef
import Derived.Test.YtopmolpnmpchoaaCvSup
namespace Go.Proofs.Ytopmolpnmpchoaa
open Go.RowKit

/-! ## The examples, plain -/
theorem isHull_dec {l h : List Pt} (h3 : 3 ≤ h.length) (hc : ∀ i, i < h.length → rd h i ∈ l ∧ (∀ q ∈ l, 0 ≤ crs (rd h i) (rd h (i + 1)) q) ∧ 0 < crs (rd h i) (rd h (i + 1)) (rd h (i + 2)) ∧ (0 < i → lv M0 (rd h 0) < lv M0 (rd h i)))
    (hlow : ∀ q ∈ l, lv M0 (rd h 0) ≤ lv M0 q) : IsHull M0 l h := by
  have hm : ∀ i, i % h.length < h.length := fun i => Nat.mod_lt _ (by omega)
  have e0 : ∀ i, rd h i = rd h (i % h.length) := fun i => by have := rd_mod h i 0; rw [Nat.add_zero, Nat.add_zero] at this; exact this
  refine ⟨h3, fun i => ?_, fun i q hq => ?_, fun i => ?_, hlow, fun i h0 hi => (hc i hi).2.2.2 h0⟩
  · rw [e0]; exact (hc _ (hm i)).1
  · rw [e0 i, rd_mod h i 1]; exact (hc _ (hm i)).2.1 q hq
  · rw [e0 i, rd_mod h i 1, rd_mod h i 2]; exact (hc _ (hm i)).2.2.1
theorem hull_dec {l h : List Pt} (h1 : l.length ≤ 160) (h2 : allIn l = true) (H : IsHull M0 l h) : hullE l = 0 ∧ hullV l = h := by
  have e := hull1_of (bd_of h2) H
  have hz : hullE l = 0 := hullE_of h1 h2 (by rw [e]; intro e'; have := H.len; rw [e'] at this; simp at this)
  exact ⟨hz, by rw [(hullE_ok hz).2.2.1, e]⟩
theorem sum_dec {a b h k s : List Pt} (ha : hullE a = 0 ∧ hullV a = h) (hb : hullE b = 0 ∧ hullV b = k) (h2 : allIn h = true) (h3 : allIn k = true) (H : IsHull M0 (sumsP h k) s) (h4 : allIn s = true) (h5 : s.length ≤ 160) : sumE a b = 0 ∧ sumV a b = s := by
  have e : sm a b = s := by unfold sm; rw [ha.2, hb.2]; exact hull1_of (sums_bd h2 h3) H
  have hz := sumE_of ha.1 hb.1 (by rw [e]; exact h4) (by rw [e]; exact h5)
  exact ⟨hz, by rw [(sumE_ok hz).2.2.2.2.1, e]⟩
def xT : List Pt := [⟨0, 0⟩, ⟨2, 0⟩, ⟨0, 2⟩]
def xL : List Pt := [⟨2, 2⟩, ⟨0, 0⟩, ⟨4, 0⟩, ⟨2, 1⟩, ⟨2, 0⟩, ⟨0, 0⟩]
def xH : List Pt := [⟨0, 0⟩, ⟨4, 0⟩, ⟨2, 2⟩]
def xC : List Pt := [⟨0, 0⟩, ⟨1, 1⟩, ⟨5, 5⟩]
def xQ : List Pt := [⟨0, 0⟩, ⟨1, 0⟩, ⟨1, 1⟩, ⟨0, 1⟩]
def xS : List Pt := [⟨0, 0⟩, ⟨3, 0⟩, ⟨3, 1⟩, ⟨1, 3⟩, ⟨0, 3⟩]
def xN : List Pt := [⟨0, 0⟩, ⟨-2, 0⟩, ⟨0, -2⟩]
def xM : List Pt := [⟨-2, 0⟩, ⟨0, -2⟩, ⟨0, 0⟩]
def xD : List Pt := [⟨-2, 0⟩, ⟨0, -2⟩, ⟨2, -2⟩, ⟨2, 0⟩, ⟨0, 2⟩, ⟨-2, 2⟩]
theorem xL_ok : hullE xL = 0 ∧ hullV xL = xH := hull_dec (by decide) (by decide) (isHull_dec (by decide) (by decide) (by decide))
theorem xT_ok : hullE xT = 0 ∧ hullV xT = xT := hull_dec (by decide) (by decide) (isHull_dec (by decide) (by decide) (by decide))
theorem xQ_ok : hullE xQ = 0 ∧ hullV xQ = xQ := hull_dec (by decide) (by decide) (isHull_dec (by decide) (by decide) (by decide))
theorem xN_ok : hullE xN = 0 ∧ hullV xN = xM := hull_dec (by decide) (by decide) (isHull_dec (by decide) (by decide) (by decide))
theorem xH_ok : hullE xH = 0 ∧ hullV xH = xH := hull_dec (by decide) (by decide) (isHull_dec (by decide) (by decide) (by decide))
theorem xC_ok : hullE xC = 11 ∧ hullV xC = [] := by
  have e : hullE xC = 11 := hullE_shape (by decide) (by decide) (by rw [hull1_flat (by unfold Col; decide)]; rfl)
  exact ⟨e, hullV_no (by rw [e]; decide)⟩
theorem xS_ok : sumE xT xQ = 0 ∧ sumV xT xQ = xS := sum_dec xT_ok xQ_ok (by decide) (by decide) (isHull_dec (by decide) (by decide) (by decide)) (by decide) (by decide)
theorem xD_ok : sumE xT xN = 0 ∧ sumV xT xN = xD := sum_dec xT_ok xN_ok (by decide) (by decide) (isHull_dec (by decide) (by decide) (by decide)) (by decide) (by decide)
theorem xI_ok : insV xH ⟨2, 1⟩ = true := by rw [insV_is xH_ok.1, xH_ok.2]; decide
theorem xO_ok : insV xH ⟨1, 1⟩ = false := by rw [insV_is xH_ok.1, xH_ok.2]; decide
theorem xNeg : xT.map negW = xN := by
  unfold xT xN
  simp only [List.map_cons, List.map_nil]
  rw [negW_in (by decide), negW_in (by decide), negW_in (by decide)]
  rfl

/-! ## The walk -/
theorem lit_pts (w : World) (l : List Pt) (n : Nat) (hn : l.length = n) (cs : Array Value) (hcs : cs.toList = pCells l) (hsm : n ≤ 100) : PSl (w.alloc (.cells cs 31)) (some ⟨w.heap.size, 0, none⟩) n l := by
  subst hn
  refine PSl.of_own (n := l.length) (base := w.heap.size) (e := 31) ?_
  rw [← hcs]
  exact World.ownsRow_lit w cs l.length (Nat.le_refl _) (by unfold maxLen; omega) (by rw [← Array.length_toList, hcs, pCells_len])
theorem hull_ex (A : Option Addr) (cap n m : Nat) (l h : List Pt) (x : Int) (w : World) (hp : PSl w A cap l) (hn : l.length = n) (hm : h.length = m) (he : hullE l = x ∧ hullV l = h) (hs : n ≤ 100) :
    Calls Try.prog 12 #[.slice A n cap] w fun e w' => (∃ A' c', e = .returned (.tuple #[.slice A' m c', .int .i64 x]) ∧ PSl w' A' c' h) ∧ Below w.heap.size w w' := by
  subst hn hm
  have := Hull_any A cap l w hp (by omega)
  unfold HullPost at this
  rw [he.1, he.2] at this
  exact this
theorem sum_ex (A B : Option Addr) (ca cb n k m : Nat) (a b s : List Pt) (w : World) (hp : PSl w A ca a) (hq : PSl w B cb b) (hn : a.length = n) (hk : b.length = k) (hm : s.length = m) (he : sumE a b = 0 ∧ sumV a b = s) (hs : n ≤ 100) (hs2 : k ≤ 100) :
    Calls Try.prog 16 #[.slice A n ca, .slice B k cb] w fun e w' => (∃ A' c', e = .returned (.tuple #[.slice A' m c', .int .i64 0]) ∧ PSl w' A' c' s) ∧ Below w.heap.size w w' := by
  subst hn hm hk
  have := Sum_any A B ca cb a b w hp hq (by omega) (by omega)
  unfold SumPost at this
  rw [he.1, he.2] at this
  exact this
theorem same_ex (A B : Option Addr) (ca cb n : Nat) (a : List Pt) (w : World) (hp : PSl w A ca a) (hq : PSl w B cb a) (hn : a.length = n) (hs : n ≤ 100) :
    Calls Try.prog 14 #[.slice A n ca, .slice B n cb] w fun e w' => e = .returned (.bool true) ∧ Below w.heap.size w w' := by
  subst hn
  have := same_any A B ca cb a a w hp.rd hq.rd (by omega)
  rw [decide_eq_true rfl] at this
  exact this
theorem sup_ex (A : Option Addr) (ca n : Nat) (a : List Pt) (d : Pt) (x : Int) (w : World) (hp : PSl w A ca a) (hn : a.length = n) (hs : n ≤ 100) (hx : supF (dotL d) a = x) :
    Calls Try.prog 22 #[.slice A n ca, .agg #[.int .i64 d.x, .int .i64 d.y]] w fun e w' => e = .returned (.int .i64 x) ∧ Below w.heap.size w w' := by
  subst hn
  have := support_any A ca a d w hp.rd (by omega)
  rw [hx] at this
  exact this
theorem in_ex (A : Option Addr) (ca n : Nat) (a : List Pt) (q : Pt) (r : Bool) (w : World) (hp : PSl w A ca a) (hn : a.length = n) (hs : n ≤ 100) (he : hullE a = 0) (hx : insV a q = r) :
    Calls Try.prog 18 #[.slice A n ca, .agg #[.int .i64 q.x, .int .i64 q.y]] w fun e w' => e = .returned (.tuple #[.bool r, .int .i64 0]) ∧ Below w.heap.size w w' := by
  subst hn
  have := inside_any A ca a q w hp (by omega)
  rw [hx, he] at this
  exact this
theorem neg_ex (A : Option Addr) (cap : Nat) (w : World) (hp : PSl w A cap xT) :
    Calls Try.prog 20 #[.slice A 3 cap] w fun e w' => (∃ A' c', e = .returned (.slice A' 3 c') ∧ PSl w' A' c' xN) ∧ Below w.heap.size w w' := by
  have := negate_any A cap xT w hp.rd (by decide)
  rw [xNeg] at this
  exact this

set_option maxRecDepth 100000 in
set_option maxHeartbeats 4000000 in
theorem awake_any (w : World) : Calls Try.prog 11 #[] w fun e w' => e = .returned (.bool true) ∧ Below w.heap.size w w' := by
  obtain ⟨w0, hw0⟩ : ∃ w0, w0 = w.alloc (.cells #[.int .i64 0, .int .i64 0, .int .i64 2, .int .i64 0, .int .i64 0, .int .i64 2] 31) := ⟨_, rfl⟩
  have HT0 : Hid (PSl w0 (some ⟨w.heap.size, 0, none⟩) 3 xT) := by rw [hw0]; exact lit_pts w xT 3 rfl _ rfl (by decide)
  have HB0 : Hid (Below w.heap.size w w0) := by rw [hw0]; exact below1 _ _
  have HW0 := hid hw0
  clear hw0
  go_enter Try.func11, Try.ntmps11
  go_wp2_with fail
  rw [← HW0.out]
  have hs0 : w0.heap.size = w.heap.size + 1 := by rw [HW0.out]; simp
  have HP := hid (show PSl (w0.alloc (.cells #[.int .i64 2, .int .i64 2, .int .i64 0, .int .i64 0, .int .i64 4, .int .i64 0, .int .i64 2, .int .i64 1, .int .i64 2, .int .i64 0, .int .i64 0, .int .i64 0] 31)) (some ⟨w.heap.size + 1, 0, none⟩) 6 xL by rw [← hs0]; exact lit_pts w0 xL 6 rfl _ rfl (by decide))
  ((with_reducible refine (hull_ex _ 6 6 3 xL xH 0 _ HP.out rfl rfl xL_ok (by decide)).mono ?_); rintro e w1 ⟨⟨A1, c1, rfl, hp1⟩, hb1⟩)
  have HA1 := hid (keepB (below1 w0 _) hb1)
  have HB1 := hid (HB0.out.trans (HA1.out.mono HB0.out.size))
  have HT1 := hid (HT0.out.keep HA1.out)
  have HH1 := hid hp1
  clear hb1 hp1 HP HA1
  go_wp2_with fail
  ((with_reducible refine (hull_ex _ 3 3 0 xC [] 11 _ (lit_pts w1 xC 3 rfl #[.int .i64 0, .int .i64 0, .int .i64 1, .int .i64 1, .int .i64 5, .int .i64 5] rfl (by decide)) rfl rfl xC_ok (by decide)).mono ?_); rintro e w2 ⟨⟨A2, c2, rfl, _⟩, hb2⟩)
  have HA2 := hid (keepB (below1 w1 _) hb2)
  have HB2 := hid (HB1.out.trans (HA2.out.mono HB1.out.size))
  have HT2 := hid (HT1.out.keep HA2.out)
  have HH2 := hid (HH1.out.keep HA2.out)
  clear hb2 HA2
  have HTa := hid (HT2.out.keep (below1 w2 (.cells #[.int .i64 0, .int .i64 0, .int .i64 1, .int .i64 0, .int .i64 1, .int .i64 1, .int .i64 0, .int .i64 1] 31)))
  go_wp2_with fail
  ((with_reducible refine (sum_ex _ _ 3 4 3 4 5 xT xQ xS _ HTa.out (lit_pts w2 xQ 4 rfl #[.int .i64 0, .int .i64 0, .int .i64 1, .int .i64 0, .int .i64 1, .int .i64 1, .int .i64 0, .int .i64 1] rfl (by decide)) rfl rfl rfl xS_ok (by decide) (by decide)).mono ?_); rintro e w3 ⟨⟨A3, c3, rfl, hp3⟩, hb3⟩)
  have HA3 := hid (keepB (below1 w2 _) hb3)
  have HB3 := hid (HB2.out.trans (HA3.out.mono HB2.out.size))
  have HT3 := hid (HT2.out.keep HA3.out)
  have HH3 := hid (HH2.out.keep HA3.out)
  have HS3 := hid hp3
  clear hb3 hp3 HA3 HTa
  go_wp2_with fail
  ((with_reducible refine (neg_ex _ 3 _ HT3.out).mono ?_); rintro e w4 ⟨⟨A4, c4, rfl, hp4⟩, hb4⟩)
  have HB4 := hid (HB3.out.trans (hb4.mono HB3.out.size))
  have HT4 := hid (HT3.out.keep hb4)
  have HH4 := hid (HH3.out.keep hb4)
  have HS4 := hid (HS3.out.keep hb4)
  have HN4 := hid hp4
  clear hb4 hp4
  go_wp2_with fail
  ((with_reducible refine (sum_ex _ _ 3 c4 3 3 6 xT xN xD _ HT4.out HN4.out rfl rfl rfl xD_ok (by decide) (by decide)).mono ?_); rintro e w5 ⟨⟨A5, c5, rfl, hp5⟩, hb5⟩)
  have HB5 := hid (HB4.out.trans (hb5.mono HB4.out.size))
  have HT5 := hid (HT4.out.keep hb5)
  have HH5 := hid (HH4.out.keep hb5)
  have HS5 := hid (HS4.out.keep hb5)
  have HD5 := hid hp5
  clear hb5 hp5
  go_wp2_with fail
  ((with_reducible refine (in_ex _ c1 3 xH ⟨2, 1⟩ true _ HH5.out rfl (by decide) xH_ok.1 xI_ok).mono ?_); rintro e w6 ⟨rfl, hb6⟩)
  have HB6 := hid (HB5.out.trans (hb6.mono HB5.out.size))
  have HT6 := hid (HT5.out.keep hb6)
  have HH6 := hid (HH5.out.keep hb6)
  have HS6 := hid (HS5.out.keep hb6)
  have HD6 := hid (HD5.out.keep hb6)
  clear hb6
  go_wp2_with fail
  ((with_reducible refine (in_ex _ c1 3 xH ⟨1, 1⟩ false _ HH6.out rfl (by decide) xH_ok.1 xO_ok).mono ?_); rintro e w7 ⟨rfl, hb7⟩)
  have HB7 := hid (HB6.out.trans (hb7.mono HB6.out.size))
  have HT7 := hid (HT6.out.keep hb7)
  have HH7 := hid (HH6.out.keep hb7)
  have HS7 := hid (HS6.out.keep hb7)
  have HD7 := hid (HD6.out.keep hb7)
  clear hb7
  have HXa := hid (HH7.out.keep (below1 w7 (.cells #[.int .i64 0, .int .i64 0, .int .i64 4, .int .i64 0, .int .i64 2, .int .i64 2] 31)))
  go_wp2_with fail
  ((with_reducible refine (same_ex _ _ c1 3 3 xH _ HXa.out (lit_pts w7 xH 3 rfl #[.int .i64 0, .int .i64 0, .int .i64 4, .int .i64 0, .int .i64 2, .int .i64 2] rfl (by decide)) rfl (by decide)).mono ?_); rintro e w8 ⟨rfl, hb8⟩)
  have HA8 := hid (keepB (below1 w7 _) hb8)
  have HB8 := hid (HB7.out.trans (HA8.out.mono HB7.out.size))
  have HT8 := hid (HT7.out.keep HA8.out)
  have HH8 := hid (HH7.out.keep HA8.out)
  have HS8 := hid (HS7.out.keep HA8.out)
  have HD8 := hid (HD7.out.keep HA8.out)
  clear hb8 HA8 HXa
  have HXa := hid (HS8.out.keep (below1 w8 (.cells #[.int .i64 0, .int .i64 0, .int .i64 3, .int .i64 0, .int .i64 3, .int .i64 1, .int .i64 1, .int .i64 3, .int .i64 0, .int .i64 3] 31)))
  go_wp2_with fail
  ((with_reducible refine (same_ex _ _ c3 5 5 xS _ HXa.out (lit_pts w8 xS 5 rfl #[.int .i64 0, .int .i64 0, .int .i64 3, .int .i64 0, .int .i64 3, .int .i64 1, .int .i64 1, .int .i64 3, .int .i64 0, .int .i64 3] rfl (by decide)) rfl (by decide)).mono ?_); rintro e w9 ⟨rfl, hb9⟩)
  have HA9 := hid (keepB (below1 w8 _) hb9)
  have HB9 := hid (HB8.out.trans (HA9.out.mono HB8.out.size))
  have HT9 := hid (HT8.out.keep HA9.out)
  have HH9 := hid (HH8.out.keep HA9.out)
  have HS9 := hid (HS8.out.keep HA9.out)
  have HD9 := hid (HD8.out.keep HA9.out)
  clear hb9 HA9 HXa
  have HXa := hid (HD9.out.keep (below1 w9 (.cells #[.int .i64 (-2), .int .i64 0, .int .i64 0, .int .i64 (-2), .int .i64 2, .int .i64 (-2), .int .i64 2, .int .i64 0, .int .i64 0, .int .i64 2, .int .i64 (-2), .int .i64 2] 31)))
  go_wp2_with fail
  ((with_reducible refine (same_ex _ _ c5 6 6 xD _ HXa.out (lit_pts w9 xD 6 rfl #[.int .i64 (-2), .int .i64 0, .int .i64 0, .int .i64 (-2), .int .i64 2, .int .i64 (-2), .int .i64 2, .int .i64 0, .int .i64 0, .int .i64 2, .int .i64 (-2), .int .i64 2] rfl (by decide)) rfl (by decide)).mono ?_); rintro e w10 ⟨rfl, hb10⟩)
  have HA10 := hid (keepB (below1 w9 _) hb10)
  have HB10 := hid (HB9.out.trans (HA10.out.mono HB9.out.size))
  have HT10 := hid (HT9.out.keep HA10.out)
  have HH10 := hid (HH9.out.keep HA10.out)
  have HS10 := hid (HS9.out.keep HA10.out)
  have HD10 := hid (HD9.out.keep HA10.out)
  clear hb10 HA10 HXa
  go_wp2_with fail
  ((with_reducible refine (sup_ex _ 3 3 xT ⟨1, 1⟩ 2 _ HT10.out rfl (by decide) (by decide)).mono ?_); rintro e w11 ⟨rfl, hb11⟩)
  have HB11 := hid (HB10.out.trans (hb11.mono HB10.out.size))
  have HT11 := hid (HT10.out.keep hb11)
  clear hb11
  go_wp2_with fail
  ((with_reducible refine (sup_ex _ 3 3 xT ⟨-1, -3⟩ 0 _ HT11.out rfl (by decide) (by decide)).mono ?_); rintro e w12 ⟨rfl, hb12⟩)
  have HB12 := hid (HB11.out.trans (hb12.mono HB11.out.size))
  have HT12 := hid (HT11.out.keep hb12)
  clear hb12
  go_wp2_with fail
  ((with_reducible refine (sup_ex _ 3 3 xT ⟨5000, 0⟩ 2000 _ HT12.out rfl (by decide) (by decide)).mono ?_); rintro e w13 ⟨rfl, hb13⟩)
  have HB13 := hid (HB12.out.trans (hb13.mono HB12.out.size))
  have HT13 := hid (HT12.out.keep hb13)
  clear hb13
  go_wp2
  go_ret
  exact ⟨rfl, HB13.out⟩
end Go.Proofs.Ytopmolpnmpchoaa
