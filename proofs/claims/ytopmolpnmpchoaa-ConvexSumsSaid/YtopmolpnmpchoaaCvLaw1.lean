/- Walks of the laws ConvexHulls and ConvexSums: they return true. -/
import Derived.Test.YtopmolpnmpchoaaCvOpen
namespace Go.Proofs.Ytopmolpnmpchoaa
open Go.RowKit

set_option maxRecDepth 100000 in
set_option maxHeartbeats 1000000 in
theorem convexHulls_walk (A : Option Addr) (cap : Nat) (l : List Pt) (w : World) (h : PSl w A cap l) (hm : l.length ≤ 9223372036854775807) :
    Calls Try.prog 3 #[.slice A l.length cap] w fun e w' => e = .returned (.bool true) ∧ Below w.heap.size w w' := by
  have H := hid h
  clear h
  by_cases hl : 170 < l.length
  · go_enter Try.func3, Try.ntmps3
    go_wp2_with fail
    ((with_reducible refine (awake_any _).mono ?_); rintro e w1 ⟨rfl, hb1⟩)
    go_wp2
    go_ret
    exact ⟨rfl, hb1⟩
  · go_enter Try.func3, Try.ntmps3
    go_wp2_with fail
    ((with_reducible refine (Hull_any A cap l _ H.out hm).mono ?_); rintro e w1 ⟨⟨A1, c1, rfl, hs1⟩, hb1⟩)
    have HB1 := hid hb1
    have HS1 := hid hs1
    have H1 := hid (H.out.keep hb1)
    clear hs1 hb1
    go_wp2_with fail
    ((with_reducible refine (refHull_any A cap l _ H1.out hm).mono ?_); rintro e w2 ⟨⟨A2, c2, rfl, hs2⟩, hb2⟩)
    have HB2 := hid (HB1.out.trans (hb2.mono HB1.out.size))
    have HS2 := hid hs2
    have HS1' := hid (HS1.out.keep hb2)
    have hvl := (hullV_len (l := l)).2
    clear hs2 hb2
    generalize hullV l = v at *
    generalize hullE l = er at *
    go_wp2_with fail
    ((with_reducible refine (same_any A1 A2 c1 c2 v v _ HS1'.out.rd HS2.out.rd (by omega)).mono ?_); rintro e w3 ⟨rfl, hb3⟩)
    have HB3 := hid (HB2.out.trans (hb3.mono HB2.out.size))
    have hdec : decide (v = v) = true := decide_eq_true rfl
    clear hb3
    go_wp2_with fail
    ((with_reducible refine (awake_any _).mono ?_); rintro e w4 ⟨rfl, hb4⟩)
    go_wp2
    go_ret
    exact ⟨rfl, HB3.out.trans (hb4.mono HB3.out.size)⟩

set_option maxRecDepth 100000 in
set_option maxHeartbeats 1000000 in
theorem convexSums_walk (A B : Option Addr) (ca cb : Nat) (a b : List Pt) (w : World) (h : PSl w A ca a) (h' : PSl w B cb b) (hm : a.length ≤ 9223372036854775807) (hm' : b.length ≤ 9223372036854775807) :
    Calls Try.prog 4 #[.slice A a.length ca, .slice B b.length cb] w fun e w' => e = .returned (.bool true) ∧ Below w.heap.size w w' := by
  have H := hid h
  have H' := hid h'
  clear h h'
  go_enter Try.func4, Try.ntmps4
  go_wp2_with fail
  ((with_reducible refine (few_any A B ca cb a.length b.length _ hm hm').mono ?_); rintro e w0 ⟨rfl, rfl⟩)
  generalize decide (a.length ≤ 20 ∧ b.length ≤ 20) = fw
  cases fw with
  | false =>
    go_wp2_with fail
    ((with_reducible refine (awake_any _).mono ?_); rintro e w1 ⟨rfl, hb1⟩)
    go_wp2
    go_ret
    exact ⟨rfl, hb1⟩
  | true =>
    go_wp2_with fail
    ((with_reducible refine (Sum_any A B ca cb a b _ H.out H'.out hm hm').mono ?_); rintro e w1 ⟨⟨A1, c1, rfl, hs1⟩, hb1⟩)
    have HB1 := hid hb1
    have HS1 := hid hs1
    have H1 := hid (H.out.keep hb1)
    have H1' := hid (H'.out.keep hb1)
    clear hs1 hb1
    go_wp2_with fail
    ((with_reducible refine (refSum_any A B ca cb a b _ H1.out H1'.out hm hm').mono ?_); rintro e w2 ⟨⟨A2, c2, rfl, hs2⟩, hb2⟩)
    have HB2 := hid (HB1.out.trans (hb2.mono HB1.out.size))
    have HS2 := hid hs2
    have HS1' := hid (HS1.out.keep hb2)
    have hvl : (sumV a b).length ≤ 160 := by
      by_cases e : sumE a b = 0
      · rw [(sumE_ok e).2.2.2.2.1]; exact (sumE_ok e).2.2.2.1
      · rw [sumV_no e]; simp
    clear hs2 hb2
    generalize sumV a b = v at *
    generalize sumE a b = er at *
    go_wp2_with fail
    ((with_reducible refine (same_any A1 A2 c1 c2 v v _ HS1'.out.rd HS2.out.rd (by omega)).mono ?_); rintro e w3 ⟨rfl, hb3⟩)
    have HB3 := hid (HB2.out.trans (hb3.mono HB2.out.size))
    have hdec : decide (v = v) = true := decide_eq_true rfl
    clear hb3
    go_wp2_with fail
    ((with_reducible refine (awake_any _).mono ?_); rintro e w4 ⟨rfl, hb4⟩)
    go_wp2
    go_ret
    exact ⟨rfl, HB3.out.trans (hb4.mono HB3.out.size)⟩
end Go.Proofs.Ytopmolpnmpchoaa
