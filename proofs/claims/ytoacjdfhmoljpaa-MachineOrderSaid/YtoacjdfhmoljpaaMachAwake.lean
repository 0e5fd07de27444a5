/- The walk of the laws' own examples: they hold. -/
import Derived.Test.YtoacjdfhmoljpaaMach3
namespace Go.Proofs.Ytoacjdfhmoljpaa
open Go.RowKit

def exL : List Dn := [⟨0, 15, 30⟩, ⟨1, 5, 6⟩, ⟨0, 10, 20⟩]
theorem finish_ex (A : Option Addr) (cap : Nat) (m s n t x : Int) (w : World) (h : DRd w w.heap.size A exL) (ht : finT exL m s n = t) (hx : finErr exL s n = x) :
    Calls Try.prog 18 #[.slice A 3 cap, .int .i64 m, .int .i64 s, .int .i64 n] w fun e w' => e = .returned (.tuple #[.int .i64 t, .int .i64 x]) ∧ Below w.heap.size w w' := by
  have := finish_any A cap exL m s n w h (by decide)
  rw [ht, hx] at this; exact this
theorem up_ex (A : Option Addr) (cap : Nat) (m s : Int) (r : Bool) (w : World) (h : DRd w w.heap.size A exL) (hr : isUp exL m s = r) :
    Calls Try.prog 14 #[.slice A 3 cap, .int .i64 m, .int .i64 s] w fun e w' => e = .returned (.bool r) ∧ Below w.heap.size w w' := by
  have := up_any A cap exL m s w h (by decide)
  rw [hr] at this; exact this
theorem lost_ex (A : Option Addr) (cap : Nat) (m s n t : Int) (w : World) (h : DRd w w.heap.size A exL) (ht : lostT exL m s n = t) :
    Calls Try.prog 16 #[.slice A 3 cap, .int .i64 m, .int .i64 s, .int .i64 n] w fun e w' => e = .returned (.int .i64 t) ∧ Below w.heap.size w w' := by
  have := lost_any A cap exL m s n w h (by decide)
  rw [ht] at this; exact this
theorem check_ex (A : Option Addr) (cap : Nat) (w : World) (h : DRd w w.heap.size A exL) :
    Calls Try.prog 11 #[.slice A 3 cap] w fun e w' => e = .returned (.int .i64 0) ∧ Below w.heap.size w w' := by
  have := check_any A cap exL w h (by decide)
  rw [show chk exL = 0 from by decide] at this; exact this
theorem check_ex1 (A : Option Addr) (cap : Nat) (w : World) (h : DRd w w.heap.size A [⟨0, 3, 3⟩]) :
    Calls Try.prog 11 #[.slice A 1 cap] w fun e w' => e = .returned (.int .i64 3) ∧ Below w.heap.size w w' := by
  have := check_any A cap [⟨0, 3, 3⟩] w h (by decide)
  rw [show chk [⟨0, 3, 3⟩] = 3 from by decide] at this; exact this
theorem exL_new (w : World) (T : TypeId) : DRd (w.alloc (.cells #[.int .i64 0, .int .i64 15, .int .i64 30, .int .i64 1, .int .i64 5, .int .i64 6, .int .i64 0, .int .i64 10, .int .i64 20] T)) (w.heap.size + 1) (some ⟨w.heap.size, 0, none⟩) exL := by
  intro _
  refine ⟨w.heap.size, 0, rfl, by omega, fun i d hd => ?_⟩
  match i, hd with
  | 0, hd => cases hd; simp [go_sem]
  | 1, hd => cases hd; simp [go_sem]
  | 2, hd => cases hd; simp [go_sem]
theorem one_new (w : World) (T : TypeId) : DRd (w.alloc (.cells #[.int .i64 0, .int .i64 3, .int .i64 3] T)) (w.heap.size + 1) (some ⟨w.heap.size, 0, none⟩) [⟨0, 3, 3⟩] := by
  intro _
  refine ⟨w.heap.size, 0, rfl, by omega, fun i d hd => ?_⟩
  match i, hd with
  | 0, hd => cases hd; simp [go_sem]

set_option maxRecDepth 100000 in
set_option maxHeartbeats 2000000 in
theorem awake_any (w : World) : Calls Try.prog 13 #[] w fun e w' => e = .returned (.bool true) ∧ Below w.heap.size w w' := by
  have HR0 := Lib.hid (exL_new w 36)
  have HB0 : Hid (Below w.heap.size w (w.alloc (.cells #[.int .i64 0, .int .i64 15, .int .i64 30, .int .i64 1, .int .i64 5, .int .i64 6, .int .i64 0, .int .i64 10, .int .i64 20] 36))) := (Below.refl _ _).alloc (Nat.le_refl _) _
  go_enter Try.func13, Try.ntmps13
  go_wp2_with fail
  ((with_reducible refine (finish_ex (some ⟨w.heap.size, 0, none⟩) 3 0 8 5 33 0 _ (by simpa using HR0.out) (by decide) (by decide)).mono ?_); rintro e w1 ⟨rfl, hb1⟩)
  have hs1 := hb1.size
  have HR1 := Lib.hid ((HR0.out.below (hb1.mono (by simp))).more (show w.heap.size + 1 ≤ w1.heap.size from by simpa using hs1))
  have HB1 := Lib.hid (HB0.out.trans (hb1.mono (by simp)))
  clear hb1
  go_wp2_with fail
  ((with_reducible refine (finish_ex (some ⟨w.heap.size, 0, none⟩) 3 0 8 2 10 0 _ HR1.out (by decide) (by decide)).mono ?_); rintro e w2 ⟨rfl, hb2⟩)
  have hs2 := hb2.size
  have HR2 := Lib.hid ((HR1.out.below hb2).more hs2)
  have HB2 := Lib.hid (HB1.out.trans (hb2.mono HB1.out.size))
  clear hb2
  go_wp2_with fail
  ((with_reducible refine (finish_ex (some ⟨w.heap.size, 0, none⟩) 3 0 12 1 31 0 _ HR2.out (by decide) (by decide)).mono ?_); rintro e w3 ⟨rfl, hb3⟩)
  have hs3 := hb3.size
  have HR3 := Lib.hid ((HR2.out.below hb3).more hs3)
  have HB3 := Lib.hid (HB2.out.trans (hb3.mono HB2.out.size))
  clear hb3
  go_wp2_with fail
  ((with_reducible refine (finish_ex (some ⟨w.heap.size, 0, none⟩) 3 7 8 5 13 0 _ HR3.out (by decide) (by decide)).mono ?_); rintro e w4 ⟨rfl, hb4⟩)
  have hs4 := hb4.size
  have HR4 := Lib.hid ((HR3.out.below hb4).more hs4)
  have HB4 := Lib.hid (HB3.out.trans (hb4.mono HB3.out.size))
  clear hb4
  go_wp2_with fail
  ((with_reducible refine (finish_ex (some ⟨w.heap.size, 0, none⟩) 3 0 (-1) 5 0 3 _ HR4.out (by decide) (by decide)).mono ?_); rintro e w5 ⟨rfl, hb5⟩)
  have hs5 := hb5.size
  have HR5 := Lib.hid ((HR4.out.below hb5).more hs5)
  have HB5 := Lib.hid (HB4.out.trans (hb5.mono HB4.out.size))
  clear hb5
  go_wp2_with fail
  ((with_reducible refine (up_ex (some ⟨w.heap.size, 0, none⟩) 3 0 9 true _ HR5.out (by decide)).mono ?_); rintro e w6 ⟨rfl, hb6⟩)
  have hs6 := hb6.size
  have HR6 := Lib.hid ((HR5.out.below hb6).more hs6)
  have HB6 := Lib.hid (HB5.out.trans (hb6.mono HB5.out.size))
  clear hb6
  go_wp2_with fail
  ((with_reducible refine (up_ex (some ⟨w.heap.size, 0, none⟩) 3 0 10 false _ HR6.out (by decide)).mono ?_); rintro e w7 ⟨rfl, hb7⟩)
  have hs7 := hb7.size
  have HR7 := Lib.hid ((HR6.out.below hb7).more hs7)
  have HB7 := Lib.hid (HB6.out.trans (hb7.mono HB6.out.size))
  clear hb7
  go_wp2_with fail
  ((with_reducible refine (up_ex (some ⟨w.heap.size, 0, none⟩) 3 0 29 false _ HR7.out (by decide)).mono ?_); rintro e w8 ⟨rfl, hb8⟩)
  have hs8 := hb8.size
  have HR8 := Lib.hid ((HR7.out.below hb8).more hs8)
  have HB8 := Lib.hid (HB7.out.trans (hb8.mono HB7.out.size))
  clear hb8
  go_wp2_with fail
  ((with_reducible refine (up_ex (some ⟨w.heap.size, 0, none⟩) 3 0 30 true _ HR8.out (by decide)).mono ?_); rintro e w9 ⟨rfl, hb9⟩)
  have hs9 := hb9.size
  have HR9 := Lib.hid ((HR8.out.below hb9).more hs9)
  have HB9 := Lib.hid (HB8.out.trans (hb9.mono HB8.out.size))
  clear hb9
  go_wp2_with fail
  ((with_reducible refine (lost_ex (some ⟨w.heap.size, 0, none⟩) 3 0 0 12 2 _ HR9.out (by decide)).mono ?_); rintro e w10 ⟨rfl, hb10⟩)
  have hs10 := hb10.size
  have HR10 := Lib.hid ((HR9.out.below hb10).more hs10)
  have HB10 := Lib.hid (HB9.out.trans (hb10.mono HB9.out.size))
  clear hb10
  go_wp2_with fail
  ((with_reducible refine (lost_ex (some ⟨w.heap.size, 0, none⟩) 3 0 0 100 20 _ HR10.out (by decide)).mono ?_); rintro e w11 ⟨rfl, hb11⟩)
  have hs11 := hb11.size
  have HR11 := Lib.hid ((HR10.out.below hb11).more hs11)
  have HB11 := Lib.hid (HB10.out.trans (hb11.mono HB10.out.size))
  clear hb11
  go_wp2_with fail
  ((with_reducible refine (lost_ex (some ⟨w.heap.size, 0, none⟩) 3 0 25 22 0 _ HR11.out (by decide)).mono ?_); rintro e w12 ⟨rfl, hb12⟩)
  have hs12 := hb12.size
  have HR12 := Lib.hid ((HR11.out.below hb12).more hs12)
  have HB12 := Lib.hid (HB11.out.trans (hb12.mono HB11.out.size))
  clear hb12
  go_wp2_with fail
  ((with_reducible refine (check_ex (some ⟨w.heap.size, 0, none⟩) 3 _ HR12.out).mono ?_); rintro e w13 ⟨rfl, hb13⟩)
  have hs13 := hb13.size
  have HR13 := Lib.hid ((HR12.out.below hb13).more hs13)
  have HB13 := Lib.hid (HB12.out.trans (hb13.mono HB12.out.size))
  clear hb13
  go_wp2_with fail
  ((with_reducible refine (check_ex1 (some ⟨w13.heap.size, 0, none⟩) 1 _ (by simpa using one_new w13 36)).mono ?_); rintro e w14 ⟨rfl, hb14⟩)
  go_wp2
  go_ret
  exact ⟨rfl, HB13.out.trans (((Below.refl _ _).alloc (Nat.le_refl _) _).mono HB13.out.size |>.trans (hb14.mono (by have := HB13.out.size; simp; omega)))⟩
end Go.Proofs.Ytoacjdfhmoljpaa
