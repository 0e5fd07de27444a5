/- Walks of the laws MachineChecks, MachineTimes, MachineFinishes: they return true. -/
import Derived.Test.YtoacjdfhmoljpaaMachAwake
namespace Go.Proofs.Ytoacjdfhmoljpaa
open Go.RowKit

set_option maxHeartbeats 1000000 in
theorem machineChecks_walk (A : Option Addr) (cap : Nat) (l : List Dn) (w : World) (h : DRd w w.heap.size A l) (hm : l.length ≤ 9223372036854775807) :
    Calls Try.prog 3 #[.slice A l.length cap] w fun e w' => e = .returned (.bool true) ∧ Below w.heap.size w w' := by
  have H := Lib.hid h
  clear h
  by_cases hl : 30 < l.length
  · have hlb : decide (30 < l.length) = true := by simpa using hl
    go_enter Try.func3, Try.ntmps3
    go_wp2_with fail
    ((with_reducible refine (awake_any _).mono ?_); rintro e w1 ⟨rfl, hb1⟩)
    go_wp2
    go_ret
    exact ⟨rfl, hb1⟩
  · have hlb : decide (30 < l.length) = false := by simpa using hl
    go_enter Try.func3, Try.ntmps3
    go_wp2_with fail
    ((with_reducible refine (check_any A cap l _ H.out (by omega)).mono ?_); rintro e w1 ⟨rfl, hb1⟩)
    have HR1 := Lib.hid ((H.out.below hb1).more hb1.size)
    go_wp2_with fail
    ((with_reducible refine (refCheck_any A cap l _ HR1.out (by omega)).mono ?_); rintro e w2 ⟨rfl, hb2⟩)
    go_wp2_with fail
    ((with_reducible refine (awake_any _).mono ?_); rintro e w3 ⟨rfl, hb3⟩)
    have HB2 := Lib.hid (hb1.trans (hb2.mono hb1.size))
    have HB3 := Lib.hid (HB2.out.trans (hb3.mono HB2.out.size))
    clear hb1 hb2 hb3
    go_wp2
    go_ret
    exact ⟨rfl, HB3.out⟩

set_option maxHeartbeats 1000000 in
theorem machineTimes_walk (A : Option Addr) (cap : Nat) (l : List Dn) (m a b : Int) (w : World) (h : DRd w w.heap.size A l) (hm : l.length ≤ 9223372036854775807) :
    Calls Try.prog 4 #[.slice A l.length cap, .int .i64 m, .int .i64 a, .int .i64 b] w fun e w' => e = .returned (.bool true) ∧ Below w.heap.size w w' := by
  have H := Lib.hid h
  clear h
  by_cases hl : 30 < l.length
  · have hlb : decide (30 < l.length) = true := by simpa using hl
    go_enter Try.func4, Try.ntmps4
    go_wp2_with fail
    ((with_reducible refine (awake_any _).mono ?_); rintro e w1 ⟨rfl, hb1⟩)
    go_wp2
    go_ret
    exact ⟨rfl, hb1⟩
  · have hlb : decide (30 < l.length) = false := by simpa using hl
    go_enter Try.func4, Try.ntmps4
    go_wp2_with fail
    ((with_reducible refine (up_any A cap l m a _ H.out (by omega)).mono ?_); rintro e w1 ⟨rfl, hb1⟩)
    have HR1 := Lib.hid ((H.out.below hb1).more hb1.size)
    go_wp2_with fail
    ((with_reducible refine (refUp_any A cap l m a _ HR1.out (by omega)).mono ?_); rintro e w2 ⟨rfl, hb2⟩)
    have HR2 := Lib.hid ((HR1.out.below hb2).more hb2.size)
    go_wp2_with fail
    ((with_reducible refine (lost_any A cap l m a b _ HR2.out (by omega)).mono ?_); rintro e w3 ⟨rfl, hb3⟩)
    have HR3 := Lib.hid ((HR2.out.below hb3).more hb3.size)
    go_wp2_with fail
    ((with_reducible refine (refLost_any A cap l m a b _ HR3.out (by omega)).mono ?_); rintro e w4 ⟨rfl, hb4⟩)
    go_wp2_with fail
    ((with_reducible refine (awake_any _).mono ?_); rintro e w5 ⟨rfl, hb5⟩)
    have HB2 := Lib.hid (hb1.trans (hb2.mono hb1.size))
    have HB3 := Lib.hid (HB2.out.trans (hb3.mono HB2.out.size))
    have HB4 := Lib.hid (HB3.out.trans (hb4.mono HB3.out.size))
    have HB5 := Lib.hid (HB4.out.trans (hb5.mono HB4.out.size))
    clear hb1 hb2 hb3 hb4 hb5
    go_wp2
    go_ret
    exact ⟨rfl, HB5.out⟩

set_option maxHeartbeats 1000000 in
theorem machineFinishes_walk (A : Option Addr) (cap : Nat) (l : List Dn) (m a b : Int) (w : World) (h : DRd w w.heap.size A l) (hm : l.length ≤ 9223372036854775807) :
    Calls Try.prog 5 #[.slice A l.length cap, .int .i64 m, .int .i64 a, .int .i64 b] w fun e w' => e = .returned (.bool true) ∧ Below w.heap.size w w' := by
  have H := Lib.hid h
  clear h
  by_cases hl : 30 < l.length
  · have hlb : decide (30 < l.length) = true := by simpa using hl
    go_enter Try.func5, Try.ntmps5
    go_wp2_with fail
    ((with_reducible refine (awake_any _).mono ?_); rintro e w1 ⟨rfl, hb1⟩)
    go_wp2
    go_ret
    exact ⟨rfl, hb1⟩
  · have hlb : decide (30 < l.length) = false := by simpa using hl
    go_enter Try.func5, Try.ntmps5
    go_wp2_with fail
    ((with_reducible refine (finish_any A cap l m a b _ H.out (by omega)).mono ?_); rintro e w1 ⟨rfl, hb1⟩)
    have HR1 := Lib.hid ((H.out.below hb1).more hb1.size)
    go_wp2_with fail
    ((with_reducible refine (refFinish_any A cap l m a b _ HR1.out (by omega)).mono ?_); rintro e w2 ⟨rfl, hb2⟩)
    go_wp2_with fail
    ((with_reducible refine (awake_any _).mono ?_); rintro e w3 ⟨rfl, hb3⟩)
    have HB2 := Lib.hid (hb1.trans (hb2.mono hb1.size))
    have HB3 := Lib.hid (HB2.out.trans (hb3.mono HB2.out.size))
    clear hb1 hb2 hb3
    go_wp2
    go_ret
    exact ⟨rfl, HB3.out⟩
end Go.Proofs.Ytoacjdfhmoljpaa
