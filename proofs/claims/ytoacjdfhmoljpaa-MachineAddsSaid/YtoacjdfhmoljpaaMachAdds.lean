/- The walk of the law MachineAdds: it returns true. -/
import Derived.Test.YtoacjdfhmoljpaaMachLaw2
import Derived.Deep.RegionHeld3
namespace Go.Proofs.Ytoacjdfhmoljpaa
open Go.RowKit

theorem adds_keep {w w0 w1 : World} {A : Option Addr} {l : List Dn} {a b c : Int} (hbb : Below w0.heap.size w0 w1)
    (h0 : w0.cell? ⟨w.heap.size, 0, none⟩ = some (.int .i64 a)) (h1 : w0.cell? ⟨w.heap.size, 1, none⟩ = some (.int .i64 b)) (h2 : w0.cell? ⟨w.heap.size, 2, none⟩ = some (.int .i64 c))
    (h3 : DRd w0 w0.heap.size A l) (h4 : w.heap.size < w0.heap.size) (h5 : Below w.heap.size w w0) :
    w1.cell? ⟨w.heap.size, 0, none⟩ = some (.int .i64 a) ∧ w1.cell? ⟨w.heap.size, 1, none⟩ = some (.int .i64 b) ∧ w1.cell? ⟨w.heap.size, 2, none⟩ = some (.int .i64 c) ∧ DRd w1 w1.heap.size A l ∧ w.heap.size < w1.heap.size ∧ Below w.heap.size w w1 :=
  ⟨(hbb.cell (p := ⟨w.heap.size, 0, none⟩) h4).trans h0, (hbb.cell (p := ⟨w.heap.size, 1, none⟩) h4).trans h1, (hbb.cell (p := ⟨w.heap.size, 2, none⟩) h4).trans h2,
    (h3.below hbb).more hbb.size, Nat.lt_of_lt_of_le h4 hbb.size, h5.trans (hbb.mono h5.size)⟩
theorem adds_start {w : World} {A : Option Addr} {l : List Dn} {a b c : Int} (T : TypeId) (h : DRd w w.heap.size A l) :
    (w.alloc (.cells #[.int .i64 a, .int .i64 b, .int .i64 c] T)).cell? ⟨w.heap.size, 0, none⟩ = some (.int .i64 a) ∧ (w.alloc (.cells #[.int .i64 a, .int .i64 b, .int .i64 c] T)).cell? ⟨w.heap.size, 1, none⟩ = some (.int .i64 b) ∧
    (w.alloc (.cells #[.int .i64 a, .int .i64 b, .int .i64 c] T)).cell? ⟨w.heap.size, 2, none⟩ = some (.int .i64 c) ∧ DRd (w.alloc (.cells #[.int .i64 a, .int .i64 b, .int .i64 c] T)) (w.alloc (.cells #[.int .i64 a, .int .i64 b, .int .i64 c] T)).heap.size A l ∧
    w.heap.size < (w.alloc (.cells #[.int .i64 a, .int .i64 b, .int .i64 c] T)).heap.size ∧ Below w.heap.size w (w.alloc (.cells #[.int .i64 a, .int .i64 b, .int .i64 c] T)) :=
  ⟨by simp [go_sem], by simp [go_sem], by simp [go_sem], (h.below ((Below.refl _ _).alloc (Nat.le_refl _) _)).more (by simp), by simp, (Below.refl _ _).alloc (Nat.le_refl _) _⟩

theorem lost_add {l : List Dn} {m a b c : Int} (h1 : a ≤ b) (h2 : b ≤ c) : lostT l m a c = lostT l m a b + lostT l m b c := by
  unfold lostT
  exact down_add _ (by unfold lim; omega) (by unfold lim; omega)
theorem lost_bd (l : List Dn) (m a b : Int) : 0 ≤ lostT l m a b ∧ lostT l m a b ≤ 1073741824 := by
  unfold lostT
  have h1 := lim_bd a
  have h2 := lim_bd b
  by_cases h : lim a ≤ lim b
  · have := down_bd (isUp l m) _ _ h; omega
  · rw [down_none _ (by omega)]; omega
theorem fin_two {l : List Dn} {m s x y : Int} (h : finErr l s x = 0) (h2 : finT l m s x ≤ 1073741824) (hy : 0 ≤ y) (hxy : x + y ≤ 1073741824) :
    finErr l (finT l m s x) y = 0 ∧ finErr l s (x + y) = 0 ∧ finT l m (finT l m s x) y = finT l m s (x + y) := by
  obtain ⟨e1, e2, e3, e4, e5⟩ := finErr_zero h
  have b1 := (finT_le (m := m) h).1
  have g1 := finErr_mk (n := y) e1 (show 0 ≤ finT l m s x by omega) h2 hy (by omega)
  have g2 := finErr_mk (s := s) (n := x + y) e1 e2 e3 (by omega) hxy
  exact ⟨g1, g2, finT_eq g2 ((finT_ok h).trans (finT_ok g1))⟩

set_option maxRecDepth 100000 in
set_option maxHeartbeats 1000000 in
theorem machineAdds_walk (A : Option Addr) (cap : Nat) (l : List Dn) (m a b c x y : Int) (w : World) (h : DRd w w.heap.size A l) (hm : l.length ≤ 9223372036854775807) :
    Calls Try.prog 6 #[.slice A l.length cap, .int .i64 m, .agg #[.int .i64 a, .int .i64 b, .int .i64 c], .int .i64 x, .int .i64 y] w fun e w' => e = .returned (.bool true) ∧ Below w.heap.size w w' := by
  have H := Lib.hid h
  clear h
  by_cases hl : l.length ≤ 20 ∧ a ≤ b ∧ b ≤ c
  · obtain ⟨g1, g2, g3⟩ := hl
    have hlb : decide (20 < l.length) = false := by simpa using g1
    have hlong : l.length ≤ 1000 := by omega
    have HS := Lib.hid (adds_start (a := a) (b := b) (c := c) 32 H.out)
    go_enter Try.func6, Try.ntmps6
    go_wp2_with fail
    revert HS
    generalize w.alloc (.cells #[.int .i64 a, .int .i64 b, .int .i64 c] 32) = w0
    intro HS
    obtain ⟨c0, c1, c2, hr, hlt, hbw⟩ := HS.out
    have l1 := lost_bd l m a b
    have l2 := lost_bd l m b c
    have hla : (lostT l m a c != lostT l m a b + lostT l m b c) = false := by rw [lost_add (l := l) (m := m) g2 g3]; simp
    have hws : IntKind.i64.wrap (lostT l m a b + lostT l m b c) = lostT l m a b + lostT l m b c := IntWalk.i64_in _ (by omega)
    go_region_held3 (fun w' => w'.cell? ⟨w.heap.size, 0, none⟩ = some (.int .i64 a) ∧ w'.cell? ⟨w.heap.size, 1, none⟩ = some (.int .i64 b) ∧ w'.cell? ⟨w.heap.size, 2, none⟩ = some (.int .i64 c) ∧ DRd w' w'.heap.size A l ∧ w.heap.size < w'.heap.size ∧ Below w.heap.size w w')
      (first | exact ⟨c0, c1, c2, hr, hlt, hbw.drew⟩ | (go_split_ands; exact adds_keep hbb (by assumption) (by assumption) (by assumption) (by assumption) (by assumption) (by assumption)))
      (first | (go_at_call 16; refine (lost_any A cap l m _ _ _ ?_ hlong).mono ?_; (go_split_ands; assumption); rintro e w' ⟨rfl, hbb⟩))
    rename_i hSl
    obtain ⟨k0, k1, k2, kr, klt, kbw⟩ := hSl
    have HKR := Lib.hid kr
    clear c0 c1 c2 hr hlt hbw HS hbb kr
    obtain ⟨w2, rfl⟩ : ∃ w2 : World, w2 = w' := ⟨_, rfl⟩
    by_cases hg : x < 0 ∨ 1073741824 < x ∨ y < 0 ∨ 1073741824 - x < y
    · go_wp2_with fail
      all_goals
        ((with_reducible refine (awake_any _).mono ?_); rintro e w5 ⟨rfl, hb5⟩)
        go_wp2
        go_ret
        exact ⟨rfl, kbw.trans (hb5.mono kbw.size)⟩
    · have x1 : 0 ≤ x := by omega
      have x2 : x ≤ 1073741824 := by omega
      have y1 : 0 ≤ y := by omega
      have y2 : y ≤ 1073741824 - x := by omega
      clear hg
      go_wp2_with fail
      ((with_reducible refine (finish_any A cap l m a x _ HKR.out hlong).mono ?_); rintro e w3 ⟨rfl, hb3⟩)
      have HR3 := Lib.hid ((HKR.out.below hb3).more hb3.size)
      have HB3 := Lib.hid (kbw.trans (hb3.mono kbw.size))
      have j0 := (hb3.cell (p := ⟨w.heap.size, 0, none⟩) klt).trans k0
      have j4 : w.heap.size < w3.heap.size := Nat.lt_of_lt_of_le klt hb3.size
      clear hb3 k0 k1 k2 kbw
      by_cases he : finErr l a x = 0
      · by_cases ht : finT l m a x ≤ 1073741824
        · obtain ⟨t1, t2, t3⟩ := fin_two he ht y1 (by omega)
          have T1 := Lib.hid t1
          have T2 := Lib.hid t2
          have T3 := Lib.hid t3
          have HE := Lib.hid he
          clear t1 t2 t3 he
          rw [HE.out]
          generalize finT l m a x = t at *
          go_wp2_with fail
          ((with_reducible refine (finish_any A cap l m t y _ HR3.out hlong).mono ?_); rintro e w4 ⟨rfl, hb4⟩)
          have HR4 := Lib.hid ((HR3.out.below hb4).more hb4.size)
          have HB4 := Lib.hid (HB3.out.trans (hb4.mono HB3.out.size))
          have i0 := (hb4.cell (p := ⟨w.heap.size, 0, none⟩) j4).trans j0
          have i4 : w.heap.size < w4.heap.size := Nat.lt_of_lt_of_le j4 hb4.size
          clear hb4 j0
          rw [T1.out, T3.out]
          go_wp2_with fail
          ((with_reducible refine (finish_any A cap l m a (x + y) _ HR4.out hlong).mono ?_); rintro e w5 ⟨rfl, hb5⟩)
          have HB5 := Lib.hid (HB4.out.trans (hb5.mono HB4.out.size))
          clear hb5
          rw [T2.out]
          go_wp2_with fail
          ((with_reducible refine (awake_any _).mono ?_); rintro e w6 ⟨rfl, hb6⟩)
          have HB6 := Lib.hid (HB5.out.trans (hb6.mono HB5.out.size))
          clear hb6
          go_wp2
          go_ret
          exact ⟨rfl, HB6.out⟩
        · have HE := Lib.hid he
          clear he
          rw [HE.out]
          go_wp2_with fail
          ((with_reducible refine (awake_any _).mono ?_); rintro e w5 ⟨rfl, hb5⟩)
          go_wp2
          go_ret
          exact ⟨rfl, HB3.out.trans (hb5.mono HB3.out.size)⟩
      · have hne : (finErr l a x != 0) = true := by simpa using he
        go_wp2_with fail
        ((with_reducible refine (awake_any _).mono ?_); rintro e w5 ⟨rfl, hb5⟩)
        go_wp2
        go_ret
        exact ⟨rfl, HB3.out.trans (hb5.mono HB3.out.size)⟩
  · have hg : 20 < l.length ∨ b < a ∨ c < b := by omega
    have HB0 : Hid (Below w.heap.size w (w.alloc (.cells #[.int .i64 a, .int .i64 b, .int .i64 c] 32))) := (Below.refl _ _).alloc (Nat.le_refl _) _
    clear hl
    by_cases h1 : 20 < l.length
    · have hlb : decide (20 < l.length) = true := by simpa using h1
      clear hg
      go_enter Try.func6, Try.ntmps6
      go_wp2_with fail
      ((with_reducible refine (awake_any _).mono ?_); rintro e w5 ⟨rfl, hb5⟩)
      go_wp2
      go_ret
      exact ⟨rfl, HB0.out.trans (hb5.mono (by simp))⟩
    · have hlb : decide (20 < l.length) = false := by simpa using h1
      go_enter Try.func6, Try.ntmps6
      go_wp2_with fail
      all_goals
        ((with_reducible refine (awake_any _).mono ?_); rintro e w5 ⟨rfl, hb5⟩)
        go_wp2
        go_ret
        exact ⟨rfl, HB0.out.trans (hb5.mono (by simp))⟩
end Go.Proofs.Ytoacjdfhmoljpaa
