/- The walk of the law MachineLater: it returns true. -/
import Derived.Test.YtoacjdfhmoljpaaMachApp
namespace Go.Proofs.Ytoacjdfhmoljpaa
open Go.RowKit

set_option maxRecDepth 100000 in
set_option maxHeartbeats 1000000 in
theorem machineLater_walk (A : Option Addr) (cap : Nat) (l : List Dn) (m s n : Int) (d : Dn) (w : World) (h : DRd w w.heap.size A l) (hm : l.length ≤ 9223372036854775807) (hA : A = none → cap = 0) :
    Calls Try.prog 10 #[.slice A l.length cap, .int .i64 m, .int .i64 s, .int .i64 n, .agg #[.int .i64 d.m, .int .i64 d.f, .int .i64 d.t]] w fun e w' => e = .returned (.bool true) ∧ Below w.heap.size w w' := by
  have H := Lib.hid h
  clear h
  have HA : Hid (A = none → l.length = 0 ∧ cap = 0) := fun e => ⟨H.out.none_len e, hA e⟩
  clear hA
  obtain ⟨i0, hi0, hz0, hz1, hz2⟩ := info_parts infoDown
  have HB0 : Hid (Below w.heap.size w (w.alloc (.cells #[.int .i64 d.m, .int .i64 d.f, .int .i64 d.t] 36))) := (Below.refl _ _).alloc (Nat.le_refl _) _
  by_cases hl : 19 < l.length
  · have hlb : decide ((19 : Int) < (l.length : Int)) = true := by simp; omega
    go_enter Try.func10, Try.ntmps10
    go_wp2_with fail
    ((with_reducible refine (awake_any _).mono ?_); rintro e w5 ⟨rfl, hb5⟩)
    go_wp2
    go_ret
    exact ⟨rfl, HB0.out.trans (hb5.mono (by simp))⟩
  · have hlb : decide ((19 : Int) < (l.length : Int)) = false := by simp; omega
    have hlong : l.length ≤ 1000 := by omega
    have hlong1 : (d :: l).length ≤ 1000 := by simp; omega
    have HR0 := Lib.hid (H.out.below HB0.out)
    have HBB : Hid (Below (w.heap.size + 1) (w.alloc (.cells #[.int .i64 d.m, .int .i64 d.f, .int .i64 d.t] 36)) (w.alloc (.cells #[.int .i64 d.m, .int .i64 d.f, .int .i64 d.t] 36))) := Below.refl _ _
    have HC0 : Hid ((w.alloc (.cells #[.int .i64 d.m, .int .i64 d.f, .int .i64 d.t] 36)).cell? ⟨w.heap.size, 0, none⟩ = some (.int .i64 d.m) ∧ (w.alloc (.cells #[.int .i64 d.m, .int .i64 d.f, .int .i64 d.t] 36)).cell? ⟨w.heap.size, 1, none⟩ = some (.int .i64 d.f) ∧ (w.alloc (.cells #[.int .i64 d.m, .int .i64 d.f, .int .i64 d.t] 36)).cell? ⟨w.heap.size, 2, none⟩ = some (.int .i64 d.t)) :=
      ⟨by simp [go_sem], by simp [go_sem], by simp [go_sem]⟩
    have HZ : Hid ((w.alloc (.cells #[.int .i64 d.m, .int .i64 d.f, .int .i64 d.t] 36)).heap.size = w.heap.size + 1) := by show _ = _; simp
    go_enter Try.func10, Try.ntmps10
    go_wp2_with (at_builtin; refine wpList_append_rd ?c0 (.tmp 24) (.tmp 25) 22 rfl (w.heap.size + 1) 36 i0 _ 3 24 Try.underlying22 hi0 hz0 hz1 hz2 rfl (by decide) (.slice (some ⟨w.heap.size + 1, 0, none⟩) 1 1) 1 [.int .i64 d.m, .int .i64 d.f, .int .i64 d.t] rfl ?c6 A l.length cap (dnCells l) rfl (dnCells_len l) HA.out ?c1 (dnCells_one l) ?c3 ?c4 ?c5 ?_)
    case c6 => have := own_one (w.alloc (.cells #[.int .i64 d.m, .int .i64 d.f, .int .i64 d.t] 36)) d (base := w.heap.size + 1) (by simp) 36; rw [HZ.out] at this; exact this
    case c1 => exact (HR0.out.below (((Below.refl w.heap.size _).alloc (by simp) _))).news
    case c3 => unfold maxLen; omega
    case c4 => omega
    case c5 => simp
    intro v1 w1 hown1 hg1
    obtain ⟨⟨A1, k1, rfl, hr1⟩, hb1⟩ := app_done 36 (by simp) (by have := own_one (w.alloc (.cells #[.int .i64 d.m, .int .i64 d.f, .int .i64 d.t] 36)) d (base := w.heap.size + 1) (by simp) 36; rw [HZ.out] at this; exact this) (HBB.out.alloc (by simp) _) hown1 hg1
    have HR1 := Lib.hid hr1
    have HB1 := Lib.hid hb1
    clear hown1 hg1 hr1 hb1
    go_wp2_with fail
    have hck := check_any A1 k1 (d :: l) w1 HR1.out hlong1
    rw [List.length_cons] at hck
    ((with_reducible refine hck.mono ?_); rintro e w2 ⟨rfl, hb2⟩)
    clear hck
    have HB2 := Lib.hid (HB1.out.trans (hb2.mono (by have := HB1.out.size; simpa using this)))
    clear hb2
    have hs2 : w.heap.size + 1 ≤ w2.heap.size := by have := HB2.out.size; simpa using this
    have HBW := Lib.hid (HB0.out.trans (HB2.out.mono (by omega)))
    by_cases hg : chk (d :: l) ≠ 0 ∨ s < 0 ∨ 1073741824 ≤ s ∨ n < 0 ∨ 1073741824 ≤ n
    · by_cases hc : chk (d :: l) = 0
      · have HC := Lib.hid hc
        have hg' : s < 0 ∨ 1073741824 ≤ s ∨ n < 0 ∨ 1073741824 ≤ n := by omega
        clear hg hc
        rw [HC.out]
        go_wp2_with fail
        all_goals
          ((with_reducible refine (awake_any _).mono ?_); rintro e w5 ⟨rfl, hb5⟩)
          go_wp2
          go_ret
          exact ⟨rfl, HBW.out.trans (hb5.mono (by omega))⟩
      · have hcb : (chk (d :: l) != 0) = true := by simpa using hc
        clear hg hc
        go_wp2_with fail
        ((with_reducible refine (awake_any _).mono ?_); rintro e w5 ⟨rfl, hb5⟩)
        go_wp2
        go_ret
        exact ⟨rfl, HBW.out.trans (hb5.mono (by omega))⟩
    · have hc : chk (d :: l) = 0 := by omega
      have s1 : 0 ≤ s := by omega
      have s2 : s < 1073741824 := by omega
      have n1 : 0 ≤ n := by omega
      have n2 : n < 1073741824 := by omega
      have hcl := chk_tail hc
      have ea := finErr_mk (s := s) (n := n) hcl s1 (by omega) n1 (by omega)
      have eb := finErr_mk (s := s + 1) (n := n) hcl (by omega) (by omega) n1 (by omega)
      have ec := finErr_mk (s := s) (n := n + 1) hcl s1 (by omega) (by omega) (by omega)
      have ex := finErr_mk (s := s) (n := n) hc s1 (by omega) n1 (by omega)
      have lb := (finT_ok (m := m) ea).later (finT_ok (m := m) eb) (by omega) (Int.le_refl _) (fun _ _ h => h)
      have lc := (finT_ok (m := m) ea).longer (finT_ok (m := m) ec) (by omega)
      have lx := (finT_ok (m := m) ea).later (finT_ok (m := m) ex) (Int.le_refl _) (Int.le_refl _) (fun _ _ h => isUp_tail h)
      have EA := Lib.hid ea
      have EB := Lib.hid eb
      have EC := Lib.hid ec
      have EX := Lib.hid ex
      have HC := Lib.hid hc
      have hr2 := (HR0.out.below (HB2.out.mono (by omega))).more (show w.heap.size ≤ w2.heap.size by omega)
      have HR2 := Lib.hid hr2
      clear hg hc hcl ea eb ec ex hr2
      rw [HC.out]
      go_wp2_with fail
      ((with_reducible refine (finish_any A cap l m s n _ HR2.out hlong).mono ?_); rintro e w3 ⟨rfl, hb3⟩)
      have HR3 := Lib.hid ((HR2.out.below hb3).more hb3.size)
      have HB3 := Lib.hid (HB2.out.trans (hb3.mono hs2))
      have hs3 : w.heap.size + 1 ≤ w3.heap.size := by have := HB3.out.size; simpa using this
      clear hb3
      rw [EA.out]
      go_wp2_with fail
      ((with_reducible refine (finish_any A cap l m (s + 1) n _ HR3.out hlong).mono ?_); rintro e w4 ⟨rfl, hb4⟩)
      have HR4 := Lib.hid ((HR3.out.below hb4).more hb4.size)
      have HB4 := Lib.hid (HB3.out.trans (hb4.mono hs3))
      have hs4 : w.heap.size + 1 ≤ w4.heap.size := by have := HB4.out.size; simpa using this
      clear hb4
      rw [EB.out]
      go_wp2_with fail
      ((with_reducible refine (finish_any A cap l m s (n + 1) _ HR4.out hlong).mono ?_); rintro e w5 ⟨rfl, hb5⟩)
      have HR5 := Lib.hid ((HR4.out.below hb5).more hb5.size)
      have HB5 := Lib.hid (HB4.out.trans (hb5.mono hs4))
      have hs5 : w.heap.size + 1 ≤ w5.heap.size := by have := HB5.out.size; simpa using this
      clear hb5
      rw [EC.out]
      generalize finT l m s n = fa at *
      generalize finT l m (s + 1) n = fb at *
      generalize finT l m s (n + 1) = fc at *
      have k0 := (HB5.out.cell (p := ⟨w.heap.size, 0, none⟩) (by simp)).trans HC0.out.1
      have k1' := (HB5.out.cell (p := ⟨w.heap.size, 1, none⟩) (by simp)).trans HC0.out.2.1
      have k2 := (HB5.out.cell (p := ⟨w.heap.size, 2, none⟩) (by simp)).trans HC0.out.2.2
      have hs5' : w.heap.size < w5.heap.size := by omega
      go_wp2_with (at_builtin; refine wpList_append_rd ?d0 (.tmp 75) (.tmp 76) 22 rfl (w.heap.size + 1) 36 i0 _ 3 24 Try.underlying22 hi0 hz0 hz1 hz2 rfl (by decide) (.slice (some ⟨w5.heap.size, 0, none⟩) 1 1) 1 [.int .i64 d.m, .int .i64 d.f, .int .i64 d.t] rfl ?d6 A l.length cap (dnCells l) rfl (dnCells_len l) HA.out ?d1 (dnCells_one l) ?d3 ?d4 ?d5 ?_)
      case d6 => exact own_one w5 d (by omega) 36
      case d1 => exact (HR5.out.below ((Below.refl _ _).alloc (Nat.le_refl _) _)).news
      case d3 => unfold maxLen; omega
      case d4 => omega
      case d5 => simp; omega
      intro v6 w6 hown6 hg6
      obtain ⟨⟨A6, k6, rfl, hr6⟩, hb6⟩ := app_done 36 (by simp; omega) (own_one w5 d (by omega) 36) (HB5.out.alloc (by omega) _) hown6 hg6
      have HR6 := Lib.hid hr6
      have HB6 := Lib.hid hb6
      clear hown6 hg6 hr6 hb6 k0 k1' k2
      have hs6 : w.heap.size + 1 ≤ w6.heap.size := by have := HB6.out.size; simpa using this
      go_wp2_with fail
      have hck := finish_any A6 k6 (d :: l) m s n w6 HR6.out hlong1
      rw [List.length_cons] at hck
      ((with_reducible refine hck.mono ?_); rintro e w7 ⟨rfl, hb7⟩)
      clear hck
      have HB7 := Lib.hid (HB6.out.trans (hb7.mono hs6))
      have hs7 : w.heap.size + 1 ≤ w7.heap.size := by have := HB7.out.size; simpa using this
      clear hb7
      rw [EX.out]
      generalize finT (d :: l) m s n = fx at *
      go_wp2_with fail
      ((with_reducible refine (awake_any _).mono ?_); rintro e w8 ⟨rfl, hb8⟩)
      have HB8 := Lib.hid (HB0.out.trans ((HB7.out.trans (hb8.mono hs7)).mono (by omega)))
      clear hb8
      go_wp2
      go_ret
      exact ⟨rfl, HB8.out⟩
end Go.Proofs.Ytoacjdfhmoljpaa
