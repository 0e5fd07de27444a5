/- Walk of the reference's Same: whether two lists of spots are equal. -/
import Derived.Test.YtopmolpnmpchoaaCvRow
namespace Go.Proofs.Ytopmolpnmpchoaa
open Go.RowKit

set_option maxRecDepth 100000 in
set_option maxHeartbeats 1000000 in
theorem same_any (A B : Option Addr) (ca cb : Nat) (l m : List Pt) (w : World) (h : PRd w w.heap.size A l) (h' : PRd w w.heap.size B m) (hn : l.length ≤ 1000000) :
    Calls Try.prog 14 #[.slice A l.length ca, .slice B m.length cb] w fun e w' => e = .returned (.bool (decide (l = m))) ∧ Below w.heap.size w w' := by
  have H := hid h
  have H' := hid h'
  clear h h'
  by_cases hlen : l.length = m.length
  · go_enter Try.func14, Try.ntmps14
    rw [← hlen]
    go_wp2_with fail
    go_loopw [5] (fun j wr => ∃ i : Nat, i ≤ l.length ∧ j = .int .i64 i ∧ Hid (l.take i = m.take i) ∧ Below w.heap.size w wr) (fun j _ => l.length - (intOf j).toNat)
    case atStart => exact ⟨0, Nat.zero_le _, rfl, rfl, Below.refl _ _⟩
    case round =>
      obtain ⟨i, hi, rfl, HE, hb⟩ := hrel
      have HB := hid hb
      clear hb
      by_cases hlt : i < l.length
      · obtain ⟨b, off, t, hA, hB, hd, c0, c1⟩ := H.out.at_ HB.out hlt
        obtain ⟨b', off', t', hA', hB', hd', d0, d1⟩ := H'.out.at_ HB.out (show i < m.length by omega)
        subst hA hA'
        have i0 : (0 : Int) ≤ (i : Int) := by omega
        have i1 : (i : Int) < (l.length : Int) := by omega
        have HD := hid hd
        have HD' := hid hd'
        clear hd hd'
        by_cases he : t = t'
        · subst he
          go_wp2_with fail
          go_quiet (fail)
          go_wp2_with fail
          go_roundw
          case rel => exact ⟨i + 1, by omega, by go_num, by show _ = _; rw [List.take_add_one, List.take_add_one, HE.out, HD.out, HD'.out], below_drewN HB.out _⟩
          case measure => simp [intOf]; omega
        · have HR : Hid (decide (l = m) = false) := decide_eq_false (fun e => he (by
            have h1 := HD.out
            have h2 := HD'.out
            rw [e, h2] at h1
            injection h1 with h1
            exact h1.symm))
          by_cases hx : t.x = t'.x
          · have hy : (t.y == t'.y) = false := by
              simp only [beq_eq_false_iff_ne]
              exact fun hy => he (Pt.same hx hy)
            rw [← hx] at d0
            clear he hx
            go_wp2_with fail
            go_quiet (fail)
            go_wp2
            go_ret
            exact ⟨ret_bool HR.out.symm, below_drewN HB.out _⟩
          · have hx : (t.x == t'.x) = false := by simp only [beq_eq_false_iff_ne]; exact hx
            clear he
            go_wp2_with fail
            go_quiet (fail)
            go_wp2
            go_ret
            exact ⟨ret_bool HR.out.symm, below_drewN HB.out _⟩
      · obtain rfl : l.length = i := by omega
        go_wp2
        go_ret
        refine ⟨ret_bool (decide_eq_true ?_).symm, HB.out⟩
        have e := HE.out
        rw [List.take_length, List.take_of_length_le (by omega)] at e
        exact e
  · have hb : ((l.length : Int) == (m.length : Int)) = false := by simp; omega
    have HR : Hid (decide (l = m) = false) := decide_eq_false (fun e => hlen (by rw [e]))
    go_enter Try.func14, Try.ntmps14
    go_wp2
    go_ret
    exact ⟨ret_bool HR.out.symm, Below.refl _ _⟩
end Go.Proofs.Ytopmolpnmpchoaa
