/- The walks of slices.IndexFunc, slices.ContainsFunc and of convex.Hull. -/
import Derived.Test.YtopmolpnmpchoaaCvHull
namespace Go.Proofs.Ytopmolpnmpchoaa
open Go.RowKit

theorem allIn_take {l : List Pt} {k : Nat} {p : Pt} (h : allIn (l.take k) = true) (hp : l[k]? = some p) (hin : In 4194304 p) : allIn (l.take (k + 1)) = true := by
  rw [List.take_add_one, hp]
  unfold allIn at *
  rw [List.all_append, h]
  simp [hin]
theorem allIn_not {l : List Pt} {k : Nat} {p : Pt} (hp : l[k]? = some p) (hin : ¬ In 4194304 p) : allIn l = false := by
  cases h : allIn l with
  | false => rfl
  | true => exact absurd (allIn_iff.1 h p (List.mem_of_getElem? hp)) hin
set_option maxRecDepth 100000 in
set_option maxHeartbeats 1000000 in
theorem indexOut_any (A : Option Addr) (cap : Nat) (l : List Pt) (w : World) (h : PRd w w.heap.size A l) (hn : l.length ≤ 1000000) :
    Calls Try.prog 40 #[.slice A l.length cap, .func (.func 32) #[] #[]] w fun e w' => (∃ r : Int, e = .returned (.int .i64 r) ∧ (0 ≤ r ↔ allIn l = false)) ∧ Below w.heap.size w w' := by
  have H := hid h
  clear h
  go_enter Try.func40, Try.ntmps40
  go_wp2_with fail
  go_loopw [5, 8] (fun _ i wr => ∃ k : Nat, k ≤ l.length ∧ i = .int .i64 k ∧ Hid (allIn (l.take k) = true) ∧ Hid (Below w.heap.size w wr)) (fun _ i _ => l.length - (intOf i).toNat)
  case atStart => exact ⟨0, Nat.zero_le _, rfl, rfl, Below.refl _ _⟩
  case round =>
    obtain ⟨k, hk, rfl, HA, HB⟩ := hrel
    by_cases hlt : k < l.length
    · obtain ⟨b, off, p, rfl, hB, hd, c0, c1⟩ := H.out.at_ HB.out hlt
      have HD := hid hd
      clear hd
      go_wp2_with fail
      ((with_reducible refine (outside_any p _).mono ?_); rintro e w1 ⟨rfl, hb1⟩)
      have HB1 := hid (HB.out.trans (hb1.mono HB.out.size))
      clear hb1
      by_cases hin : In 4194304 p
      · have hdec : decide (In 4194304 p) = true := decide_eq_true hin
        have HA2 := hid (allIn_take HA.out HD.out hin)
        clear hin
        go_wp2_with fail
        go_roundw
        case rel => exact ⟨k + 1, by omega, by go_num, HA2.out, HB1.out⟩
        case measure => simp [intOf]; omega
      · have hdec : decide (In 4194304 p) = false := decide_eq_false hin
        have HA2 := hid (allIn_not HD.out hin)
        clear hin
        go_wp2
        go_ret
        exact ⟨⟨k, rfl, by rw [HA2.out]; simp⟩, HB1.out⟩
    · obtain rfl : l.length = k := by omega
      rw [List.take_length] at HA
      go_wp2
      go_ret
      exact ⟨⟨-1, rfl, by rw [HA.out]; simp⟩, HB.out⟩
set_option maxRecDepth 100000 in
set_option maxHeartbeats 1000000 in
theorem containsOut_any (A : Option Addr) (cap : Nat) (l : List Pt) (w : World) (h : PRd w w.heap.size A l) (hn : l.length ≤ 1000000) :
    Calls Try.prog 31 #[.slice A l.length cap, .func (.func 32) #[] #[]] w fun e w' => e = .returned (.bool (!allIn l)) ∧ Below w.heap.size w w' := by
  go_enter Try.func31, Try.ntmps31
  go_wp2_with fail
  ((with_reducible refine (indexOut_any A cap l _ h hn).mono ?_); rintro e w1 ⟨⟨r, rfl, hr⟩, hb1⟩)
  have HR : Hid (decide (0 ≤ r) = !allIn l) := by
    show _ = _
    cases ha : allIn l with
    | false => rw [ha] at hr; simp [hr.2 rfl]
    | true => rw [ha] at hr; simp at hr; simp; omega
  clear hr
  go_wp2
  go_ret
  exact ⟨ret_bool HR.out, hb1⟩

theorem hullE_long {l : List Pt} (h : 160 < l.length) : hullE l = 5 := by unfold hullE; rw [if_pos h]
theorem hullE_range {l : List Pt} (h : ¬ 160 < l.length) (h2 : allIn l = false) : hullE l = 3 := by unfold hullE; rw [if_neg h, if_pos h2]
theorem hullE_shape {l : List Pt} (h : ¬ 160 < l.length) (h2 : allIn l = true) (h3 : (hull1 l).length = 0) : hullE l = 11 := by unfold hullE; rw [if_neg h, if_neg (by rw [h2]; decide), if_pos h3]
theorem hullE_fine {l : List Pt} (h : ¬ 160 < l.length) (h2 : allIn l = true) (h3 : (hull1 l).length ≠ 0) : hullE l = 0 := by unfold hullE; rw [if_neg h, if_neg (by rw [h2]; decide), if_neg h3]
/-- What Hull hands back. -/
def HullPost (w : World) (l : List Pt) (e : Ending) (w' : World) : Prop := (∃ A' c', e = .returned (.tuple #[.slice A' (hullV l).length c', .int .i64 (hullE l)]) ∧ PSl w' A' c' (hullV l)) ∧ Below w.heap.size w w'
theorem hullPost_no {w w' : World} {l : List Pt} {x : Int} (h : hullE l = x) (hx : x ≠ 0) (hb : Below w.heap.size w w') : HullPost w l (.returned (.tuple #[.slice none 0 0, .int .i64 x])) w' := by
  subst h
  refine ⟨⟨none, 0, ?_, ?_⟩, hb⟩
  · rw [hullV_no hx]; rfl
  · rw [hullV_no hx]; exact PSl.none _
set_option maxRecDepth 100000 in
set_option maxHeartbeats 1000000 in
theorem Hull_any (A : Option Addr) (cap : Nat) (l : List Pt) (w : World) (h : PSl w A cap l) (hm : l.length ≤ 9223372036854775807) :
    Calls Try.prog 12 #[.slice A l.length cap] w fun e w' => HullPost w l e w' := by
  have H := hid h
  clear h
  by_cases hl : 160 < l.length
  · have HE := hid (hullE_long hl)
    go_enter Try.func12, Try.ntmps12
    go_wp2
    go_ret2
    exact hullPost_no HE.out (by decide) (Below.refl _ _)
  · go_enter Try.func12, Try.ntmps12
    go_wp2_with fail
    ((with_reducible refine (containsOut_any A cap l _ H.out.rd (by omega)).mono ?_); rintro e w1 ⟨rfl, hb1⟩)
    have HB1 := hid hb1
    clear hb1
    cases ha : allIn l with
    | false =>
      have HE := hid (hullE_range hl ha)
      clear ha
      go_wp2
      go_ret2
      exact hullPost_no HE.out (by decide) HB1.out
    | true =>
      have HA := hid ha
      clear ha
      have H1 := hid (H.out.keep HB1.out)
      go_wp2_with fail
      ((with_reducible refine (hull_any A cap l _ H1.out (bd_of HA.out) (by omega)).mono ?_); rintro e w2 ⟨⟨A2, c2, rfl, hs2⟩, hb2⟩)
      have HB2 := hid (HB1.out.trans (hb2.mono HB1.out.size))
      have HS2 := hid hs2
      clear hs2 hb2
      by_cases h0 : (hull1 l).length = 0
      · have HE := hid (hullE_shape hl HA.out h0)
        have hdec : decide (0 < (hull1 l).length) = false := decide_eq_false (by omega)
        clear h0
        go_wp2
        go_ret2
        exact hullPost_no HE.out (by decide) HB2.out
      · have HE := hid (hullE_fine hl HA.out h0)
        have HV := hid (hullE_ok HE.out).2.2.1
        have hdec : decide (0 < (hull1 l).length) = true := decide_eq_true (Nat.pos_of_ne_zero h0)
        clear h0
        go_wp2
        go_ret2
        refine ⟨⟨A2, c2, ?_, ?_⟩, HB2.out⟩
        · rw [HE.out, HV.out]; rfl
        · rw [HV.out]; exact HS2.out
end Go.Proofs.Ytopmolpnmpchoaa
