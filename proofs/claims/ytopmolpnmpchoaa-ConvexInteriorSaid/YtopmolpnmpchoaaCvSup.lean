/- The walks of Support, of the program and of the reference. -/
import Derived.Test.YtopmolpnmpchoaaCvNeg2
namespace Go.Proofs.Ytopmolpnmpchoaa
open Go.RowKit

theorem supF_first (f : Pt → Int) {l : List Pt} {p : Pt} (h : l[0]? = some p) : supF f (l.take 1) = f p := by
  rw [List.take_add_one, h]; rfl
theorem supF_more (f : Pt → Int) {l : List Pt} {k : Nat} {p : Pt} (h : l[k + 1]? = some p) (hlt : supF f (l.take (k + 1)) < f p) : supF f (l.take (k + 1 + 1)) = f p := by
  rw [List.take_add_one (i := k + 1), h, Option.toList, supF_snoc, if_pos (.inr hlt)]
theorem supF_keep (f : Pt → Int) {l : List Pt} {k : Nat} {p : Pt} (h : l[k + 1]? = some p) (hlt : ¬ supF f (l.take (k + 1)) < f p) : supF f (l.take (k + 1 + 1)) = supF f (l.take (k + 1)) := by
  have hk := (List.getElem?_eq_some_iff.1 h).1
  rw [List.take_add_one (i := k + 1), h, Option.toList, supF_snoc, if_neg]
  rintro (e | e)
  · have := congrArg List.length e
    rw [List.length_take, List.length_nil] at this
    omega
  · exact hlt e
theorem lim_in (m n : Int) (h : 0 ≤ m) : -m ≤ lim m n ∧ lim m n ≤ m := by unfold lim; omega

set_option maxRecDepth 100000 in
set_option maxHeartbeats 4000000 in
theorem support_any (A : Option Addr) (cap : Nat) (l : List Pt) (d : Pt) (w : World) (h : PRd w w.heap.size A l) (hn : l.length ≤ 1000000) :
    Calls Try.prog 22 #[.slice A l.length cap, .agg #[.int .i64 d.x, .int .i64 d.y]] w fun e w' => e = .returned (.int .i64 (supF (dotL d) l)) ∧ Below w.heap.size w w' := by
  have H := hid h
  clear h
  obtain ⟨X1, hX1⟩ : ∃ X1, lim 1000 d.x = X1 := ⟨_, rfl⟩
  obtain ⟨Y1, hY1⟩ : ∃ Y1, lim 1000 d.y = Y1 := ⟨_, rfl⟩
  have hx1 := lim_in 1000 d.x (by decide)
  have hy1 := lim_in 1000 d.y (by decide)
  rw [hX1] at hx1
  rw [hY1] at hy1
  have HL1 : Hid (∀ w, Calls Try.prog 38 #[.int .i64 d.x, .int .i64 1000] w fun e w' => e = .returned (.int .i64 X1) ∧ w' = w) := fun w => (limited_any d.x 1000 w (by decide) (by decide)).mono fun e w' h => ⟨by rw [h.1, hX1], h.2.symm⟩
  have HL2 : Hid (∀ w, Calls Try.prog 38 #[.int .i64 d.y, .int .i64 1000] w fun e w' => e = .returned (.int .i64 Y1) ∧ w' = w) := fun w => (limited_any d.y 1000 w (by decide) (by decide)).mono fun e w' h => ⟨by rw [h.1, hY1], h.2.symm⟩
  have HDL : Hid (∀ p : Pt, dotL d p = lim 4194304 p.x * X1 + lim 4194304 p.y * Y1) := fun p => by unfold dotL; rw [hX1, hY1]
  clear hX1 hY1
  go_enter Try.func22, Try.ntmps22
  go_wp2_with fail
  generalize hw2 : w.alloc (.cells #[.int .i64 d.x, .int .i64 d.y] 31) = w2
  have c0 : w2.drew.cell? ⟨w.heap.size, 0, none⟩ = some (.int .i64 d.x) := by rw [← hw2]; simp [go_sem]
  have c1 : w2.drew.cell? ⟨w.heap.size, 1, none⟩ = some (.int .i64 d.y) := by rw [← hw2]; simp [go_sem]
  have HW2 : Hid (Below w.heap.size w w2.drew) := by rw [← hw2]; exact (below1 _ _).drew
  clear hw2
  refine wp_region_still_lit (by kernel_rfl) (by kernel_rfl) ?_
  change wpStill _ _ (World.drew w2) (fun a' => (_ : Exit → Act → World → Prop) Exit.normal a' (World.drew w2)) _ _
  generalize w2.drew = w3 at *
  repeat still_step
  still_call HL1.out _
  repeat still_step
  still_call HL2.out _
  repeat still_step
  refine wpStill_nil ?_
  clear c0 c1
  go_wp2_with fail
  go_loopw [7, 8, 9, 10, 19] (fun x _ _ _ i wr => ∃ k : Nat, k ≤ l.length ∧ i = .int .i64 k ∧ x = .int .i64 (supF (dotL d) (l.take k)) ∧ Hid (Below w.heap.size w wr)) (fun _ _ _ _ i _ => l.length - (intOf i).toNat)
  case atStart => exact ⟨0, Nat.zero_le _, rfl, rfl, HW2.out⟩
  case round =>
    obtain ⟨k, hk, rfl, rfl, HB⟩ := hrel
    by_cases hlt : k < l.length
    · obtain ⟨b, off, p, rfl, hB, hd, c0, c1⟩ := H.out.at_ HB.out hlt
      obtain ⟨X, hX⟩ : ∃ X, lim 4194304 p.x = X := ⟨_, rfl⟩
      obtain ⟨Y, hY⟩ : ∃ Y, lim 4194304 p.y = Y := ⟨_, rfl⟩
      have hx := lim_in 4194304 p.x (by decide)
      have hy := lim_in 4194304 p.y (by decide)
      rw [hX] at hx
      rw [hY] at hy
      have m1 := mul_in hx hx1
      have m2 := mul_in hy hy1
      have HL3 : Hid (∀ w, Calls Try.prog 38 #[.int .i64 p.x, .int .i64 4194304] w fun e w' => e = .returned (.int .i64 X) ∧ w' = w) := fun w => (limited_any p.x 4194304 w (by decide) (by decide)).mono fun e w' h => ⟨by rw [h.1, hX], h.2.symm⟩
      have HL4 : Hid (∀ w, Calls Try.prog 38 #[.int .i64 p.y, .int .i64 4194304] w fun e w' => e = .returned (.int .i64 Y) ∧ w' = w) := fun w => (limited_any p.y 4194304 w (by decide) (by decide)).mono fun e w' h => ⟨by rw [h.1, hY], h.2.symm⟩
      have HV : Hid (dotL d p = X * X1 + Y * Y1) := by show _ = _; rw [HDL.out, hX, hY]
      clear hX hY
      have hw1 : IntKind.i64.wrap (X * X1) = X * X1 := by rw [IntWalk.i64_in _ (by omega)]
      have hw2 : IntKind.i64.wrap (Y * Y1) = Y * Y1 := by rw [IntWalk.i64_in _ (by omega)]
      have hw3 : IntKind.i64.wrap (X * X1 + Y * Y1) = X * X1 + Y * Y1 := by rw [IntWalk.i64_in _ (by omega)]
      have j0 : (0 : Int) ≤ (k : Int) := by omega
      have j1 : (k : Int) < (l.length : Int) := by omega
      have hsz := HB.out.size
      have HD := hid hd
      clear hd m1 m2 hx hy
      match k, hk, hlt, c0, c1, j0, j1, HD with
      | 0, hk, hlt, c0, c1, j0, j1, HD =>
        simp only [Nat.zero_mul, Nat.add_zero] at c0 c1
        have HS : Hid (supF (dotL d) (l.take 1) = X * X1 + Y * Y1) := by show _ = _; rw [supF_first _ HD.out, HV.out]
        go_wp2_with fail
        generalize hw4 : wr.alloc (.cells #[.int .i64 p.x, .int .i64 p.y] 31) = w4
        have e0 : w4.drew.cell? ⟨wr.heap.size, 0, none⟩ = some (.int .i64 p.x) := by rw [← hw4]; simp [go_sem]
        have e1 : w4.drew.cell? ⟨wr.heap.size, 1, none⟩ = some (.int .i64 p.y) := by rw [← hw4]; simp [go_sem]
        have HB4 : Hid (Below w.heap.size w w4.drew) := by rw [← hw4]; exact (HB.out.alloc hsz _).drew
        clear hw4 c0 c1
        refine wp_region_still_lit (by kernel_rfl) (by kernel_rfl) ?_
        change wpStill _ _ (World.drew w4) (fun a' => (_ : Exit → Act → World → Prop) Exit.normal a' (World.drew w4)) _ _
        generalize w4.drew = w5 at *
        repeat still_step
        still_call HL3.out _
        repeat still_step
        still_call HL4.out _
        repeat still_step
        refine wpStill_nil ?_
        generalize X * X1 + Y * Y1 = V at *
        go_wp2_with fail
        go_roundw
        case rel => exact ⟨1, by omega, rfl, int_eq HS.out.symm, HB4.out⟩
        case measure => simp [intOf]; omega
      | k + 1, hk, hlt, c0, c1, j0, j1, HD =>
        have hkb : (((k : Int) + 1) == 0) = false := by simp; omega
        have j2 : (0 : Int) ≤ (k : Int) + 1 := by omega
        have j3 : (k : Int) + 1 < (l.length : Int) := by omega
        clear j0 j1
        have HM : Hid (supF (dotL d) (l.take (k + 1)) < X * X1 + Y * Y1 → supF (dotL d) (l.take (k + 1 + 1)) = X * X1 + Y * Y1) := fun h => by rw [supF_more (dotL d) HD.out (by rw [HV.out]; exact h), HV.out]
        have HN : Hid (X * X1 + Y * Y1 ≤ supF (dotL d) (l.take (k + 1)) → supF (dotL d) (l.take (k + 1 + 1)) = supF (dotL d) (l.take (k + 1))) := fun h => supF_keep (dotL d) HD.out (by rw [HV.out]; omega)
        generalize supF (dotL d) (l.take (k + 1)) = G1 at *
        go_wp2_with fail
        generalize hw4 : wr.alloc (.cells #[.int .i64 p.x, .int .i64 p.y] 31) = w4
        have e0 : w4.drew.cell? ⟨wr.heap.size, 0, none⟩ = some (.int .i64 p.x) := by rw [← hw4]; simp [go_sem]
        have e1 : w4.drew.cell? ⟨wr.heap.size, 1, none⟩ = some (.int .i64 p.y) := by rw [← hw4]; simp [go_sem]
        have HB4 : Hid (Below w.heap.size w w4.drew) := by rw [← hw4]; exact (HB.out.alloc hsz _).drew
        clear hw4 c0 c1
        refine wp_region_still_lit (by kernel_rfl) (by kernel_rfl) ?_
        change wpStill _ _ (World.drew w4) (fun a' => (_ : Exit → Act → World → Prop) Exit.normal a' (World.drew w4)) _ _
        generalize w4.drew = w5 at *
        repeat still_step
        still_call HL3.out _
        repeat still_step
        still_call HL4.out _
        repeat still_step
        refine wpStill_nil ?_
        generalize X * X1 + Y * Y1 = V at *
        by_cases hgt : G1 < V
        · have HS := hid (HM.out hgt)
          clear HM HN
          go_wp2_with fail
          go_roundw
          case rel => exact ⟨k + 1 + 1, by omega, by go_num, int_eq HS.out.symm, HB4.out⟩
          case measure => simp [intOf]; omega
        · have HS := hid (HN.out (by omega))
          clear HM HN
          go_wp2_with fail
          go_roundw
          case rel => exact ⟨k + 1 + 1, by omega, by go_num, int_eq HS.out.symm, HB4.out⟩
          case measure => simp [intOf]; omega
    · obtain rfl : l.length = k := by omega
      rw [List.take_length]
      go_wp2
      go_ret
      exact ⟨rfl, HB.out⟩

set_option maxRecDepth 100000 in
set_option maxHeartbeats 4000000 in
theorem refSupport_any (A : Option Addr) (cap : Nat) (l : List Pt) (d : Pt) (w : World) (h : PRd w w.heap.size A l) (hn : l.length ≤ 1000000) :
    Calls Try.prog 23 #[.slice A l.length cap, .agg #[.int .i64 d.x, .int .i64 d.y]] w fun e w' => e = .returned (.int .i64 (supF (dotL d) l)) ∧ Below w.heap.size w w' := by
  have H := hid h
  clear h
  obtain ⟨X1, hX1⟩ : ∃ X1, lim 1000 d.x = X1 := ⟨_, rfl⟩
  obtain ⟨Y1, hY1⟩ : ∃ Y1, lim 1000 d.y = Y1 := ⟨_, rfl⟩
  have hx1 := lim_in 1000 d.x (by decide)
  have hy1 := lim_in 1000 d.y (by decide)
  rw [hX1] at hx1
  rw [hY1] at hy1
  have HL1 : Hid (∀ w, Calls Try.prog 39 #[.int .i64 d.x, .int .i64 1000] w fun e w' => e = .returned (.int .i64 X1) ∧ w' = w) := fun w => (refLimited_any d.x 1000 w (by decide) (by decide)).mono fun e w' h => ⟨by rw [h.1, hX1], h.2.symm⟩
  have HL2 : Hid (∀ w, Calls Try.prog 39 #[.int .i64 d.y, .int .i64 1000] w fun e w' => e = .returned (.int .i64 Y1) ∧ w' = w) := fun w => (refLimited_any d.y 1000 w (by decide) (by decide)).mono fun e w' h => ⟨by rw [h.1, hY1], h.2.symm⟩
  have HDL : Hid (∀ p : Pt, dotL d p = lim 4194304 p.x * X1 + lim 4194304 p.y * Y1) := fun p => by unfold dotL; rw [hX1, hY1]
  clear hX1 hY1
  go_enter Try.func23, Try.ntmps23
  go_wp2_with fail
  generalize hw2 : w.alloc (.cells #[.int .i64 d.x, .int .i64 d.y] 31) = w2
  have c0 : w2.drew.cell? ⟨w.heap.size, 0, none⟩ = some (.int .i64 d.x) := by rw [← hw2]; simp [go_sem]
  have c1 : w2.drew.cell? ⟨w.heap.size, 1, none⟩ = some (.int .i64 d.y) := by rw [← hw2]; simp [go_sem]
  have HW2 : Hid (Below w.heap.size w w2.drew) := by rw [← hw2]; exact (below1 _ _).drew
  clear hw2
  refine wp_region_still_lit (by kernel_rfl) (by kernel_rfl) ?_
  change wpStill _ _ (World.drew w2) (fun a' => (_ : Exit → Act → World → Prop) Exit.normal a' (World.drew w2)) _ _
  generalize w2.drew = w3 at *
  repeat still_step
  still_call HL1.out _
  repeat still_step
  still_call HL2.out _
  repeat still_step
  refine wpStill_nil ?_
  clear c0 c1
  go_wp2_with fail
  go_loopw [7, 8, 9] (fun x i _ wr => ∃ k : Nat, k ≤ l.length ∧ i = .int .i64 k ∧ x = .int .i64 (supF (dotL d) (l.take k)) ∧ Hid (Below w.heap.size w wr)) (fun _ i _ _ => l.length - (intOf i).toNat)
  case atStart => exact ⟨0, Nat.zero_le _, rfl, rfl, HW2.out⟩
  case round =>
    obtain ⟨k, hk, rfl, rfl, HB⟩ := hrel
    by_cases hlt : k < l.length
    · obtain ⟨b, off, p, rfl, hB, hd, c0, c1⟩ := H.out.at_ HB.out hlt
      obtain ⟨X, hX⟩ : ∃ X, lim 4194304 p.x = X := ⟨_, rfl⟩
      obtain ⟨Y, hY⟩ : ∃ Y, lim 4194304 p.y = Y := ⟨_, rfl⟩
      have hx := lim_in 4194304 p.x (by decide)
      have hy := lim_in 4194304 p.y (by decide)
      rw [hX] at hx
      rw [hY] at hy
      have m1 := mul_in hx hx1
      have m2 := mul_in hy hy1
      have HL3 : Hid (∀ w, Calls Try.prog 39 #[.int .i64 p.x, .int .i64 4194304] w fun e w' => e = .returned (.int .i64 X) ∧ w' = w) := fun w => (refLimited_any p.x 4194304 w (by decide) (by decide)).mono fun e w' h => ⟨by rw [h.1, hX], h.2.symm⟩
      have HL4 : Hid (∀ w, Calls Try.prog 39 #[.int .i64 p.y, .int .i64 4194304] w fun e w' => e = .returned (.int .i64 Y) ∧ w' = w) := fun w => (refLimited_any p.y 4194304 w (by decide) (by decide)).mono fun e w' h => ⟨by rw [h.1, hY], h.2.symm⟩
      have HV : Hid (dotL d p = X * X1 + Y * Y1) := by show _ = _; rw [HDL.out, hX, hY]
      clear hX hY
      have hw1 : IntKind.i64.wrap (X * X1) = X * X1 := by rw [IntWalk.i64_in _ (by omega)]
      have hw2 : IntKind.i64.wrap (Y * Y1) = Y * Y1 := by rw [IntWalk.i64_in _ (by omega)]
      have hw3 : IntKind.i64.wrap (X * X1 + Y * Y1) = X * X1 + Y * Y1 := by rw [IntWalk.i64_in _ (by omega)]
      have j0 : (0 : Int) ≤ (k : Int) := by omega
      have j1 : (k : Int) < (l.length : Int) := by omega
      have hsz := HB.out.size
      have HD := hid hd
      clear hd m1 m2 hx hy
      match k, hk, hlt, c0, c1, j0, j1, HD with
      | 0, hk, hlt, c0, c1, j0, j1, HD =>
        simp only [Nat.zero_mul, Nat.add_zero] at c0 c1
        have HS : Hid (supF (dotL d) (l.take 1) = X * X1 + Y * Y1) := by show _ = _; rw [supF_first _ HD.out, HV.out]
        go_wp2_with fail
        generalize hw4 : wr = w4 at *
        have e0 : w4.drew.cell? ⟨b, off, none⟩ = some (.int .i64 p.x) := c0
        have e1 : w4.drew.cell? ⟨b, off + 1, none⟩ = some (.int .i64 p.y) := c1
        have HB4 : Hid (Below w.heap.size w w4.drew) := HB.out.drew
        clear hw4 c0 c1
        refine wp_region_still_lit (by kernel_rfl) (by kernel_rfl) ?_
        change wpStill _ _ (World.drew w4) (fun a' => (_ : Exit → Act → World → Prop) Exit.normal a' (World.drew w4)) _ _
        generalize w4.drew = w5 at *
        repeat still_step
        still_call HL3.out _
        repeat still_step
        still_call HL4.out _
        repeat still_step
        refine wpStill_nil ?_
        generalize X * X1 + Y * Y1 = V at *
        go_wp2_with fail
        go_roundw
        case rel => exact ⟨1, by omega, rfl, int_eq HS.out.symm, HB4.out⟩
        case measure => simp [intOf]; omega
      | k + 1, hk, hlt, c0, c1, j0, j1, HD =>
        have hkb : (((k : Int) + 1) == 0) = false := by simp; omega
        have j2 : (0 : Int) ≤ (k : Int) + 1 := by omega
        have j3 : (k : Int) + 1 < (l.length : Int) := by omega
        clear j0 j1
        have HM : Hid (supF (dotL d) (l.take (k + 1)) < X * X1 + Y * Y1 → supF (dotL d) (l.take (k + 1 + 1)) = X * X1 + Y * Y1) := fun h => by rw [supF_more (dotL d) HD.out (by rw [HV.out]; exact h), HV.out]
        have HN : Hid (X * X1 + Y * Y1 ≤ supF (dotL d) (l.take (k + 1)) → supF (dotL d) (l.take (k + 1 + 1)) = supF (dotL d) (l.take (k + 1))) := fun h => supF_keep (dotL d) HD.out (by rw [HV.out]; omega)
        generalize supF (dotL d) (l.take (k + 1)) = G1 at *
        go_wp2_with fail
        generalize hw4 : wr = w4 at *
        have e0 : w4.drew.cell? ⟨b, off + (k + 1) * 2, none⟩ = some (.int .i64 p.x) := c0
        have e1 : w4.drew.cell? ⟨b, off + (k + 1) * 2 + 1, none⟩ = some (.int .i64 p.y) := c1
        have HB4 : Hid (Below w.heap.size w w4.drew) := HB.out.drew
        clear hw4 c0 c1
        refine wp_region_still_lit (by kernel_rfl) (by kernel_rfl) ?_
        change wpStill _ _ (World.drew w4) (fun a' => (_ : Exit → Act → World → Prop) Exit.normal a' (World.drew w4)) _ _
        generalize w4.drew = w5 at *
        repeat still_step
        still_call HL3.out _
        repeat still_step
        still_call HL4.out _
        repeat still_step
        refine wpStill_nil ?_
        generalize X * X1 + Y * Y1 = V at *
        by_cases hgt : G1 < V
        · have HS := hid (HM.out hgt)
          clear HM HN
          go_wp2_with fail
          go_roundw
          case rel => exact ⟨k + 1 + 1, by omega, by go_num, int_eq HS.out.symm, HB4.out⟩
          case measure => simp [intOf]; omega
        · have HS := hid (HN.out (by omega))
          clear HM HN
          go_wp2_with fail
          go_roundw
          case rel => exact ⟨k + 1 + 1, by omega, by go_num, int_eq HS.out.symm, HB4.out⟩
          case measure => simp [intOf]; omega
    · obtain rfl : l.length = k := by omega
      rw [List.take_length]
      go_wp2
      go_ret
      exact ⟨rfl, HB.out⟩
end Go.Proofs.Ytopmolpnmpchoaa
