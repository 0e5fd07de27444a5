/- The walk of convex.Sum. -/
import Derived.Test.YtopmolpnmpchoaaCvTop1
namespace Go.Proofs.Ytopmolpnmpchoaa
open Go.RowKit

def SumPost (w : World) (a b : List Pt) (e : Ending) (w' : World) : Prop := (∃ A' c', e = .returned (.tuple #[.slice A' (sumV a b).length c', .int .i64 (sumE a b)]) ∧ PSl w' A' c' (sumV a b)) ∧ Below w.heap.size w w'
theorem sumPost_no {w w' : World} {a b : List Pt} {x : Int} (h : sumE a b = x) (hx : x ≠ 0) (hb : Below w.heap.size w w') : SumPost w a b (.returned (.tuple #[.slice none 0 0, .int .i64 x])) w' := by
  subst h
  refine ⟨⟨none, 0, ?_, ?_⟩, hb⟩
  · rw [sumV_no hx]; rfl
  · rw [sumV_no hx]; exact PSl.none _
theorem sumsP_take {h k : List Pt} {i : Nat} {p : Pt} (hp : h[i]? = some p) : sumsP (h.take (i + 1)) k = sumsP (h.take i) k ++ moved p k := by
  unfold sumsP
  rw [List.take_add_one, hp, List.flatMap_append]
  simp
theorem moved_take {k : List Pt} {j : Nat} {p q : Pt} (hq : k[j]? = some q) : moved p (k.take (j + 1)) = moved p (k.take j) ++ [addP q p] := by
  unfold moved
  rw [List.take_add_one, hq, List.map_append]
  rfl
theorem sumsP_len (h k : List Pt) : (sumsP h k).length = h.length * k.length := by
  induction h with
  | nil => simp [sumsP]
  | cons a r ih =>
    have e : sumsP (a :: r) k = moved a k ++ sumsP r k := rfl
    rw [e, List.length_append, ih, List.length_cons, Nat.add_mul, Nat.one_mul, Nat.add_comm]
    congr 1
    unfold moved; simp
theorem sumE_first {a b : List Pt} (h : hullE a ≠ 0) : sumE a b = hullE a := by unfold sumE; rw [if_pos h]
theorem sumE_second {a b : List Pt} (h : hullE a = 0) (h2 : hullE b ≠ 0) : sumE a b = hullE b := by unfold sumE; rw [if_neg (by omega), if_pos h2]
theorem sumE_range {a b : List Pt} (h : hullE a = 0) (h2 : hullE b = 0) (h3 : allIn (sm a b) = false) : sumE a b = 3 := by unfold sumE; rw [if_neg (by omega), if_neg (by omega), if_pos h3]
theorem sumE_long {a b : List Pt} (h : hullE a = 0) (h2 : hullE b = 0) (h3 : allIn (sm a b) = true) (h4 : 160 < (sm a b).length) : sumE a b = 5 := by unfold sumE; rw [if_neg (by omega), if_neg (by omega), if_neg (by rw [h3]; decide), if_pos h4]

set_option maxRecDepth 100000 in
set_option maxHeartbeats 4000000 in
theorem Sum_any (A B : Option Addr) (ca cb : Nat) (a b : List Pt) (w : World) (h : PSl w A ca a) (h' : PSl w B cb b) (hm : a.length ≤ 9223372036854775807) (hm' : b.length ≤ 9223372036854775807) :
    Calls Try.prog 16 #[.slice A a.length ca, .slice B b.length cb] w fun e w' => SumPost w a b e w' := by
  have H := hid h
  have H' := hid h'
  clear h h'
  obtain ⟨i0, hi0, hz0, hz1, hz2⟩ := info_parts infoPt
  go_enter Try.func16, Try.ntmps16
  go_wp2_with fail
  ((with_reducible refine (Hull_any A ca a _ H.out hm).mono ?_); rintro e w1 ⟨⟨A1, c1, rfl, hs1⟩, hb1⟩)
  have HB1 := hid hb1
  have HS1 := hid hs1
  clear hb1 hs1
  have HV := hid (hullV_len (l := a))
  have HV' := hid (hullV_len (l := b))
  have HI := hid (hullV_in (l := a))
  have HI' := hid (hullV_in (l := b))
  by_cases he : hullE a = 0
  · have HE := hid he
    rw [he]
    clear he
    have H1 := hid (H'.out.keep HB1.out)
    go_wp2_with fail
    ((with_reducible refine (Hull_any B cb b _ H1.out hm').mono ?_); rintro e w2 ⟨⟨A2, c2, rfl, hs2⟩, hb2⟩)
    have HB2 := hid (HB1.out.trans (hb2.mono HB1.out.size))
    have HS2 := hid hs2
    have HS1' := hid (HS1.out.keep hb2)
    clear hb2 hs2 HS1
    by_cases he2 : hullE b = 0
    · have HE2 := hid he2
      rw [he2]
      clear he2
      have HSM : Hid (sm a b = hull1 (sumsP (hullV a) (hullV b))) := rfl
      have HSO : Hid (sumE a b = 0 → sumV a b = sm a b) := fun h => (sumE_ok h).2.2.2.2.1
      have HSR : Hid (allIn (sm a b) = false → sumE a b = 3) := fun h => sumE_range HE.out HE2.out h
      have HSL : Hid (allIn (sm a b) = true → 160 < (sm a b).length → sumE a b = 5) := fun h k => sumE_long HE.out HE2.out h k
      have HSF : Hid (allIn (sm a b) = true → (sm a b).length ≤ 160 → sumE a b = 0) := fun h k => sumE_of HE.out HE2.out h k
      have HBD : Hid (Bd (sumsP (hullV a) (hullV b))) := sums_bd HI.out HI'.out
      have hn1 : (hullV a).length ≤ 160 := HV.out.2
      have hn2 : (hullV b).length ≤ 160 := HV'.out.2
      clear HE HE2 HV HV'
      generalize hullV a = x at *
      generalize hullV b = y at *
      go_wp2_with fail
      go_loopw [9, 11, 34] (fun v _ i wr => ∃ k : Nat, k ≤ x.length ∧ i = .int .i64 k ∧ Hid (wr.ownsRow w2.heap.size 31 2 v (sumsP (x.take k) y).length (pCells (sumsP (x.take k) y))) ∧ Hid (Below w2.heap.size w2 wr)) (fun _ _ i _ => x.length - (intOf i).toNat)
      case atStart => exact ⟨0, Nat.zero_le _, rfl, ⟨by simp [sumsP, pCells], .inl ⟨rfl, rfl⟩⟩, Below.refl _ _⟩
      case round =>
        obtain ⟨k, hk, rfl, HO, HB⟩ := hrel
        by_cases hlt : k < x.length
        · obtain ⟨bx, off, p, rfl, hB, hd, c0, c1⟩ := HS1'.out.rd.at_ HB.out hlt
          have HP := hid (sumsP_take (k := y) hd)
          have hpin := allIn_iff.1 HI.out p (List.mem_of_getElem? hd)
          have hsl := sumsP_len (x.take k) y
          rw [List.length_take, Nat.min_eq_left hk] at hsl
          have hml := Nat.mul_le_mul (show k ≤ 160 by omega) hn2
          clear hd
          generalize hz : sumsP (x.take k) y = z at *
          have HZ := hid hz
          clear hz
          have hzl : z.length ≤ 25600 := by omega
          clear hsl hml
          obtain ⟨wo, rfl⟩ : ∃ wo : World, wo = wr := ⟨_, rfl⟩
          have hso := HB.out.size
          unfold In at hpin
          go_wp2_with fail
          go_loopw [9, 13, 40] (fun v _ i wr => ∃ j : Nat, j ≤ y.length ∧ i = .int .i64 j ∧ Hid (wr.ownsRow w2.heap.size 31 2 v (z ++ moved p (y.take j)).length (pCells (z ++ moved p (y.take j)))) ∧ wr.cell? ⟨wo.heap.size, 0, none⟩ = some (.int .i64 p.x) ∧ wr.cell? ⟨wo.heap.size, 1, none⟩ = some (.int .i64 p.y) ∧ wo.heap.size < wr.heap.size ∧ Hid (v.ownBlock ≠ some wo.heap.size) ∧ Hid (Below w2.heap.size w2 wr)) (fun _ _ i _ => y.length - (intOf i).toNat)
          case atStart =>
            refine ⟨0, Nat.zero_le _, rfl, ?_, by simp [go_sem], by simp [go_sem], by simp, ?_, HB.out.alloc hso _⟩
            · simp only [List.take_zero, moved, List.map_nil, List.append_nil]; exact HO.out.alloc _
            · intro e; have := (HO.out.lt _ e).2; omega
          case round =>
            obtain ⟨j, hj, rfl, HO2, e0, e1, hsw, HNE, HB2⟩ := hrel
            by_cases hlt2 : j < y.length
            · obtain ⟨by_, offy, q, rfl, hBy, hd2, d0, d1⟩ := HS2.out.rd.at_ HB2.out hlt2
              have HQ := hid (moved_take (p := p) hd2)
              have hqin := allIn_iff.1 HI'.out q (List.mem_of_getElem? hd2)
              unfold In at hqin
              clear hd2
              have hml : (z ++ moved p (y.take j)).length ≤ 25600 + 160 := by unfold moved; simp; omega
              obtain ⟨zz, hzz⟩ : ∃ zz, z ++ moved p (y.take j) = zz := ⟨_, rfl⟩
              rw [hzz] at HO2 hml
              have HZZ := hid hzz
              clear hzz
              have hs2 := HB2.out.size
              go_wp2_with (at_builtin; refine wpList_append_lies _ rfl (.tmp 44) (.tmp 56) 22 rfl w2.heap.size 31 i0 _ 2 16 Try.underlying22 hi0 hz0 hz1 hz2 rfl (by decide) _ _ _ rfl ((HO2.out.alloc _).alloc _) ⟨wr.heap.size + 1, 0, none⟩ 1 1 [.int .i64 (p.x + q.x), .int .i64 (p.y + q.y)] rfl rfl (by have := cell_two_new (wr.alloc (.cells #[.int .i64 q.x, .int .i64 q.y] 31)) (.int .i64 (p.x + q.x)) (.int .i64 (p.y + q.y)) 31; simpa using this) (by intro u hu; simp at hu; rcases hu with rfl | rfl <;> rfl) (by decide) (by unfold maxLen; omega) (by omega) (by simp; omega) (wr.heap.size + 1 + 1) (by simp) ?_)
              intro g cg w' hown' hgrow hat hgl
              have HO' : Hid (w'.ownsRow w2.heap.size 31 2 (.slice (some ⟨g, 0, none⟩) (zz.length + 1) cg) (z ++ moved p (y.take (j + 1))).length (pCells (z ++ moved p (y.take (j + 1))))) := by
                show World.ownsRow _ _ _ _ _ _ _
                rw [HQ.out, ← List.append_assoc, HZZ.out, pCells_snoc, List.length_append]
                unfold addP
                rw [Int.add_comm q.x, Int.add_comm q.y]
                exact hown'
              have HB' : Hid (Below w2.heap.size w2 w') :=
                own_grow_below ((HO2.out.alloc _).alloc _) ((HB2.out.alloc hs2 _).alloc (by simp; omega) _) (Nat.le_refl _) (by simp; omega) hgrow
              have e2 : w'.cell? ⟨wo.heap.size, 0, none⟩ = some (.int .i64 p.x) := by
                rw [hgrow.cell_far ⟨wo.heap.size, 0, none⟩ (by simp; omega) (fun e => HNE.out e.symm)]
                exact Lib.cell?_alloc_some _ (Lib.cell?_alloc_some _ e0)
              have e3 : w'.cell? ⟨wo.heap.size, 1, none⟩ = some (.int .i64 p.y) := by
                rw [hgrow.cell_far ⟨wo.heap.size, 1, none⟩ (by simp; omega) (fun e => HNE.out e.symm)]
                exact Lib.cell?_alloc_some _ (Lib.cell?_alloc_some _ e1)
              have HNE' : Hid ((Value.slice (some ⟨g, 0, none⟩) (zz.length + 1) cg).ownBlock ≠ some wo.heap.size) := by
                intro e
                have eg : g = wo.heap.size := by injection e
                rcases hat with h1 | h1
                · exact HNE.out (by rw [h1, eg])
                · omega
              have hsz' : wo.heap.size < w'.heap.size := by have := hgrow.size; simp at this; omega
              clear hown' hgrow hat
              go_wp2_with fail
              go_roundw
              case rel => exact ⟨j + 1, by omega, by go_num, HO'.out, e2, e3, hsz', HNE'.out, HB'.out⟩
              case measure => simp [intOf]; omega
            · obtain rfl : y.length = j := by omega
              rw [List.take_length] at HO2
              go_wp2_with fail
              go_roundw
              case rel => exact ⟨k + 1, by omega, by go_num, by rw [HP.out]; exact HO2.out, HB2.out⟩
              case measure => simp [intOf]; omega
        · obtain rfl : x.length = k := by omega
          rw [List.take_length] at HO
          have hsl : (sumsP x y).length ≤ 25600 := by rw [sumsP_len]; exact Nat.mul_le_mul hn1 hn2
          obtain ⟨A3, c3, rfl, _, _⟩ := own_slice HO.out
          have HS3 := hid (PSl.of_own HO.out)
          have HB3 := hid (HB2.out.trans (HB.out.mono HB2.out.size))
          generalize hz : sumsP x y = z at *
          have HZ := hid hz
          clear hz
          go_wp2_with fail
          ((with_reducible refine (hull_any A3 c3 z _ HS3.out HBD.out (by omega)).mono ?_); rintro e w4 ⟨⟨A4, c4, rfl, hs4⟩, hb4⟩)
          rw [← HSM.out] at hs4 ⊢
          have HB4 := hid (HB3.out.trans (hb4.mono HB3.out.size))
          have HS4 := hid hs4
          have hsl4 : (sm a b).length ≤ 25600 := by rw [HSM.out]; exact Nat.le_trans (hull1_len HBD.out) hsl
          clear hb4 hs4 HSM
          generalize sm a b = s at *
          go_wp2_with fail
          ((with_reducible refine (containsOut_any A4 c4 s _ HS4.out.rd (by omega)).mono ?_); rintro e w5 ⟨rfl, hb5⟩)
          have HB5 := hid (HB4.out.trans (hb5.mono HB4.out.size))
          have HS5 := hid (HS4.out.keep hb5)
          clear hb5 HS4
          cases hall : allIn s with
          | false =>
            have HE := hid (HSR.out hall)
            clear hall HSR HSL HSF HSO
            go_wp2
            go_ret2
            exact sumPost_no HE.out (by decide) HB5.out
          | true =>
            by_cases hlong : 160 < s.length
            · have HE := hid (HSL.out hall hlong)
              clear hall HSR HSL HSF HSO
              go_wp2
              go_ret2
              exact sumPost_no HE.out (by decide) HB5.out
            · have HE := hid (HSF.out hall (by omega))
              have HV := hid (HSO.out HE.out)
              clear hall HSR HSL HSF HSO
              go_wp2
              go_ret2
              refine ⟨⟨A4, c4, ?_, ?_⟩, HB5.out⟩
              · rw [HE.out, HV.out]; rfl
              · rw [HV.out]; exact HS5.out
    · have HE2 := hid (sumE_second HE.out he2)
      have hb : (hullE b == 0) = false := by simp [he2]
      have HNZ := hid he2
      clear he2
      generalize hullE b = er at *
      go_wp2
      go_ret2
      exact sumPost_no HE2.out HNZ.out HB2.out
  · have HE := hid (sumE_first (b := b) he)
    have hb : (hullE a == 0) = false := by simp [he]
    have HNZ := hid he
    clear he
    generalize hullE a = er at *
    go_wp2
    go_ret2
    exact sumPost_no HE.out HNZ.out HB1.out
end Go.Proofs.Ytopmolpnmpchoaa
