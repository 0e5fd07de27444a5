/- slices.Compact as convex.hull calls it: the row keeps each spot that differs from the one before it. -/
import Derived.Test.YtopmolpnmpchoaaCvSame
namespace Go.Proofs.Ytopmolpnmpchoaa
open Go.RowKit

theorem own_at {w : World} {base e g n cap : Nat} {l : List Pt} (h : w.ownsRow base e 2 (.slice (some ⟨g, 0, none⟩) n cap) n (pCells l)) {i : Nat} {p : Pt} (hi : l[i]? = some p) :
    w.cell? ⟨g, i * 2, none⟩ = some (.int .i64 p.x) ∧ w.cell? ⟨g, i * 2 + 1, none⟩ = some (.int .i64 p.y) := by
  obtain ⟨h1, h2⟩ := pCells_at l i p hi
  have hl : (pCells l).length = n * 2 := h.1
  have k1 := (List.getElem?_eq_some_iff.1 h1).1
  have k2 := (List.getElem?_eq_some_iff.1 h2).1
  exact ⟨(h.cellAt _ (by omega)).trans h1, (h.cellAt _ (by omega)).trans h2⟩
/-- The row while it is compacted: what is kept of the first m, then what lay there. -/
def mid (l : List Pt) (m : Nat) : List Pt := uq (l.take m) ++ l.drop (uq (l.take m)).length
theorem uq_take_le (l : List Pt) (m : Nat) : (uq (l.take m)).length ≤ m := Nat.le_trans (uq_len _ _ rfl) (List.length_take_le _ _)
theorem mid_len {l : List Pt} {m : Nat} (hm : m ≤ l.length) : (mid l m).length = l.length := by
  have := uq_take_le l m
  unfold mid; simp; omega
theorem mid_at {l : List Pt} {m i : Nat} (hm : (uq (l.take m)).length ≤ i) : (mid l m)[i]? = l[i]? := by
  unfold mid
  rw [List.getElem?_append_right hm, List.getElem?_drop]
  congr 1; omega
theorem mid_skip {l : List Pt} {m : Nat} (h : uq (l.take (m + 1)) = uq (l.take m)) : mid l (m + 1) = mid l m := by unfold mid; rw [h]
theorem mid_keep {l : List Pt} {m : Nat} {p : Pt} (h : uq (l.take (m + 1)) = uq (l.take m) ++ [p]) (hm : (uq (l.take m)).length < l.length) : mid l (m + 1) = (mid l m).set (uq (l.take m)).length p := by
  unfold mid
  rw [h, List.set_append_right _ _ (Nat.le_refl _), Nat.sub_self, List.append_assoc]
  congr 1
  rw [List.length_append, List.length_singleton, List.drop_eq_getElem_cons hm]
  rfl

set_option maxRecDepth 100000 in
set_option maxHeartbeats 4000000 in
theorem compact_any (base : Nat) (l : List Pt) (A : Option Addr) (cap : Nat) (w : World) (hown : w.ownsRow base 31 2 (.slice A l.length cap) l.length (pCells l)) (hn : l.length ≤ 1000000) :
    Calls Try.prog 44 #[.slice A l.length cap] w fun e w' => e = .returned (.slice A (uq l).length cap) ∧ w'.ownsRow base 31 2 (.slice A (uq l).length cap) (uq l).length (pCells (uq l)) ∧ Below base w w' := by
  by_cases hl : l.length < 2
  · have e : uq l = l := by
      match l, hl with
      | [], _ => rfl
      | [a], _ => rfl
    have HO := hid hown
    rw [e]
    clear hown
    go_enter Try.func44, Try.ntmps44
    go_wp2
    go_ret
    exact ⟨rfl, HO.out, Below.refl _ _⟩
  · obtain ⟨g, cap', hv, hbase, hlt⟩ := hown.form (by omega)
    have hA : A = some ⟨g, 0, none⟩ := by injection hv
    subst hA
    clear hv
    have HO := hid hown
    obtain ⟨_, _, _, _, hcap, hmx⟩ := own_block hown
    clear hown
    go_enter Try.func44, Try.ntmps44
    go_wp2_with fail
    go_loopw [3] (fun i wr => ∃ k : Nat, k + 1 ≤ l.length ∧ i = .int .i64 ((k : Int) + 1) ∧ Hid (uq (l.take (k + 1)) = l.take (k + 1)) ∧ Hid (wr.ownsRow base 31 2 (.slice (some ⟨g, 0, none⟩) l.length cap) l.length (pCells l)) ∧ Hid (Below base w wr)) (fun i _ => l.length - (intOf i).toNat)
    case atStart => exact ⟨0, by omega, rfl, by show _ = _; rw [uq_one (List.getElem?_eq_getElem (by omega)), List.take_add_one, List.getElem?_eq_getElem (by omega)]; rfl, HO.out, Below.refl _ _⟩
    case round =>
      obtain ⟨k, hk, rfl, HU, HO, HB⟩ := hrel
      have hw1 : IntKind.i64.wrap ((k : Int) + 1 - 1) = k := by rw [IntWalk.i64_in _ (by omega)]; omega
      have i0 : (0 : Int) ≤ (k : Int) := by omega
      have i1 : (k : Int) < (l.length : Int) := by omega
      by_cases hlt1 : k + 1 < l.length
      · obtain ⟨p, hp⟩ : ∃ p, l[k + 1]? = some p := ⟨_, List.getElem?_eq_getElem hlt1⟩
        obtain ⟨q, hq⟩ : ∃ q, l[k]? = some q := ⟨_, List.getElem?_eq_getElem (by omega)⟩
        obtain ⟨c0, c1⟩ := own_at HO.out hp
        obtain ⟨d0, d1⟩ := own_at HO.out hq
        have HP := hid hp
        have HQ := hid hq
        clear hp hq
        have i2 : (0 : Int) ≤ (k : Int) + 1 := by omega
        have i3 : (k : Int) + 1 < (l.length : Int) := by omega
        by_cases he : p = q
        · subst he
          have HS := hid (uq_same HQ.out HP.out rfl)
          go_wp2_with fail
          go_quiet (fail)
          go_wp2_with fail
          clear c0 c1 d0 d1
          obtain ⟨w1, hw1'⟩ : ∃ w1, w1 = wr.drewN nq := ⟨_, rfl⟩
          rw [← hw1']
          have HO1 : Hid (w1.ownsRow base 31 2 (.slice (some ⟨g, 0, none⟩) l.length cap) l.length (pCells l)) := by rw [hw1']; exact HO.out
          have HB1 : Hid (Below base w w1) := by rw [hw1']; exact below_drewN HB.out _
          clear hw1' HO HB
          go_loopw [3, 5] (fun s3 s5 wr => ∃ j kk : Nat, k + 2 + j ≤ l.length ∧ s3 = .int .i64 (kk : Int) ∧ s5 = .int .i64 ((j : Int) + 1) ∧ Hid (kk = (uq (l.take (k + 2 + j))).length) ∧ kk < k + 2 + j ∧
            Hid (wr.ownsRow base 31 2 (.slice (some ⟨g, 0, none⟩) l.length cap) l.length (pCells (mid l (k + 2 + j)))) ∧ Hid (Below base w wr)) (fun _ s5 _ => l.length - (intOf s5).toNat)
          case atStart =>
            have e1 : uq (l.take (k + 2)) = l.take (k + 1) := by have := HS.out; rw [HU.out] at this; exact this
            have e2 : (uq (l.take (k + 2))).length = k + 1 := by rw [e1]; simp; omega
            refine ⟨0, k + 1, by omega, by simp, by simp, by show _ = _; rw [Nat.add_zero, e2], by omega, ?_, HB1.out⟩
            have e3 : mid l (k + 2) = l := by unfold mid; rw [e2, e1, List.take_append_drop]
            rw [Nat.add_zero, e3]
            exact HO1.out
          case round =>
            obtain ⟨j, kk, hj, rfl, rfl, HKK, hkk, HO2, HB2⟩ := hrel
            have hw2 : IntKind.i64.wrap ((j : Int) + 1 - 1) = j := by rw [IntWalk.i64_in _ (by omega)]; omega
            have j0 : (0 : Int) ≤ (j : Int) := by omega
            have j1 : (0 : Int) ≤ (j : Int) + 1 := by omega
            have j2 : (j : Int) < ((l.length - (k + 1) : Nat) : Int) := by omega
            by_cases hlt2 : k + 2 + j < l.length
            · obtain ⟨p', hp'⟩ : ∃ p', l[k + 1 + j + 1]? = some p' := ⟨_, List.getElem?_eq_getElem (by omega)⟩
              obtain ⟨q', hq'⟩ : ∃ q', l[k + 1 + j]? = some q' := ⟨_, List.getElem?_eq_getElem (by omega)⟩
              obtain ⟨r', hr'⟩ : ∃ r', l[kk]? = some r' := ⟨_, List.getElem?_eq_getElem (by omega)⟩
              have HT : Hid (k + 2 + j = k + 1 + j + 1) := by show _ = _; omega
              obtain ⟨c0, c1⟩ := own_at HO2.out (i := k + 1 + j + 1) (p := p') (by rw [mid_at (by have := HKK.out; omega)]; exact hp')
              obtain ⟨d0, d1⟩ := own_at HO2.out (i := k + 1 + j) (p := q') (by rw [mid_at (by have := HKK.out; omega)]; exact hq')
              obtain ⟨r0, r1⟩ := own_at HO2.out (i := kk) (p := r') (by rw [mid_at (by have := HKK.out; omega)]; exact hr')
              have f0 := HO2.out.frozenAt (kk * 2)
              have f1 := HO2.out.frozenAt (kk * 2 + 1)
              rw [show (k + 1 + j + 1) * 2 = (k + 1) * 2 + (j + 1) * 2 by omega] at c0 c1
              rw [show (k + 1 + j) * 2 = (k + 1) * 2 + j * 2 by omega] at d0 d1
              have HP' := hid hp'
              have HQ' := hid hq'
              clear hp' hq' hr'
              have j3 : (j : Int) + 1 < ((l.length - (k + 1) : Nat) : Int) := by omega
              have kk0 : (0 : Int) ≤ (kk : Int) := by omega
              have kk1 : (kk : Int) < (l.length : Int) := by omega
              by_cases he' : p' = q'
              · subst he'
                have HS2 := hid (uq_same HQ'.out HP'.out rfl)
                go_wp2_with fail
                go_quiet (fail)
                go_wp2_with fail
                go_roundw
                case rel =>
                  have e1 : uq (l.take (k + 2 + (j + 1))) = uq (l.take (k + 2 + j)) := by
                    have := HS2.out
                    rw [show k + 1 + j + 1 + 1 = k + 2 + (j + 1) by omega, show k + 1 + j + 1 = k + 2 + j by omega] at this
                    exact this
                  refine ⟨j + 1, kk, by omega, rfl, by go_num, by show _ = _; rw [e1]; exact HKK.out, by omega, ?_, below_drewN HB2.out _⟩
                  show World.ownsRow _ _ _ _ _ _ _
                  rw [show k + 2 + (j + 1) = k + 2 + j + 1 by omega, mid_skip (by rw [show k + 2 + j + 1 = k + 2 + (j + 1) by omega]; exact e1)]
                  exact HO2.out
                case measure => simp [intOf]; omega
              · have HS2 := hid (uq_new HQ'.out HP'.out he')
                have key : ((p'.x == q'.x) = false) ∨ (p'.x = q'.x ∧ (p'.y == q'.y) = false) := by
                  by_cases hx : p'.x = q'.x
                  · right
                    refine ⟨hx, ?_⟩
                    simp only [beq_eq_false_iff_ne]
                    exact fun hy => he' (Pt.same hx hy)
                  · left; simp only [beq_eq_false_iff_ne]; exact hx
                clear he'
                have HE : Hid (uq (l.take (k + 2 + j + 1)) = uq (l.take (k + 2 + j)) ++ [p']) := by
                    have := HS2.out
                    rw [show k + 1 + j + 1 + 1 = k + 2 + j + 1 by omega, show k + 1 + j + 1 = k + 2 + j by omega] at this
                    exact this
                have HN : Hid (∀ n, (((wr.drewN n).setCell ⟨g, kk * 2, none⟩ (.int .i64 p'.x)).setCell ⟨g, kk * 2 + 1, none⟩ (.int .i64 p'.y)).ownsRow base 31 2 (.slice (some ⟨g, 0, none⟩) l.length cap) l.length (pCells (mid l (k + 2 + (j + 1))))) := by
                  show ∀ n, World.ownsRow _ _ _ _ _ _ _
                  intro n
                  rw [show k + 2 + (j + 1) = k + 2 + j + 1 by omega, mid_keep HE.out (by rw [← HKK.out]; omega), ← HKK.out]
                  exact own_put (own_drewN HO2.out n) kk p'
                have HBN : Hid (∀ n, Below base w (((wr.drewN n).setCell ⟨g, kk * 2, none⟩ (.int .i64 p'.x)).setCell ⟨g, kk * 2 + 1, none⟩ (.int .i64 p'.y))) := fun n => ((below_drewN HB2.out n).setCell hbase _).setCell hbase _
                rcases key with hx | ⟨hx, hy⟩
                · go_wp2_with fail
                  go_quiet (fail)
                  go_wp2_with fail
                  go_roundw
                  case rel => exact ⟨j + 1, kk + 1, by omega, by go_num, by go_num, by show _ = _; rw [show k + 2 + (j + 1) = k + 2 + j + 1 by omega, HE.out, List.length_append, ← HKK.out]; rfl, by omega, HN.out _, HBN.out _⟩
                  case measure => simp [intOf]; omega
                · rw [← hx] at d0
                  have HX := hid hx
                  clear hx
                  go_wp2_with fail
                  go_quiet (fail)
                  go_wp2_with fail
                  go_roundw
                  case rel => exact ⟨j + 1, kk + 1, by omega, by go_num, by go_num, by show _ = _; rw [show k + 2 + (j + 1) = k + 2 + j + 1 by omega, HE.out, List.length_append, ← HKK.out]; rfl, by omega, HN.out _, HBN.out _⟩
                  case measure => simp [intOf]; omega
            · have hend : k + 2 + j = l.length := by omega
              have hcl : ∀ ty, (Builtin.clear_ #[22] ty #[.slice (some ⟨g, kk * 2, none⟩) (l.length - kk) (cap - kk)]).run Try.prog wr = .ok (.tuple #[]) (wr.setCells g (kk * 2) (zeros (l.length - kk))) :=
                fun ty => run_clear2 wr ty g (kk * 2) _ _ (by omega) (fun i hi => by
                  have hcx := HO2.out.cellAt (kk * 2 + i) (by omega)
                  rw [hcx, List.getElem?_eq_getElem (by rw [pCells_len, mid_len (by omega)]; omega)]; rfl) (fun i hi => HO2.out.frozenAt _)
              rw [hend] at HKK HO2
              rw [List.take_length] at HKK
              have HF : Hid ((wr.setCells g (kk * 2) (zeros (l.length - kk))).ownsRow base 31 2 (.slice (some ⟨g, 0, none⟩) kk cap) kk (pCells (uq l))) := by
                obtain ⟨ys, h1, h2⟩ := own_sets (zeros (l.length - kk)) (kk * 2) wr _ HO2.out
                have h3 := own_shrink h1 (m := kk) (by omega)
                rw [h2, pCells_take] at h3
                unfold mid at h3
                rw [List.take_length, List.take_append_of_le_length (by rw [← HKK.out]; exact Nat.le_refl _), List.take_of_length_le (by rw [← HKK.out]; exact Nat.le_refl _)] at h3
                exact h3
              have HBF : Hid (Below base w (wr.setCells g (kk * 2) (zeros (l.length - kk)))) := below_sets hbase _ _ _ _ HB2.out
              have kk0 : (0 : Int) ≤ (kk : Int) := by omega
              have kk1 : (kk : Int) ≤ (l.length : Int) := by omega
              go_wp2
              go_ret
              rw [← HKK.out]
              exact ⟨rfl, HF.out, HBF.out⟩
        · have HS := hid (uq_new HQ.out HP.out he)
          have key : ((p.x == q.x) = false) ∨ (p.x = q.x ∧ (p.y == q.y) = false) := by
            by_cases hx : p.x = q.x
            · right
              refine ⟨hx, ?_⟩
              simp only [beq_eq_false_iff_ne]
              exact fun hy => he (Pt.same hx hy)
            · left; simp only [beq_eq_false_iff_ne]; exact hx
          clear he
          have HE : Hid (uq (l.take (k + 1 + 1)) = l.take (k + 1 + 1)) := by
            show _ = _
            rw [HS.out, HU.out, List.take_add_one (i := k + 1), HP.out]; rfl
          rcases key with hx | ⟨hx, hy⟩
          · go_wp2_with fail
            go_quiet (fail)
            go_wp2_with fail
            go_roundw
            case rel => exact ⟨k + 1, by omega, by go_num, HE.out, HO.out, below_drewN HB.out _⟩
            case measure => simp [intOf]; omega
          · rw [← hx] at d0
            have HX := hid hx
            clear hx
            go_wp2_with fail
            go_quiet (fail)
            go_wp2_with fail
            go_roundw
            case rel => exact ⟨k + 1, by omega, by go_num, HE.out, HO.out, below_drewN HB.out _⟩
            case measure => simp [intOf]; omega
      · have hkl : k + 1 = l.length := by omega
        have HE : Hid (uq l = l) := by have := HU.out; rw [hkl, List.take_length] at this; exact this
        go_wp2
        go_ret
        rw [HE.out]
        exact ⟨rfl, HO.out, HB.out⟩
end Go.Proofs.Ytopmolpnmpchoaa
