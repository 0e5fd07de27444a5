/- The walks of Negate and Support, of the program and of the reference. -/
import Derived.Test.YtopmolpnmpchoaaCvHull
import Derived.Laws.MakeOwn
namespace Go.Proofs.Ytopmolpnmpchoaa
open Go.RowKit

def negW (p : Pt) : Pt := ⟨wrap64 (-p.x), wrap64 (-p.y)⟩
theorem negW_in {p : Pt} (h : In 4194304 p) : negW p = neg p := by
  unfold In at h
  unfold negW neg
  have e : ∀ n : Int, -4194304 ≤ n → n ≤ 4194304 → wrap64 n = n := fun n h1 h2 => by unfold wrap64; omega
  rw [e _ (by omega) (by omega), e _ (by omega) (by omega)]
theorem pCells_rep (n : Nat) : (madeCells #[.int .i64 0, .int .i64 0] (n * 2)).toList = pCells (List.replicate n ⟨0, 0⟩) := by
  apply List.ext_getElem?
  intro j
  by_cases hj : j < n * 2
  · have hq : (List.replicate n (⟨0, 0⟩ : Pt))[j / 2]? = some ⟨0, 0⟩ := by rw [List.getElem?_replicate, if_pos (by omega)]
    obtain ⟨h1, h2⟩ := pCells_at _ (j / 2) _ hq
    rcases Nat.mod_two_eq_zero_or_one j with hm | hm
    · rw [show j / 2 * 2 = j from by omega] at h1; rw [h1]; simp [madeCells, hj, hm]
    · rw [show j / 2 * 2 + 1 = j from by omega] at h2; rw [h2]; simp [madeCells, hj, hm]
  · rw [List.getElem?_eq_none (by simp [madeCells]; omega), List.getElem?_eq_none (by rw [pCells_len]; simp; omega)]
theorem mkPts (n : Nat) (h : n ≤ 1000000) (w : World) :
    (Instr.makeSlice 22 (.int .i64 (n : Int)) (.int .i64 (n : Int))).run Try.prog w = .ok (.slice (some ⟨w.heap.size, 0, none⟩) n n) (w.alloc (.cells (madeCells #[.int .i64 0, .int .i64 0] (n * 2)) 31)) := by
  obtain ⟨i0, hi0, hz0, hz1, hz2⟩ := info_parts infoPt
  have := run_make (P := Try.prog) w 22 31 i0 _ Try.underlying22 hi0 hz0 .i64 .i64 (n : Int) (n : Int) (by omega) (by omega) (by rw [hz2]; omega) (by omega)
  rw [this, hz1, Int.toNat_natCast]
  rfl
theorem own_made (n : Nat) (h : n ≤ 1000000) (w : World) : (w.alloc (.cells (madeCells #[.int .i64 0, .int .i64 0] (n * 2)) 31)).ownsRow w.heap.size 31 2 (.slice (some ⟨w.heap.size, 0, none⟩) n n) n (pCells (List.replicate n ⟨0, 0⟩)) := by
  rw [← pCells_rep]
  exact World.ownsRow_lit w _ n (Nat.le_refl _) (by unfold maxLen; omega) (by simp [madeCells])
def half (f : Pt → Pt) (l : List Pt) (k : Nat) : List Pt := (l.take k).map f ++ List.replicate (l.length - k) ⟨0, 0⟩
theorem half_step {f : Pt → Pt} {l : List Pt} {k : Nat} {p : Pt} (h : l[k]? = some p) : half f l (k + 1) = (half f l k).set k (f p) := by
  have hk := (List.getElem?_eq_some_iff.1 h).1
  have hl : ((l.take k).map f).length = k := by simp; omega
  unfold half
  rw [List.set_append_right _ _ (by omega), hl, Nat.sub_self, List.take_add_one, h, show l.length - k = (l.length - (k + 1)) + 1 by omega, List.replicate_succ]
  simp
theorem half_len (f : Pt → Pt) (l : List Pt) {k : Nat} (hk : k ≤ l.length) : (half f l k).length = l.length := by unfold half; simp; omega

set_option maxRecDepth 100000 in
set_option maxHeartbeats 1000000 in
theorem negate_any (A : Option Addr) (cap : Nat) (l : List Pt) (w : World) (h : PRd w w.heap.size A l) (hn : l.length ≤ 1000000) :
    Calls Try.prog 20 #[.slice A l.length cap] w fun e w' => (∃ A' c', e = .returned (.slice A' (l.map negW).length c') ∧ PSl w' A' c' (l.map negW)) ∧ Below w.heap.size w w' := by
  have H := hid h
  clear h
  have hmk := mkPts l.length hn
  have HOM := hid (own_made l.length hn w)
  go_enter Try.func20, Try.ntmps20
  go_wp2_with fail
  go_loopw [4, 5, 11] (fun _ _ i wr => ∃ k : Nat, k ≤ l.length ∧ i = .int .i64 k ∧ Hid (wr.ownsRow w.heap.size 31 2 (.slice (some ⟨w.heap.size, 0, none⟩) l.length l.length) l.length (pCells (half negW l k))) ∧ Hid (Below w.heap.size w wr) ∧ w.heap.size < wr.heap.size) (fun _ _ i _ => l.length - (intOf i).toNat)
  case atStart => exact ⟨0, Nat.zero_le _, rfl, by show World.ownsRow _ _ _ _ _ _ _; unfold half; simpa using HOM.out, below1 _ _, by simp⟩
  case round =>
    obtain ⟨k, hk, rfl, HO, HB, hsw⟩ := hrel
    by_cases hlt : k < l.length
    · obtain ⟨b, off, p, rfl, hB, hd, c0, c1⟩ := H.out.at_ HB.out hlt
      have HS := hid (half_step (f := negW) hd)
      have hql : k < (half negW l k).length := by rw [half_len _ _ hk]; exact hlt
      obtain ⟨z, hz⟩ : ∃ z, (half negW l k)[k]? = some z := ⟨_, List.getElem?_eq_getElem hql⟩
      obtain ⟨d0, d1⟩ := own_at HO.out hz
      have f0 := HO.out.frozenAt (k * 2)
      have f1 := HO.out.frozenAt (k * 2 + 1)
      clear hd hz hql hmk
      have i0 : (0 : Int) ≤ (k : Int) := by omega
      have i1 : (k : Int) < (l.length : Int) := by omega
      have n1 : ¬ w.heap.size = wr.heap.size := by omega
      go_wp2_with fail
      go_roundw
      case rel =>
        refine ⟨k + 1, by omega, by go_num, ?_, ?_, by simp; omega⟩
        · rw [HS.out]
          exact (own_put HO.out k (negW p)).alloc _
        · exact ((HB.out.setCell (p := ⟨w.heap.size, _, none⟩) (Nat.le_refl _) _).setCell (p := ⟨w.heap.size, _, none⟩) (Nat.le_refl _) _).alloc (by simp; omega) _
      case measure => simp [intOf]; omega
    · obtain rfl : l.length = k := by omega
      have HE : Hid (half negW l l.length = l.map negW) := by show _ = _; unfold half; simp
      rw [HE.out] at HO
      clear hmk
      have hlm : (l.map negW).length = l.length := List.length_map ..
      go_wp2
      go_ret
      rw [hlm]
      exact ⟨⟨_, _, rfl, PSl.of_own (n := l.length) (by rw [hlm]; exact HO.out)⟩, HB.out⟩
end Go.Proofs.Ytopmolpnmpchoaa
