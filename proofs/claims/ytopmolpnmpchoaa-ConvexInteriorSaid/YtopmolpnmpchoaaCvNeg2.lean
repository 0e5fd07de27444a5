/- The walk of the reference's Negate. -/
import Derived.Test.YtopmolpnmpchoaaCvNeg
import Derived.Deep.RegionLaw
namespace Go.Proofs.Ytopmolpnmpchoaa
open Go.RowKit

theorem map_take_snoc (f : Pt → Pt) {l : List Pt} {k : Nat} {p : Pt} (h : l[k]? = some p) : (l.take (k + 1)).map f = (l.take k).map f ++ [f p] := by
  rw [List.take_add_one, h, List.map_append]; rfl
set_option maxRecDepth 100000 in
set_option maxHeartbeats 4000000 in
theorem refNegate_any (A : Option Addr) (cap : Nat) (l : List Pt) (w : World) (h : PRd w w.heap.size A l) (hn : l.length ≤ 1000000) :
    Calls Try.prog 21 #[.slice A l.length cap] w fun e w' => (∃ A' c', e = .returned (.slice A' (l.map negW).length c') ∧ PSl w' A' c' (l.map negW)) ∧ Below w.heap.size w w' := by
  have H := hid h
  clear h
  obtain ⟨i0, hi0, hz0, hz1, hz2⟩ := info_parts infoPt
  go_enter Try.func21, Try.ntmps21
  go_wp2_with fail
  go_loopw [3, 4] (fun v i wr => ∃ k : Nat, k ≤ l.length ∧ i = .int .i64 k ∧ Hid (wr.ownsRow w.heap.size 31 2 v ((l.take k).map negW).length (pCells ((l.take k).map negW))) ∧ Hid (Below w.heap.size w wr)) (fun _ i _ => l.length - (intOf i).toNat)
  case atStart => exact ⟨0, Nat.zero_le _, rfl, ⟨by simp [pCells], .inl ⟨rfl, rfl⟩⟩, Below.refl _ _⟩
  case round =>
    obtain ⟨k, hk, rfl, HO, HB⟩ := hrel
    by_cases hlt : k < l.length
    · obtain ⟨b, off, p, rfl, hB, hd, c0, c1⟩ := H.out.at_ HB.out hlt
      have HS := hid (map_take_snoc negW hd)
      clear hd
      obtain ⟨nx, hnx⟩ : ∃ nx, nx = wrap64 (-p.x) := ⟨_, rfl⟩
      obtain ⟨ny, hny⟩ : ∃ ny, ny = wrap64 (-p.y) := ⟨_, rfl⟩
      have hwx : IntKind.i64.wrap (-p.x) = nx := (IntWalk.i64_left _).trans hnx.symm
      have hwy : IntKind.i64.wrap (-p.y) = ny := (IntWalk.i64_left _).trans hny.symm
      have HNP : Hid (negW p = ⟨nx, ny⟩) := by show _ = _; rw [hnx, hny]; rfl
      clear hnx hny
      have hzl : ((l.take k).map negW).length = k := by simp; omega
      rw [hzl] at HO
      generalize (l.take k).map negW = z at *
      obtain ⟨A1, cc, rfl, _, _⟩ := own_slice HO.out
      have i1 : (0 : Int) ≤ (k : Int) := by omega
      have i2 : (k : Int) < (l.length : Int) := by omega
      have hsz := HB.out.size
      have HOA : Hid ((wr.alloc (.cells #[.int .i64 nx, .int .i64 ny] 31)).ownsRow w.heap.size 31 2 (.slice A1 k cc) k (pCells z)) := HO.out.alloc _
      have HNW := hid (World.news_of_block (cs := #[.int .i64 nx, .int .i64 ny]) (t := 31) (fr := (0, 0)) (heap_alloc_new wr (.cells #[.int .i64 nx, .int .i64 ny] 31)))
      go_wp2_with fail
      go_region_law ((refine step_append_lies _ (by rfl) _ _ _ (by rfl) w.heap.size 31 i0 _ 2 16 Try.underlying22 hi0 hz0 hz1 hz2 rfl (by omega) (.slice A1 k cc) k (pCells z) (by rfl) HOA.out ⟨wr.heap.size, 0, none⟩ 1 1 [.int .i64 nx, .int .i64 ny] (by rfl) (by rfl) HNW.out (by simp [Value.oneCell']) (by omega) (by unfold maxLen; omega) (by omega) (by simp; omega) (wr.heap.size + 1) (by simp) ?_; intro gg capg w6 hown6 hgrow hat hlt6))
      all_goals
        have HO' : Hid (w6.ownsRow w.heap.size 31 2 (.slice (some ⟨gg, 0, none⟩) (k + 1) capg) ((l.take (k + 1)).map negW).length (pCells ((l.take (k + 1)).map negW))) := by
          show World.ownsRow _ _ _ _ _ _ _
          rw [HS.out, HNP.out, pCells_snoc, List.length_append, hzl]; exact hown6
        have HB' : Hid (Below w.heap.size w w6) := own_grow_below (w := (wr.alloc (.cells #[.int .i64 nx, .int .i64 ny] 31)).drew) HOA.out (HB.out.alloc hsz _).drew (Nat.le_refl _) (by simp; omega) hgrow
        clear hown6 hgrow hat
        go_wp2_with fail
        go_roundw
        case rel => exact ⟨k + 1, by omega, by go_num, HO'.out, HB'.out⟩
        case measure => simp [intOf]; omega
    · obtain rfl : l.length = k := by omega
      rw [List.take_length] at HO
      have hlm : (l.map negW).length = l.length := List.length_map ..
      rw [hlm] at HO
      obtain ⟨A1, cc, rfl, _, _⟩ := own_slice HO.out
      go_wp2
      go_ret
      rw [hlm]
      exact ⟨⟨_, _, rfl, PSl.of_own (n := l.length) (by rw [hlm]; exact HO.out)⟩, HB.out⟩
end Go.Proofs.Ytopmolpnmpchoaa
