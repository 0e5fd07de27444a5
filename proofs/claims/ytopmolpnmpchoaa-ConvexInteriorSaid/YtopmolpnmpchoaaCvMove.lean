/- The walks of the reference's Move and Reversed. -/
import Derived.Test.YtopmolpnmpchoaaCvNeg2
namespace Go.Proofs.Ytopmolpnmpchoaa
open Go.RowKit

theorem moved_snoc (d : Pt) {l : List Pt} {k : Nat} {p : Pt} (h : l[k]? = some p) : moved d (l.take (k + 1)) = moved d (l.take k) ++ [addP p d] := by
  unfold moved
  rw [List.take_add_one, h, List.map_append]; rfl
theorem moved_len (d : Pt) (l : List Pt) : (moved d l).length = l.length := by unfold moved; simp
set_option maxRecDepth 100000 in
set_option maxHeartbeats 4000000 in
theorem move_any (A : Option Addr) (cap : Nat) (l : List Pt) (d : Pt) (w : World) (h : PRd w w.heap.size A l) (hin : ∀ p ∈ l, In 4194304 p) (hd : In 4194304 d) (hn : l.length ≤ 1000000) :
    Calls Try.prog 35 #[.slice A l.length cap, .agg #[.int .i64 d.x, .int .i64 d.y]] w fun e w' => (∃ A' c', e = .returned (.slice A' (moved d l).length c') ∧ PSl w' A' c' (moved d l)) ∧ Below w.heap.size w w' := by
  have H := hid h
  have HIN := hid hin
  clear h hin
  obtain ⟨i0, hi0, hz0, hz1, hz2⟩ := info_parts infoPt
  have HB0 := hid (below1 w (.cells #[.int .i64 d.x, .int .i64 d.y] 31))
  unfold In at hd
  go_enter Try.func35, Try.ntmps35
  go_wp2_with fail
  go_loopw [5, 6] (fun v i wr => ∃ k : Nat, k ≤ l.length ∧ i = .int .i64 k ∧ Hid (wr.ownsRow (w.heap.size + 1) 31 2 v (moved d (l.take k)).length (pCells (moved d (l.take k)))) ∧ Hid (Below (w.heap.size + 1) (w.alloc (.cells #[.int .i64 d.x, .int .i64 d.y] 31)) wr)) (fun _ i _ => l.length - (intOf i).toNat)
  case atStart => exact ⟨0, Nat.zero_le _, rfl, ⟨by simp [pCells, moved], .inl ⟨rfl, rfl⟩⟩, Below.refl _ _⟩
  case round =>
    obtain ⟨k, hk, rfl, HO, HB⟩ := hrel
    have HBW : Hid (Below w.heap.size w wr) := HB0.out.trans (HB.out.mono (by omega))
    by_cases hlt : k < l.length
    · obtain ⟨b, off, p, rfl, hB, hdd, c0, c1⟩ := H.out.at_ HBW.out hlt
      have HS := hid (moved_snoc d hdd)
      have hpin := HIN.out p (List.mem_of_getElem? hdd)
      unfold In at hpin
      clear hdd
      have hzl : (moved d (l.take k)).length = k := by rw [moved_len]; simp; omega
      rw [hzl] at HO
      generalize moved d (l.take k) = z at *
      obtain ⟨A1, cc, rfl, _, _⟩ := own_slice HO.out
      have d0 : wr.cell? ⟨w.heap.size, 0, none⟩ = some (.int .i64 d.x) := (HB.out.cell (p := ⟨w.heap.size, 0, none⟩) (by simp)).trans (by simp [go_sem])
      have d1 : wr.cell? ⟨w.heap.size, 1, none⟩ = some (.int .i64 d.y) := (HB.out.cell (p := ⟨w.heap.size, 1, none⟩) (by simp)).trans (by simp [go_sem])
      obtain ⟨nx, hnx⟩ : ∃ nx, nx = p.x + d.x := ⟨_, rfl⟩
      obtain ⟨ny, hny⟩ : ∃ ny, ny = p.y + d.y := ⟨_, rfl⟩
      have hwx : IntKind.i64.wrap (p.x + d.x) = nx := by rw [IntWalk.i64_in _ (by omega)]; exact hnx.symm
      have hwy : IntKind.i64.wrap (p.y + d.y) = ny := by rw [IntWalk.i64_in _ (by omega)]; exact hny.symm
      have HNP : Hid (addP p d = ⟨nx, ny⟩) := by show _ = _; rw [hnx, hny]; rfl
      clear hnx hny
      have i1 : (0 : Int) ≤ (k : Int) := by omega
      have i2 : (k : Int) < (l.length : Int) := by omega
      have hsz : w.heap.size + 1 ≤ wr.heap.size := by have := HB.out.size; simpa using this
      have HOA : Hid ((wr.alloc (.cells #[.int .i64 nx, .int .i64 ny] 31)).ownsRow (w.heap.size + 1) 31 2 (.slice A1 k cc) k (pCells z)) := HO.out.alloc _
      have HNW := hid (World.news_of_block (cs := #[.int .i64 nx, .int .i64 ny]) (t := 31) (fr := (0, 0)) (heap_alloc_new wr (.cells #[.int .i64 nx, .int .i64 ny] 31)))
      go_wp2_with fail
      go_region_law ((refine step_append_lies _ (by rfl) _ _ _ (by rfl) (w.heap.size + 1) 31 i0 _ 2 16 Try.underlying22 hi0 hz0 hz1 hz2 rfl (by omega) (.slice A1 k cc) k (pCells z) (by rfl) HOA.out ⟨wr.heap.size, 0, none⟩ 1 1 [.int .i64 nx, .int .i64 ny] (by rfl) (by rfl) HNW.out (by simp [Value.oneCell']) (by omega) (by unfold maxLen; omega) (by omega) (by simp; omega) (wr.heap.size + 1) (by simp) ?_; intro gg capg w6 hown6 hgrow hat hlt6))
      all_goals
        have HO' : Hid (w6.ownsRow (w.heap.size + 1) 31 2 (.slice (some ⟨gg, 0, none⟩) (k + 1) capg) (moved d (l.take (k + 1))).length (pCells (moved d (l.take (k + 1))))) := by
          show World.ownsRow _ _ _ _ _ _ _
          rw [HS.out, HNP.out, pCells_snoc, List.length_append, hzl]; exact hown6
        have HB' : Hid (Below (w.heap.size + 1) (w.alloc (.cells #[.int .i64 d.x, .int .i64 d.y] 31)) w6) := own_grow_below (w := (wr.alloc (.cells #[.int .i64 nx, .int .i64 ny] 31)).drew) HOA.out (HB.out.alloc hsz _).drew (Nat.le_refl _) (by simp; omega) hgrow
        clear hown6 hgrow hat
        go_wp2_with fail
        go_roundw
        case rel => exact ⟨k + 1, by omega, by go_num, HO'.out, HB'.out⟩
        case measure => simp [intOf]; omega
    · obtain rfl : l.length = k := by omega
      rw [List.take_length] at HO
      have hlm : (moved d l).length = l.length := moved_len d l
      rw [hlm] at HO
      obtain ⟨A1, cc, rfl, _, _⟩ := own_slice HO.out
      go_wp2
      go_ret
      rw [hlm]
      exact ⟨⟨_, _, rfl, PSl.of_own (n := l.length) (by rw [hlm]; exact HO.out)⟩, HBW.out⟩

theorem drop_rev {l : List Pt} {k : Nat} {p : Pt} (h : l[k]? = some p) : (l.drop k).reverse = (l.drop (k + 1)).reverse ++ [p] := by
  have hk := (List.getElem?_eq_some_iff.1 h).1
  rw [List.drop_eq_getElem_cons hk, List.reverse_cons, (List.getElem?_eq_some_iff.1 h).2]
set_option maxRecDepth 100000 in
set_option maxHeartbeats 4000000 in
theorem reversed_any (A : Option Addr) (cap : Nat) (l : List Pt) (w : World) (h : PRd w w.heap.size A l) (hn : l.length ≤ 1000000) :
    Calls Try.prog 27 #[.slice A l.length cap] w fun e w' => (∃ A' c', e = .returned (.slice A' l.length c') ∧ w'.ownsRow w.heap.size 31 2 (.slice A' l.length c') l.length (pCells l.reverse)) ∧ Below w.heap.size w w' := by
  have H := hid h
  clear h
  obtain ⟨i0, hi0, hz0, hz1, hz2⟩ := info_parts infoPt
  go_enter Try.func27, Try.ntmps27
  go_wp2_with fail
  go_loopw [3, 4] (fun v i wr => ∃ k : Nat, k ≤ l.length ∧ i = .int .i64 ((k : Int) - 1) ∧ Hid (wr.ownsRow w.heap.size 31 2 v (l.length - k) (pCells (l.drop k).reverse)) ∧ Hid (Below w.heap.size w wr)) (fun _ i _ => (intOf i + 1).toNat)
  case atStart => exact ⟨l.length, Nat.le_refl _, rfl, ⟨by simp [pCells], .inl ⟨rfl, by omega⟩⟩, Below.refl _ _⟩
  case round =>
    obtain ⟨k, hk, rfl, HO, HB⟩ := hrel
    match k, hk, HO with
    | 0, hk, HO =>
      rw [List.drop_zero, Nat.sub_zero] at HO
      obtain ⟨A1, cc, rfl, _, _⟩ := own_slice HO.out
      go_wp2
      go_ret
      exact ⟨⟨_, _, rfl, HO.out⟩, HB.out⟩
    | k + 1, hk, HO =>
      obtain ⟨b, off, p, rfl, hB, hd, c0, c1⟩ := H.out.at_ HB.out (show k < l.length by omega)
      have HS := hid (drop_rev hd)
      clear hd
      obtain ⟨n, hnn⟩ : ∃ n, l.length - (k + 1) = n := ⟨_, rfl⟩
      rw [hnn] at HO
      have HNN : Hid (l.length - k = n + 1) := by show _ = _; omega
      have hnl : n ≤ 1000000 := by omega
      clear hnn
      generalize (l.drop (k + 1)).reverse = z at *
      have i1 : (0 : Int) ≤ (k : Int) := by omega
      have i2 : (k : Int) < (l.length : Int) := by omega
      have e0 : ((k + 1 : Nat) : Int) - 1 = (k : Int) := by omega
      rw [e0]
      have hsz := HB.out.size
      go_wp2_with (at_builtin; refine wpList_append_own _ rfl (.tmp 12) (.tmp 17) 22 rfl w.heap.size 31 i0 _ 2 16 Try.underlying22 hi0 hz0 hz1 hz2 rfl (by decide) _ _ _ rfl (HO.out.alloc _) ⟨wr.heap.size, 0, none⟩ 1 1 [.int .i64 p.x, .int .i64 p.y] rfl rfl (by have := cell_two_new wr (.int .i64 p.x) (.int .i64 p.y) 31; simpa using this) (by intro u hu; simp at hu; rcases hu with rfl | rfl <;> rfl) (by unfold maxLen; omega) (by omega) (by simp; omega) ?_)
      intro v' w' hown' hgrow _
      have HO' : Hid (w'.ownsRow w.heap.size 31 2 v' (l.length - k) (pCells (l.drop k).reverse)) := by
        show World.ownsRow _ _ _ _ _ _ _
        rw [HS.out, pCells_snoc, HNN.out]; exact hown'
      have HB' : Hid (Below w.heap.size w w') := own_grow_below (HO.out.alloc _) (HB.out.alloc hsz _) (Nat.le_refl _) (by simp; omega) hgrow
      clear hown' hgrow
      go_wp2_with fail
      go_roundw
      case rel => exact ⟨k, by omega, rfl, HO'.out, HB'.out⟩
      case measure => simp [intOf]
end Go.Proofs.Ytopmolpnmpchoaa
