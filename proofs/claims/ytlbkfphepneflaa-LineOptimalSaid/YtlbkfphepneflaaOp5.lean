/- Walk of operation.repeats: it computes its plain function. -/
import Derived.Test.YtlbkfphepneflaaOp4
import Derived.Test.YtlbkfphepneflaaIMap
namespace Go.Proofs.Ytlbkfphepneflaa
open Go.RowKit Go.Maps

theorem below_block {B b : Nat} {a w w' : World} (h : Below B a w) (hg : w.grownBy w' (some b)) (hB : B ≤ w.heap.size) (hb : B ≤ b) : Below B a w' :=
  h.grown hg hB fun k hk => by injection hk with hk; omega

set_option maxHeartbeats 1000000 in
theorem repeats_any (A : Option Addr) (cap : Nat) (l : List Int) (w : World) (h : IRd w w.heap.size A l) (hn : l.length ≤ 1000) (hwf : ∀ x ∈ l, -9223372036854775808 ≤ x ∧ x ≤ 9223372036854775807) :
    Calls Try.prog 47 #[.slice A l.length cap] w fun e w' => e = .returned (.bool (dup l)) ∧ Below w.heap.size w w' := by
  have H := Lib.hid h
  have HW := Lib.hid hwf
  clear h hwf
  have hmm := @run_makeMap Try.prog
  go_enter Try.func47, Try.ntmps47
  go_wp2
  clear hmm
  go_loopw [5, 9] (fun _ i wr => ∃ k : Nat, k ≤ l.length ∧ i = .int .i64 k ∧ (l.take k).Nodup ∧ IM rBool wr w.heap.size k (setF (l.take k).reverse) ∧ Below w.heap.size w wr) (fun _ i _ => l.length - (intOf i).toNat)
  case atStart => exact ⟨0, Nat.zero_le _, rfl, by simp, by simpa [setF_nil] using IM.made w rBool, (Below.refl _ _).alloc (Nat.le_refl _) _⟩
  case round =>
    obtain ⟨k, hk, rfl, hu, hm, hb⟩ := hrel
    have HU := Lib.hid hu
    have HM := Lib.hid hm
    have HB := Lib.hid hb
    have hsz := hb.size
    clear hu hm hb
    by_cases hlt : k < l.length
    · obtain ⟨b, off, y, rfl, hB, hd, c0⟩ := H.out.at_ HB.out hlt
      obtain ⟨y0, y1⟩ := HW.out y (List.mem_of_getElem? hd)
      have HD := Lib.hid hd
      clear hd
      by_cases hx : y ∈ l.take k
      · have HF := Lib.hid (dup_found HD.out hx)
        have hxb : decide (y ∈ (l.take k).reverse) = true := by simpa using hx
        have HX := Lib.hid hxb
        clear hx hxb
        go_wp2_with (first
          | (at_lookup; refine wpList_set_look rfl (.tmp 13) (.tmp 14) rfl rfl HM.out rfl y0 y1 ?_; rw [HX.out]))
        go_ret
        exact ⟨ret_bool HF.out.symm, HB.out⟩
      · have HF := Lib.hid (nodup_take HD.out HU.out hx)
        have hxb : decide (y ∈ (l.take k).reverse) = false := by simpa using hx
        have HX := Lib.hid hxb
        have HS := Lib.hid (show y :: (l.take k).reverse = (l.take (k + 1)).reverse from by rw [List.take_add_one, HD.out]; simp)
        clear hx hxb
        go_wp2_with (first
          | (at_lookup; refine wpList_set_look rfl (.tmp 13) (.tmp 14) rfl rfl HM.out rfl y0 y1 ?_; rw [HX.out])
          | (at_mapUpdate; refine wpList_set_put rfl (.tmp 16) (.tmp 17) _ rfl rfl HM.out (by omega) rfl rfl y0 y1 ?_; intro w1 hm1 hg1))
        have HM1 : Hid (IM rBool w1 w.heap.size (k + 1) (setF (l.take (k + 1)).reverse)) := by rw [← HS.out]; exact hm1
        have HB1 := Lib.hid (below_block HB.out hg1 hsz (Nat.le_refl _))
        clear hm1 hg1
        go_wp2
        go_roundw
        case rel => exact ⟨k + 1, by omega, by go_num, HF.out, HM1.out, HB1.out⟩
        case measure => simp [intOf]; omega
    · have hkl : k = l.length := by omega
      subst hkl
      have HF := Lib.hid (dup_none HU.out)
      go_wp2
      go_ret
      exact ⟨ret_bool HF.out.symm, HB.out⟩
end Go.Proofs.Ytlbkfphepneflaa
