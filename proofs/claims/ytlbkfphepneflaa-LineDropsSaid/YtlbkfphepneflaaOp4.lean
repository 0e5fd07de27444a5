/- Walks of the reference's twice and of operation.repeats: each computes its plain function. -/
import Derived.Test.YtlbkfphepneflaaOp3
import Derived.Maps.Own
import Derived.Maps.OwnOps
import Derived.Maps.OwnSet
namespace Go.Proofs.Ytlbkfphepneflaa
open Go.RowKit Go.Maps

theorem quiet_same {P : Program} {f : FuncId} {args : Array Value} {w : World} {n : Nat} {v : Value} (h : Calls P f args (w.drewN n) fun e w' => e = .returned v ∧ w.drewN n = w') :
    Calls P f args (w.drewN n) fun e w'' => e = .returned v ∧ ∃ m, w'' = w.drewN m :=
  h.mono fun _ _ ⟨he, hw⟩ => ⟨he, n, hw.symm⟩
theorem below_drewN {B : Nat} {a w : World} (h : Below B a w) (n : Nat) : Below B a (w.drewN n) := ⟨h.os, h.tape, h.output, h.size, h.block⟩
theorem hasB_mem {l : List Int} {x : Int} : hasB l x = true ↔ x ∈ l := by unfold hasB; rw [List.contains_iff_mem]

set_option maxHeartbeats 400000 in
theorem twice_any (A : Option Addr) (cap : Nat) (l : List Int) (w : World) (h : IRd w w.heap.size A l) (hn : l.length ≤ 1000) (hcap : l.length ≤ cap) :
    Calls Try.prog 44 #[.slice A l.length cap] w fun e w' => e = .returned (.bool (dup l)) ∧ Below w.heap.size w w' := by
  have H := Lib.hid h
  clear h
  go_enter Try.func44, Try.ntmps44
  go_wp2
  go_loopw [3] (fun i wr => ∃ k : Nat, k ≤ l.length ∧ i = .int .i64 k ∧ (l.take k).Nodup ∧ Below w.heap.size w wr) (fun i _ => l.length - (intOf i).toNat)
  case atStart => exact ⟨0, Nat.zero_le _, rfl, by simp, Below.refl _ _⟩
  case round =>
    obtain ⟨k, hk, rfl, hu, hb⟩ := hrel
    have HU := Lib.hid hu
    clear hu
    by_cases hlt : k < l.length
    · obtain ⟨b, off, y, rfl, hB, hd, c0⟩ := H.out.at_ hb hlt
      have HD := Lib.hid hd
      clear hd
      have HR := Lib.hid (((H.out.below hb).more hb.size).take k)
      have hk0 : (0 : Int) ≤ (k : Int) := by omega
      have hk1 : (k : Int) ≤ (cap : Int) := by omega
      have hk2 : (k : Int) < (l.length : Int) := by omega
      have htl : (l.take k).length = k := by simp; omega
      have HC : Hid (∀ (n : Nat), Calls Try.prog 39 #[.slice (some ⟨b, off, none⟩) k cap, .int .i64 y] (wr.drewN n) fun e w' => e = .returned (.bool (hasB (l.take k) y)) ∧ wr.drewN n = w') := fun n => by
        have := has45_any (some ⟨b, off, none⟩) cap (l.take k) y (wr.drewN n) HR.out (by omega)
        rw [htl] at this; exact this
      clear htl
      by_cases hx : hasB (l.take k) y = true
      · have HF := Lib.hid (dup_found HD.out (hasB_mem.1 hx))
        go_wp2
        go_quiet ((go_at_call 39; exact quiet_same (HC.out _)))
        rw [hx]
        go_wp2
        go_ret
        exact ⟨ret_bool HF.out.symm, below_drewN hb _⟩
      · have hx' : hasB (l.take k) y = false := by simpa using hx
        have HF := Lib.hid (nodup_take HD.out HU.out (fun h => hx (hasB_mem.2 h)))
        clear hx
        go_wp2
        go_quiet ((go_at_call 39; exact quiet_same (HC.out _)))
        rw [hx']
        go_wp2
        go_roundw
        case rel => exact ⟨k + 1, by omega, by go_num, HF.out, below_drewN hb _⟩
        case measure => simp [intOf]; omega
    · have hkl : k = l.length := by omega
      subst hkl
      have HF := Lib.hid (dup_none HU.out)
      go_wp2
      go_ret
      exact ⟨ret_bool HF.out.symm, hb⟩

end Go.Proofs.Ytlbkfphepneflaa
