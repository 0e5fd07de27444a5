/- Slices of ints; walks of operation.areIndices and of the references' Within, Has, has, twice. -/
import Derived.Test.YtlbkfphepneflaaOp2
import Derived.Deep.QuietTactic
import Derived.BigQuiet
namespace Go.Proofs.Ytlbkfphepneflaa
open Go.RowKit

/-- The slice at A reads as the ints l; it lies below block B. -/
def IRd (w : World) (B : Nat) (A : Option Addr) (l : List Int) : Prop :=
  l ≠ [] → ∃ b off, A = some ⟨b, off, none⟩ ∧ b < B ∧ ∀ i x, l[i]? = some x → w.cell? ⟨b, off + i, none⟩ = some (.int .i64 x)
theorem IRd.below {w w' : World} {B : Nat} {A : Option Addr} {l : List Int} (h : IRd w B A l) (hb : Below B w w') : IRd w' B A l := by
  intro hl
  obtain ⟨b, off, e, hB, hc⟩ := h hl
  exact ⟨b, off, e, hB, fun i d hd => (hb.cell (p := ⟨b, _, none⟩) hB).trans (hc i d hd)⟩
theorem IRd.more {w : World} {B B' : Nat} {A : Option Addr} {l : List Int} (h : IRd w B A l) (hB : B ≤ B') : IRd w B' A l := by
  intro hl
  obtain ⟨b, off, e, hb, hc⟩ := h hl
  exact ⟨b, off, e, by omega, hc⟩
theorem IRd.at_ {w w' : World} {B : Nat} {A : Option Addr} {l : List Int} (h : IRd w B A l) (hb : Below B w w') {k : Nat} (hk : k < l.length) :
    ∃ b off x, A = some ⟨b, off, none⟩ ∧ b < B ∧ l[k]? = some x ∧ w'.cell? ⟨b, off + k, none⟩ = some (.int .i64 x) := by
  obtain ⟨b, off, e, hB, hc⟩ := (h.below hb) (by intro e; subst e; simp at hk)
  have hd : l[k]? = some l[k] := List.getElem?_eq_getElem hk
  exact ⟨b, off, l[k], e, hB, hd, hc k _ hd⟩
theorem IRd.take {w : World} {B : Nat} {A : Option Addr} {l : List Int} (h : IRd w B A l) (n : Nat) : IRd w B A (l.take n) := by
  intro hl
  obtain ⟨b, off, e, hb, hc⟩ := h (by intro e; subst e; simp at hl)
  refine ⟨b, off, e, hb, fun i x hx => hc i x ?_⟩
  rw [List.getElem?_take] at hx
  split at hx
  · exact hx
  · cases hx

set_option maxHeartbeats 400000 in
theorem areIndices_any (A : Option Addr) (cap : Nat) (l : List Int) (n : Int) (w : World) (h : IRd w w.heap.size A l) (hn : l.length ≤ 1000) :
    Calls Try.prog 46 #[.slice A l.length cap, .int .i64 n] w fun e w' => e = .returned (.bool (idxOk l n)) ∧ w = w' := by
  have H := Lib.hid h
  clear h
  go_enter Try.func46, Try.ntmps46
  go_wp2
  go_loop [6, 9] (fun _ i => ∃ k : Nat, k ≤ l.length ∧ i = .int .i64 k ∧ idxOk (l.take k) n = true) (fun _ i => l.length - (intOf i).toNat)
  case atStart => exact ⟨0, Nat.zero_le _, rfl, rfl⟩
  case round =>
    obtain ⟨k, hk, rfl, hu⟩ := hrel
    have HU := Lib.hid hu
    clear hu
    by_cases hlt : k < l.length
    · obtain ⟨b, off, x, rfl, hB, hd, c0⟩ := H.out.at_ (Below.refl _ _) hlt
      have HD := Lib.hid hd
      clear hd
      by_cases hx : 0 ≤ x ∧ x < n
      · obtain ⟨x1, x2⟩ := hx
        go_wp2
        go_round
        case rel => exact ⟨k + 1, by omega, by go_num, idxOk_take HD.out HU.out x1 x2⟩
        case measure => simp [intOf]; omega
      · have HF := Lib.hid (idxOk_bad (n := n) HD.out (by omega))
        go_wp2
        all_goals
          go_ret
          exact ⟨ret_bool HF.out.symm, rfl⟩
    · go_wp2
      go_ret
      exact ⟨ret_bool (by rw [← HU.out, List.take_of_length_le (by omega)]), rfl⟩

set_option maxHeartbeats 400000 in
theorem within_any (A : Option Addr) (cap : Nat) (l : List Int) (n : Int) (w : World) (h : IRd w w.heap.size A l) (hn : l.length ≤ 1000) :
    Calls Try.prog 43 #[.slice A l.length cap, .int .i64 n] w fun e w' => e = .returned (.bool (idxOk l n)) ∧ w = w' := by
  have H := Lib.hid h
  clear h
  go_enter Try.func43, Try.ntmps43
  go_wp2
  go_loop [5] (fun i => ∃ k : Nat, k ≤ l.length ∧ i = .int .i64 k ∧ idxOk (l.take k) n = true) (fun i => l.length - (intOf i).toNat)
  case atStart => exact ⟨0, Nat.zero_le _, rfl, rfl⟩
  case round =>
    obtain ⟨k, hk, rfl, hu⟩ := hrel
    have HU := Lib.hid hu
    clear hu
    by_cases hlt : k < l.length
    · obtain ⟨b, off, x, rfl, hB, hd, c0⟩ := H.out.at_ (Below.refl _ _) hlt
      have HD := Lib.hid hd
      clear hd
      by_cases hx : 0 ≤ x ∧ x < n
      · obtain ⟨x1, x2⟩ := hx
        go_wp2
        go_round
        case rel => exact ⟨k + 1, by omega, by go_num, idxOk_take HD.out HU.out x1 x2⟩
        case measure => simp [intOf]; omega
      · have HF := Lib.hid (idxOk_bad (n := n) HD.out (by omega))
        go_wp2
        all_goals
          go_ret
          exact ⟨ret_bool HF.out.symm, rfl⟩
    · go_wp2
      go_ret
      exact ⟨ret_bool (by rw [← HU.out, List.take_of_length_le (by omega)]), rfl⟩

def hasB (l : List Int) (x : Int) : Bool := l.contains x
theorem hasB_found {l : List Int} {k : Nat} {x : Int} (h : l[k]? = some x) : hasB l x = true := by
  unfold hasB; rw [List.contains_iff_mem]; exact List.mem_of_getElem? h
theorem hasB_step {l : List Int} {k : Nat} {x y : Int} (h : l[k]? = some y) (hp : hasB (l.take k) x = false) (hne : ¬ y = x) : hasB (l.take (k + 1)) x = false := by
  unfold hasB at *; rw [List.take_add_one, h]; simp at *; exact ⟨hp, fun e => hne e.symm⟩

set_option maxHeartbeats 400000 in
theorem has45_any (A : Option Addr) (cap : Nat) (l : List Int) (x : Int) (w : World) (h : IRd w w.heap.size A l) (hn : l.length ≤ 1000) :
    Calls Try.prog 39 #[.slice A l.length cap, .int .i64 x] w fun e w' => e = .returned (.bool (hasB l x)) ∧ w = w' := by
  have H := Lib.hid h
  clear h
  go_enter Try.func39, Try.ntmps39
  go_wp2
  go_loop [5] (fun i => ∃ k : Nat, k ≤ l.length ∧ i = .int .i64 k ∧ hasB (l.take k) x = false) (fun i => l.length - (intOf i).toNat)
  case atStart => exact ⟨0, Nat.zero_le _, rfl, rfl⟩
  case round =>
    obtain ⟨k, hk, rfl, hu⟩ := hrel
    have HU := Lib.hid hu
    clear hu
    by_cases hlt : k < l.length
    · obtain ⟨b, off, y, rfl, hB, hd, c0⟩ := H.out.at_ (Below.refl _ _) hlt
      have HD := Lib.hid hd
      clear hd
      by_cases hx : y = x
      · have hxb : (y == x) = true := by simp [hx]
        have HF := Lib.hid (show hasB l x = true from by rw [← hx]; exact hasB_found HD.out)
        clear hx
        go_wp2
        go_ret
        exact ⟨ret_bool HF.out.symm, rfl⟩
      · have hxb : (y == x) = false := by simp [hx]
        have HX := Lib.hid hx
        clear hx
        go_wp2
        go_round
        case rel => exact ⟨k + 1, by omega, by go_num, hasB_step HD.out HU.out HX.out⟩
        case measure => simp [intOf]; omega
    · go_wp2
      go_ret
      exact ⟨ret_bool (by rw [← HU.out, List.take_of_length_le (by omega)]), rfl⟩

set_option maxHeartbeats 400000 in
theorem has46_any (A : Option Addr) (cap : Nat) (l : List Int) (x : Int) (w : World) (h : IRd w w.heap.size A l) (hn : l.length ≤ 1000) :
    Calls Try.prog 31 #[.slice A l.length cap, .int .i64 x] w fun e w' => e = .returned (.bool (hasB l x)) ∧ w = w' := by
  have H := Lib.hid h
  clear h
  go_enter Try.func31, Try.ntmps31
  go_wp2
  go_loop [5] (fun i => ∃ k : Nat, k ≤ l.length ∧ i = .int .i64 k ∧ hasB (l.take k) x = false) (fun i => l.length - (intOf i).toNat)
  case atStart => exact ⟨0, Nat.zero_le _, rfl, rfl⟩
  case round =>
    obtain ⟨k, hk, rfl, hu⟩ := hrel
    have HU := Lib.hid hu
    clear hu
    by_cases hlt : k < l.length
    · obtain ⟨b, off, y, rfl, hB, hd, c0⟩ := H.out.at_ (Below.refl _ _) hlt
      have HD := Lib.hid hd
      clear hd
      by_cases hx : y = x
      · have hxb : (y == x) = true := by simp [hx]
        have HF := Lib.hid (show hasB l x = true from by rw [← hx]; exact hasB_found HD.out)
        clear hx
        go_wp2
        go_ret
        exact ⟨ret_bool HF.out.symm, rfl⟩
      · have hxb : (y == x) = false := by simp [hx]
        have HX := Lib.hid hx
        clear hx
        go_wp2
        go_round
        case rel => exact ⟨k + 1, by omega, by go_num, hasB_step HD.out HU.out HX.out⟩
        case measure => simp [intOf]; omega
    · go_wp2
      go_ret
      exact ⟨ret_bool (by rw [← HU.out, List.take_of_length_le (by omega)]), rfl⟩
end Go.Proofs.Ytlbkfphepneflaa
