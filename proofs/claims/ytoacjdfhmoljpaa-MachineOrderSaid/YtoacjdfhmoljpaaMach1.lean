/- Walks of machine.Check, machine.Up, machine.limited and of the reference's: each computes its plain function; nothing that lay in memory is changed. -/
import Derived.Test.YtoacjdfhmoljpaaRows
import Derived.Test.YtoacjdfhmoljpaaMachPlain
import Derived.WalkKit
import Derived.WalkSpells
import Derived.WalkLawsBesides
import Derived.Lib.Hide
namespace Go.Proofs.Ytoacjdfhmoljpaa
open Go.RowKit

/-- The slice at A reads as the stops l; it lies below block B. -/
def DRd (w : World) (B : Nat) (A : Option Addr) (l : List Dn) : Prop :=
  l ≠ [] → ∃ b off, A = some ⟨b, off, none⟩ ∧ b < B ∧ ∀ i d, l[i]? = some d →
    w.cell? ⟨b, off + i * 3, none⟩ = some (.int .i64 d.m) ∧ w.cell? ⟨b, off + i * 3 + 1, none⟩ = some (.int .i64 d.f) ∧ w.cell? ⟨b, off + i * 3 + 2, none⟩ = some (.int .i64 d.t)
theorem DRd.below {w w' : World} {B : Nat} {A : Option Addr} {l : List Dn} (h : DRd w B A l) (hb : Below B w w') : DRd w' B A l := by
  intro hl
  obtain ⟨b, off, e, hB, hc⟩ := h hl
  refine ⟨b, off, e, hB, fun i d hd => ?_⟩
  obtain ⟨c0, c1, c2⟩ := hc i d hd
  exact ⟨(hb.cell (p := ⟨b, _, none⟩) hB).trans c0, (hb.cell (p := ⟨b, _, none⟩) hB).trans c1, (hb.cell (p := ⟨b, _, none⟩) hB).trans c2⟩
theorem DRd.more {w : World} {B B' : Nat} {A : Option Addr} {l : List Dn} (h : DRd w B A l) (hB : B ≤ B') : DRd w B' A l := by
  intro hl
  obtain ⟨b, off, e, hb, hc⟩ := h hl
  exact ⟨b, off, e, by omega, hc⟩
theorem DRd.at_ {w w' : World} {B : Nat} {A : Option Addr} {l : List Dn} (h : DRd w B A l) (hb : Below B w w') {k : Nat} (hk : k < l.length) :
    ∃ b off d, A = some ⟨b, off, none⟩ ∧ b < B ∧ l[k]? = some d ∧ w'.cell? ⟨b, off + k * 3, none⟩ = some (.int .i64 d.m) ∧ w'.cell? ⟨b, off + k * 3 + 1, none⟩ = some (.int .i64 d.f) ∧ w'.cell? ⟨b, off + k * 3 + 2, none⟩ = some (.int .i64 d.t) := by
  obtain ⟨b, off, e, hB, hc⟩ := (h.below hb) (by intro e; subst e; simp at hk)
  have hd : l[k]? = some l[k] := List.getElem?_eq_getElem hk
  obtain ⟨c0, c1, c2⟩ := hc k _ hd
  exact ⟨b, off, l[k], e, hB, hd, c0, c1, c2⟩

theorem ret_int {k : IntKind} {a b : Int} (h : a = b) : Ending.returned (.int k a) = .returned (.int k b) := by rw [h]
theorem int_eq {k : IntKind} {a b : Int} (h : a = b) : Value.int k a = Value.int k b := by rw [h]
theorem ret_bool {a b : Bool} (h : a = b) : Ending.returned (.bool a) = .returned (.bool b) := by rw [h]

set_option maxHeartbeats 400000 in
theorem up_any (A : Option Addr) (cap : Nat) (l : List Dn) (m at_ : Int) (w : World) (h : DRd w w.heap.size A l) (hn : l.length ≤ 1000) :
    Calls Try.prog 14 #[.slice A l.length cap, .int .i64 m, .int .i64 at_] w fun e w' => e = .returned (.bool (isUp l m at_)) ∧ Below w.heap.size w w' := by
  have H := Lib.hid h
  clear h
  go_enter Try.func14, Try.ntmps14
  go_wp2
  go_loopw [8, 11] (fun _ i wr => ∃ k : Nat, k ≤ l.length ∧ i = .int .i64 k ∧ isUp (l.take k) m at_ = true ∧ Below w.heap.size w wr) (fun _ i _ => l.length - (intOf i).toNat)
  case atStart => exact ⟨0, Nat.zero_le _, rfl, rfl, Below.refl _ _⟩
  case round =>
    obtain ⟨k, hk, rfl, hu, hb⟩ := hrel
    have HU := Lib.hid hu
    clear hu
    have hsz := hb.size
    by_cases hlt : k < l.length
    · obtain ⟨b, off, d, rfl, hB, hd, c0, c1, c2⟩ := H.out.at_ hb hlt
      have HD := Lib.hid hd
      clear hd
      go_wp2
      · go_ret
        exact ⟨ret_bool (isUp_found HD.out ‹_› ‹_› ‹_›).symm, hb.alloc hsz _⟩
      all_goals
        go_roundw
        case rel => exact ⟨k + 1, by omega, by go_num, isUp_pass HD.out HU.out (by omega), hb.alloc hsz _⟩
        case measure => simp [intOf]; omega
    · go_wp2
      go_ret
      exact ⟨ret_bool (by rw [← HU.out, List.take_of_length_le (by omega)]), hb⟩

set_option maxHeartbeats 400000 in
theorem refUp_any (A : Option Addr) (cap : Nat) (l : List Dn) (m at_ : Int) (w : World) (h : DRd w w.heap.size A l) (hn : l.length ≤ 1000) :
    Calls Try.prog 15 #[.slice A l.length cap, .int .i64 m, .int .i64 at_] w fun e w' => e = .returned (.bool (isUp l m at_)) ∧ Below w.heap.size w w' := by
  have H := Lib.hid h
  clear h
  go_enter Try.func15, Try.ntmps15
  go_wp2
  go_loopw [7] (fun i wr => ∃ k : Nat, k ≤ l.length ∧ i = .int .i64 k ∧ isUp (l.take k) m at_ = true ∧ Below w.heap.size w wr) (fun i _ => l.length - (intOf i).toNat)
  case atStart => exact ⟨0, Nat.zero_le _, rfl, rfl, Below.refl _ _⟩
  case round =>
    obtain ⟨k, hk, rfl, hu, hb⟩ := hrel
    have HU := Lib.hid hu
    clear hu
    have hsz := hb.size
    by_cases hlt : k < l.length
    · obtain ⟨b, off, d, rfl, hB, hd, c0, c1, c2⟩ := H.out.at_ hb hlt
      have HD := Lib.hid hd
      clear hd
      go_wp2
      · go_ret
        exact ⟨ret_bool (isUp_found HD.out ‹_› ‹_› ‹_›).symm, hb⟩
      all_goals
        go_roundw
        case rel => exact ⟨k + 1, by omega, by go_num, isUp_pass HD.out HU.out (by omega), hb⟩
        case measure => simp [intOf]; omega
    · go_wp2
      go_ret
      exact ⟨ret_bool (by rw [← HU.out, List.take_of_length_le (by omega)]), hb⟩

set_option maxHeartbeats 400000 in
theorem check_any (A : Option Addr) (cap : Nat) (l : List Dn) (w : World) (h : DRd w w.heap.size A l) (hn : l.length ≤ 1000) :
    Calls Try.prog 11 #[.slice A l.length cap] w fun e w' => e = .returned (.int .i64 (chk l)) ∧ Below w.heap.size w w' := by
  have H := Lib.hid h
  clear h
  by_cases hlong : 20 < l.length
  · go_enter Try.func11, Try.ntmps11
    go_wp2
    go_ret
    exact ⟨ret_int (chk_long hlong).symm, Below.refl _ _⟩
  · go_enter Try.func11, Try.ntmps11
    go_wp2
    go_loopw [4, 10] (fun _ i wr => ∃ k : Nat, k ≤ l.length ∧ i = .int .i64 k ∧ (l.take k).all okDn = true ∧ Below w.heap.size w wr) (fun _ i _ => l.length - (intOf i).toNat)
    case atStart => exact ⟨0, Nat.zero_le _, rfl, rfl, Below.refl _ _⟩
    case round =>
      obtain ⟨k, hk, rfl, hu, hb⟩ := hrel
      have HU := Lib.hid hu
      clear hu
      have hsz := hb.size
      by_cases hlt : k < l.length
      · obtain ⟨b, off, d, rfl, hB, hd, c0, c1, c2⟩ := H.out.at_ hb hlt
        have HD := Lib.hid hd
        clear hd
        by_cases hok : 0 ≤ d.m ∧ d.m < 8 ∧ 0 ≤ d.f ∧ d.f < d.t ∧ d.t ≤ 1073741824
        · obtain ⟨o1, o2, o3, o4, o5⟩ := hok
          go_wp2
          go_roundw
          case rel => exact ⟨k + 1, by omega, by go_num, okDn_pass HD.out HU.out o1 o2 o3 o4 o5, hb.alloc hsz _⟩
          case measure => simp [intOf]; omega
        · have hbad : okDn d = false := okDn_no (by omega)
          have HB := Lib.hid (chk_bad (by omega) HD.out hbad)
          clear hbad
          go_wp2
          all_goals (go_ret; exact ⟨ret_int HB.out.symm, hb.alloc hsz _⟩)
      · go_wp2
        go_ret
        exact ⟨ret_int (chk_good (by omega) (by rw [← HU.out, show l.length = k from by omega])).symm, hb⟩

set_option maxHeartbeats 400000 in
theorem refCheck_any (A : Option Addr) (cap : Nat) (l : List Dn) (w : World) (h : DRd w w.heap.size A l) (hn : l.length ≤ 1000) :
    Calls Try.prog 12 #[.slice A l.length cap] w fun e w' => e = .returned (.int .i64 (chk l)) ∧ Below w.heap.size w w' := by
  have H := Lib.hid h
  clear h
  by_cases hlong : 20 < l.length
  · go_enter Try.func12, Try.ntmps12
    go_wp2
    go_ret
    exact ⟨ret_int (chk_long hlong).symm, Below.refl _ _⟩
  · go_enter Try.func12, Try.ntmps12
    go_wp2
    go_loopw [3, 4] (fun i _ wr => ∃ k : Nat, k ≤ l.length ∧ i = .int .i64 k ∧ (l.take k).all okDn = true ∧ Below w.heap.size w wr) (fun i _ _ => l.length - (intOf i).toNat)
    case atStart => exact ⟨0, Nat.zero_le _, rfl, rfl, Below.refl _ _⟩
    case round =>
      obtain ⟨k, hk, rfl, hu, hb⟩ := hrel
      have HU := Lib.hid hu
      clear hu
      have hsz := hb.size
      by_cases hlt : k < l.length
      · obtain ⟨b, off, d, rfl, hB, hd, c0, c1, c2⟩ := H.out.at_ hb hlt
        have HD := Lib.hid hd
        clear hd
        by_cases hok : 0 ≤ d.m ∧ d.m < 8 ∧ 0 ≤ d.f ∧ d.f < d.t ∧ d.t ≤ 1073741824
        · obtain ⟨o1, o2, o3, o4, o5⟩ := hok
          go_wp2
          go_roundw
          case rel => exact ⟨k + 1, by omega, by go_num, okDn_pass HD.out HU.out o1 o2 o3 o4 o5, hb.alloc hsz _⟩
          case measure => simp [intOf]; omega
        · have hbad : okDn d = false := okDn_no (by omega)
          have HB := Lib.hid (chk_bad (by omega) HD.out hbad)
          clear hbad
          go_wp2
          all_goals (go_ret; exact ⟨ret_int HB.out.symm, hb.alloc hsz _⟩)
      · go_wp2
        go_ret
        exact ⟨ret_int (chk_good (by omega) (by rw [← HU.out, show l.length = k from by omega])).symm, hb⟩

set_option maxHeartbeats 400000 in
theorem limited_any (t : Int) (w : World) : Calls Try.prog 21 #[.int .i64 t] w fun e w' => e = .returned (.int .i64 (lim t)) ∧ w = w' := by
  go_enter Try.func21, Try.ntmps21
  go_wp2
  all_goals
    go_ret
    exact ⟨ret_int (by unfold lim; omega), rfl⟩
set_option maxHeartbeats 400000 in
theorem refLimited_any (t : Int) (w : World) : Calls Try.prog 22 #[.int .i64 t] w fun e w' => e = .returned (.int .i64 (lim t)) ∧ w = w' := by
  go_enter Try.func22, Try.ntmps22
  go_wp2
  all_goals
    go_ret
    exact ⟨ret_int (by unfold lim; omega), rfl⟩

set_option maxHeartbeats 400000 in
theorem next_any (A : Option Addr) (cap : Nat) (l : List Dn) (m at_ lm : Int) (w : World) (h : DRd w w.heap.size A l) (hn : l.length ≤ 1000) :
    Calls Try.prog 23 #[.slice A l.length cap, .int .i64 m, .int .i64 at_, .int .i64 lm] w fun e w' => e = .returned (.int .i64 (nextB l m at_ lm)) ∧ Below w.heap.size w w' := by
  have H := Lib.hid h
  clear h
  go_enter Try.func23, Try.ntmps23
  go_wp2
  go_loopw [3, 9] (fun x i wr => ∃ k : Nat, k ≤ l.length ∧ i = .int .i64 k ∧ x = .int .i64 (nextB (l.take k) m at_ lm) ∧ Below w.heap.size w wr) (fun _ i _ => l.length - (intOf i).toNat)
  case atStart => exact ⟨0, Nat.zero_le _, rfl, rfl, Below.refl _ _⟩
  case round =>
    obtain ⟨k, hk, rfl, rfl, hb⟩ := hrel
    have hsz := hb.size
    by_cases hlt : k < l.length
    · obtain ⟨b, off, d, rfl, hB, hd, c0, c1, c2⟩ := H.out.at_ hb hlt
      have HN := Lib.hid (nextB_take_succ hd m at_ lm)
      clear hd
      generalize nextB (l.take k) m at_ lm = x at *
      by_cases hm : d.m = m
      · have hmb : ((d.m : Int) == m) = true := by simp [hm]
        by_cases h1 : at_ < d.f <;> by_cases h2 : at_ < d.t
        all_goals
          have HX : Hid (nextB (l.take (k + 1)) m at_ lm = nx2 m at_ (nx1 m at_ x d) d) := HN
          simp only [nx2, nx1, hm, h1, h2, true_and, if_true, if_false] at HX
          have HM := Lib.hid hm
          clear hm
          go_wp2
          go_roundw
          case rel => exact ⟨k + 1, by omega, by go_num, int_eq (by have := HX.out; omega), hb⟩
          case measure => simp [intOf]; omega
      · have hmb : ((d.m : Int) == m) = false := by simp [hm]
        go_wp2
        go_roundw
        case rel => exact ⟨k + 1, by omega, by go_num, by rw [HN.out]; simp [nx1, nx2, hm], hb⟩
        case measure => simp [intOf]; omega
    · go_wp2
      go_ret
      exact ⟨ret_int (by rw [List.take_of_length_le (by omega)]), hb⟩
end Go.Proofs.Ytoacjdfhmoljpaa
