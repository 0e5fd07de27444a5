/- Walks of operation.checkList (without uses) and operation.Order. -/
import Derived.Test.YtlbkfphepneflaaArr1
namespace Go.Proofs.Ytlbkfphepneflaa
open Go.RowKit

theorem ordErr_long {l : List Opn} (h : 16 < l.length) : ordErr l = 5 := by
  have : singErr l = 5 := by unfold singErr; rw [if_pos h]
  unfold ordErr; rw [this]; rfl
theorem ordErr_one {l : List Opn} {k : Nat} (h16 : l.length ≤ 16) (h : errUpto l k = 0) (he : oneErr l k ≠ 0) (hk : k < l.length) : ordErr l = oneErr l k := by
  have : singErr l = oneErr l k := by unfold singErr; rw [if_neg (by omega)]; exact errUpto_stop h he _ hk
  unfold ordErr; rw [this, if_pos he]
theorem singErr_zero {l : List Opn} (h16 : l.length ≤ 16) (h : errUpto l l.length = 0) : singErr l = 0 := by
  unfold singErr; rw [if_neg (by omega)]; exact h
theorem ordErr_cycle {l : List Opn} (h : singErr l = 0) (ho : (order l).length ≠ l.length) : ordErr l = 9 := by
  unfold ordErr; rw [if_neg (by simp [h]), if_pos]
  have := (topo_upto (l := l) l.length [] (Upto.nil l)).le
  unfold order at ho ⊢
  omega
theorem ordErr_ok {l : List Opn} (h : singErr l = 0) (ho : (order l).length = l.length) : ordErr l = 0 := by
  unfold ordErr; rw [if_neg (by simp [h]), if_neg (by omega)]
theorem ordErr_zero {l : List Opn} (h : ordErr l = 0) : singErr l = 0 ∧ (order l).length = l.length := by
  unfold ordErr at h
  by_cases h1 : singErr l ≠ 0
  · rw [if_pos h1] at h; exact absurd h h1
  · rw [if_neg h1] at h
    by_cases h2 : (order l).length < l.length
    · rw [if_pos h2] at h; cases h
    · have := (topo_upto (l := l) l.length [] (Upto.nil l)).le
      unfold order at h2 ⊢
      exact ⟨by simpa using h1, by omega⟩

/-- What Order returns. -/
def OrdPost (l : List Opn) (e : Ending) (w' : World) : Prop :=
  ∃ A n c, e = .returned (.tuple #[.slice A n c, .int .i64 (ordErr l)]) ∧ (ordErr l = 0 → n = (order l).length ∧ IRd w' w'.heap.size A ((order l).map Int.ofNat)) ∧ (ordErr l ≠ 0 → A = none ∧ n = 0 ∧ c = 0)
theorem ordPost_bad {l : List Opn} {w' : World} {x : Int} (h : ordErr l = x) (hx : x ≠ 0) : OrdPost l (.returned (.tuple #[.slice none 0 0, .int .i64 x])) w' := by
  subst h; exact ⟨none, 0, 0, rfl, fun h => absurd h hx, fun _ => ⟨rfl, rfl, rfl⟩⟩

set_option maxRecDepth 100000 in
set_option maxHeartbeats 1000000 in
theorem checkList_any (A : Option Addr) (cap : Nat) (l : List Opn) (w : World) (h : ORd w w.heap.size A l) (hn : l.length ≤ 1000) (hcap : l.length ≤ cap) (hs : OSmall l) :
    Calls Try.prog 35 #[.slice A l.length cap, .int .i64 (-1)] w fun e w' => OrdPost l e w' ∧ Below w.heap.size w w' := by
  have H := Lib.hid h
  have HS := Lib.hid hs
  clear h hs
  by_cases hlong : 16 < l.length
  · have HE := Lib.hid (ordErr_long hlong)
    go_enter Try.func35, Try.ntmps35
    go_wp2
    go_ret2
    exact ⟨ordPost_bad HE.out (by omega), Below.refl _ _⟩
  · go_enter Try.func35, Try.ntmps35
    go_wp2_with fail
    go_loopw [6, 7, 15] (fun _ _ j wr => ∃ k : Nat, k ≤ l.length ∧ j = .int .i64 k ∧ errUpto l k = 0 ∧ Below w.heap.size w wr) (fun _ _ j _ => l.length - (intOf j).toNat)
    case atStart => exact ⟨0, Nat.zero_le _, rfl, rfl, Below.refl _ _⟩
    case round =>
      obtain ⟨k, hk, rfl, hu, hb⟩ := hrel
      have HU := Lib.hid hu
      have HB := Lib.hid hb
      have hsz := hb.size
      have HR := Lib.hid ((H.out.below hb).more hsz)
      clear hu hb
      by_cases hlt : k < l.length
      · go_wp2_with fail
        ((with_reducible refine (checkOne_any A cap l k _ HR.out hlt hn hcap HS.out).mono ?_); rintro e w1 ⟨rfl, hb1⟩)
        have HB1 := Lib.hid (HB.out.trans (hb1.mono hsz))
        clear hb1
        by_cases he : oneErr l k = 0
        · have HG := Lib.hid (errUpto_go HU.out he)
          have HZ := Lib.hid he
          clear he
          rw [HZ.out]
          go_wp2
          go_roundw
          case rel => exact ⟨k + 1, by omega, by go_num, HG.out, HB1.out⟩
          case measure => simp [intOf]; omega
        · have HE := Lib.hid (ordErr_one (by omega) HU.out he hlt)
          have HNE := Lib.hid he
          have hne : (oneErr l k != 0) = true := by simpa using he
          clear he
          go_wp2
          go_ret2
          exact ⟨ordPost_bad HE.out HNE.out, HB1.out⟩
      · have hkl : k = l.length := by omega
        subst hkl
        have HZ := Lib.hid (singErr_zero (by omega) HU.out)
        go_wp2_with fail
        ((with_reducible refine (arrange_any A cap l _ HR.out HS.out (sound_of HZ.out)).mono ?_); rintro e w1 ⟨hp, hb1⟩)
        have HB1 := Lib.hid (HB.out.trans (hb1.mono hsz))
        clear hb1
        by_cases ho : (order l).length = l.length
        · obtain ⟨A1, c1, rfl, hi⟩ := hp.1 ho
          have HI := Lib.hid hi
          have HE := Lib.hid (ordErr_ok HZ.out ho)
          clear hp hi ho
          go_wp2
          go_ret2
          exact ⟨⟨A1, (order l).length, c1, by rw [HE.out]; rfl, fun _ => ⟨rfl, HI.out⟩, fun h => absurd HE.out h⟩, HB1.out⟩
        · obtain rfl := hp.2 ho
          have HE := Lib.hid (ordErr_cycle HZ.out ho)
          clear hp ho
          go_wp2
          go_ret2
          exact ⟨ordPost_bad HE.out (by omega), HB1.out⟩

set_option maxHeartbeats 1000000 in
theorem order_any (A : Option Addr) (cap : Nat) (l : List Opn) (w : World) (h : ORd w w.heap.size A l) (hn : l.length ≤ 1000) (hcap : l.length ≤ cap) (hs : OSmall l) :
    Calls Try.prog 24 #[.slice A l.length cap] w fun e w' => OrdPost l e w' ∧ Below w.heap.size w w' := by
  have H := Lib.hid h
  have HS := Lib.hid hs
  clear h hs
  go_enter Try.func24, Try.ntmps24
  go_wp2_with fail
  ((with_reducible refine (checkList_any A cap l _ H.out hn hcap HS.out).mono ?_); rintro e w1 ⟨⟨A1, n1, c1, rfl, hp1, hp2⟩, hb1⟩)
  have HP1 := Lib.hid hp1
  have HP2 := Lib.hid hp2
  have HB1 := Lib.hid hb1
  clear hp1 hp2 hb1
  go_wp2
  go_ret2
  exact ⟨⟨A1, n1, c1, rfl, HP1.out, HP2.out⟩, HB1.out⟩
end Go.Proofs.Ytlbkfphepneflaa
