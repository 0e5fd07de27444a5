/- The bound of a line: plain functions; walks of Few, line.Bound and the reference's begin, bound, Bound. -/
import Derived.Test.YtlbkfphepneflaaRefOp2
namespace Go.Proofs.Ytlbkfphepneflaa
open Go.RowKit

def shortOp (o : Opn) : Bool := decide (o.name.size ≤ 50 ∧ o.after.length ≤ 20 ∧ o.uses.length ≤ 20)
def few (l : List Opn) (n : Nat) : Bool := decide (l.length ≤ n) && l.all shortOp
theorem few_small {l : List Opn} {n : Nat} (h : few l n = true) : l.length ≤ n ∧ OSmall l := by
  unfold few at h
  rw [Bool.and_eq_true, decide_eq_true_iff, List.all_eq_true] at h
  exact ⟨h.1, fun o ho => by have := h.2 o ho; unfold shortOp at this; simpa using this⟩
theorem few_long {l : List Opn} {n : Nat} (h : n < l.length) : few l n = false := by
  unfold few; rw [decide_eq_false (by omega)]; rfl
theorem few_bad {l : List Opn} {n k : Nat} {o : Opn} (h : l[k]? = some o) (hb : shortOp o = false) : few l n = false := by
  unfold few
  have : l.all shortOp = false := by rw [List.all_eq_false]; exact ⟨o, List.mem_of_getElem? h, by simp [hb]⟩
  rw [this]; simp
theorem all_take_succ {l : List Opn} {k : Nat} {p : Opn} {q : Opn → Bool} (h : l[k]? = some p) (h1 : (l.take k).all q = true) (h2 : q p = true) : (l.take (k + 1)).all q = true := by
  rw [List.take_add_one, h]; simp only [Option.toList, List.all_append, h1, Bool.true_and, List.all_cons, List.all_nil, Bool.and_true]; exact h2
theorem few_ok {l : List Opn} {n : Nat} (h : l.length ≤ n) (h1 : (l.take l.length).all shortOp = true) : few l n = true := by
  rw [List.take_length] at h1; unfold few; rw [h1, decide_eq_true h]; rfl
theorem short_no {o : Opn} (h : 50 < o.name.size ∨ 20 < o.after.length ∨ 20 < o.uses.length) : shortOp o = false := by
  unfold shortOp; rw [decide_eq_false]; omega
theorem short_yes {o : Opn} (h : o.name.size ≤ 50) (h1 : o.after.length ≤ 20) (h2 : o.uses.length ≤ 20) : shortOp o = true := by
  unfold shortOp; rw [decide_eq_true]; exact ⟨h, h1, h2⟩

def sumM (l : List Opn) : Int := (l.map Opn.mins).sum
def halfB (c : Int) (o : Opn) : Bool := decide (c < 2 * o.mins)
def half (l : List Opn) (c : Int) : Nat := (l.filter (halfB c)).length
def overB (c : Int) (o : Opn) : Bool := decide (c < o.mins)
def bndErr (l : List Opn) (c : Int) : Int :=
  if ordErr l ≠ 0 then ordErr l else if c < 1 ∨ 1000000 < c then 3 else if l.any (overB c) = true then 18 else 0
def bndMax (l : List Opn) (c : Int) : Int := max ((sumM l + c - 1) / c) (half l c)
def bndV (l : List Opn) (c : Int) : Int := if bndErr l c ≠ 0 then 0 else bndMax l c

theorem bndErr_ord {l : List Opn} {c : Int} (h : ordErr l ≠ 0) : bndErr l c = ordErr l := by unfold bndErr; rw [if_pos h]
theorem bndErr_range {l : List Opn} {c : Int} (h : ordErr l = 0) (hc : c < 1 ∨ 1000000 < c) : bndErr l c = 3 := by
  unfold bndErr; rw [if_neg (by simp [h]), if_pos hc]
theorem bndErr_over {l : List Opn} {c : Int} {k : Nat} {o : Opn} (h : ordErr l = 0) (h0 : 1 ≤ c) (h1 : c ≤ 1000000) (hk : l[k]? = some o) (ho : c < o.mins) : bndErr l c = 18 := by
  unfold bndErr; rw [if_neg (by simp [h]), if_neg (by omega), if_pos]
  rw [List.any_eq_true]; exact ⟨o, List.mem_of_getElem? hk, by unfold overB; simpa using ho⟩
theorem bndErr_ok {l : List Opn} {c : Int} (h : ordErr l = 0) (h0 : 1 ≤ c) (h1 : c ≤ 1000000) (ho : (l.take l.length).any (overB c) = false) : bndErr l c = 0 := by
  rw [List.take_length] at ho
  unfold bndErr; rw [if_neg (by simp [h]), if_neg (by omega), if_neg (by simp [ho])]
theorem bndErr_zero {l : List Opn} {c : Int} (h : bndErr l c = 0) : ordErr l = 0 ∧ 1 ≤ c ∧ c ≤ 1000000 ∧ ∀ o ∈ l, o.mins ≤ c := by
  unfold bndErr at h
  by_cases h1 : ordErr l ≠ 0
  · rw [if_pos h1] at h; exact absurd h h1
  · rw [if_neg h1] at h
    by_cases h2 : c < 1 ∨ 1000000 < c
    · rw [if_pos h2] at h; cases h
    · rw [if_neg h2] at h
      by_cases h3 : l.any (overB c) = true
      · rw [if_pos h3] at h; cases h
      · refine ⟨by simpa using h1, by omega, by omega, fun o ho => ?_⟩
        have h3' : l.any (overB c) = false := by simpa using h3
        rw [List.any_eq_false] at h3'
        have := h3' o ho
        unfold overB at this; simpa using this
theorem sumM_take {l : List Opn} {k : Nat} {o : Opn} (h : l[k]? = some o) : sumM (l.take (k + 1)) = sumM (l.take k) + o.mins := by
  unfold sumM; rw [List.take_add_one, h]; simp
theorem half_take {l : List Opn} {k : Nat} {o : Opn} (c : Int) (h : l[k]? = some o) : half (l.take (k + 1)) c = half (l.take k) c + (if halfB c o = true then 1 else 0) := by
  unfold half; rw [List.take_add_one, h]; simp only [Option.toList, List.filter_append, List.length_append]
  cases hh : halfB c o <;> simp [hh]
theorem half_le (l : List Opn) (c : Int) : half l c ≤ l.length := by unfold half; exact List.length_filter_le _ _
theorem sumM_bnd {l : List Opn} (h : ∀ o ∈ l, 1 ≤ o.mins ∧ o.mins ≤ 10000) : 0 ≤ sumM l ∧ sumM l ≤ 10000 * l.length := by
  induction l with
  | nil => exact ⟨by decide, by decide⟩
  | cons o l ih =>
    have h1 := h o (by simp)
    have h2 := ih fun x hx => h x (by simp [hx])
    have : sumM (o :: l) = o.mins + sumM l := by unfold sumM; simp
    rw [this, List.length_cons]; omega
theorem sumM_take_bnd {l : List Opn} (h : Sound l) (k : Nat) : 0 ≤ sumM (l.take k) ∧ sumM (l.take k) ≤ 160000 := by
  have := sumM_bnd (l := l.take k) fun o ho => h.mins o (List.mem_of_mem_take ho)
  have hl := h.len
  have : (l.take k).length ≤ 16 := by rw [List.length_take]; omega
  omega
theorem bndV_bad {l : List Opn} {c x : Int} (h : bndErr l c = x) (hx : x ≠ 0) : bndV l c = 0 := by unfold bndV; rw [if_pos (by rw [h]; exact hx)]
theorem bndV_ok {l : List Opn} {c : Int} (h : bndErr l c = 0) : bndV l c = bndMax l c := by unfold bndV; rw [if_neg (by simp [h])]
theorem max_l {q h : Int} {l : List Opn} {c : Int} (e : (sumM l + c - 1) / c = q) (e2 : (half l c : Int) = h) (hq : q < h) : bndMax l c = h := by
  unfold bndMax; rw [e, e2]; omega
theorem max_r {q h : Int} {l : List Opn} {c : Int} (e : (sumM l + c - 1) / c = q) (e2 : (half l c : Int) = h) (hq : h ≤ q) : bndMax l c = q := by
  unfold bndMax; rw [e, e2]; omega
/-- The pair that Bound returns. -/
def BndPost (l : List Opn) (c : Int) (e : Ending) : Prop := e = .returned (.tuple #[.int .i64 (bndV l c), .int .i64 (bndErr l c)])
theorem bndPost_bad {l : List Opn} {c x : Int} (h : bndErr l c = x) (hx : x ≠ 0) : BndPost l c (.returned (.tuple #[.int .i64 0, .int .i64 x])) := by
  unfold BndPost; rw [bndV_bad h hx, h]
theorem bndPost_ok {l : List Opn} {c v : Int} (h : bndErr l c = 0) (hv : bndMax l c = v) : BndPost l c (.returned (.tuple #[.int .i64 v, .int .i64 0])) := by
  unfold BndPost; rw [bndV_ok h, h, hv]


set_option maxRecDepth 100000 in
set_option maxHeartbeats 2000000 in
theorem few_any (A : Option Addr) (cap : Nat) (l : List Opn) (n : Nat) (w : World) (h : ORd w w.heap.size A l) (hn1 : n ≤ 1000) :
    Calls Try.prog 11 #[.slice A l.length cap, .int .i64 n] w fun e w' => e = .returned (.bool (few l n)) ∧ w = w' := by
  have H := Lib.hid h
  clear h
  by_cases hlong : n < l.length
  · have HE := Lib.hid (few_long hlong)
    go_enter Try.func11, Try.ntmps11
    go_wp2
    go_ret
    exact ⟨ret_bool HE.out.symm, rfl⟩
  · go_enter Try.func11, Try.ntmps11
    go_wp2_with fail
    go_loop [5] (fun j => ∃ k : Nat, k ≤ l.length ∧ j = .int .i64 k ∧ (l.take k).all shortOp = true) (fun j => l.length - (intOf j).toNat)
    case atStart => exact ⟨0, Nat.zero_le _, rfl, rfl⟩
    case round =>
      obtain ⟨k, hk, rfl, hu⟩ := hrel
      have HU := Lib.hid hu
      clear hu
      by_cases hlt : k < l.length
      · obtain ⟨b, off, o, rfl, hB, hd, hat⟩ := H.out.at_ (Below.refl _ _) hlt
        obtain ⟨c0, c1, c2, ⟨Aa, ca, c3, a1, a2⟩, ⟨Au, cu, c4, u1, u2⟩⟩ := hat
        have HD := Lib.hid hd
        clear hd a2 u2 c1 c2
        by_cases h1 : 50 < o.name.size
        · have HE := Lib.hid (few_bad (n := n) HD.out (short_no (.inl h1)))
          go_wp2
          go_ret
          exact ⟨ret_bool HE.out.symm, rfl⟩
        · by_cases h2 : 20 < o.after.length
          · have HE := Lib.hid (few_bad (n := n) HD.out (short_no (.inr (.inl h2))))
            go_wp2
            go_ret
            exact ⟨ret_bool HE.out.symm, rfl⟩
          · by_cases h3 : 20 < o.uses.length
            · have HE := Lib.hid (few_bad (n := n) HD.out (short_no (.inr (.inr h3))))
              go_wp2
              go_ret
              exact ⟨ret_bool HE.out.symm, rfl⟩
            · have HY := Lib.hid (all_take_succ HD.out HU.out (short_yes (by omega) (by omega) (by omega)))
              go_wp2
              go_round
              case rel => exact ⟨k + 1, by omega, by go_num, HY.out⟩
              case measure => simp [intOf]; omega
      · have hkl : k = l.length := by omega
        subst hkl
        have HE := Lib.hid (few_ok (n := n) (by omega) HU.out)
        go_wp2
        go_ret
        exact ⟨ret_bool HE.out.symm, rfl⟩

set_option maxRecDepth 100000 in
set_option maxHeartbeats 2000000 in
theorem bound_any (A : Option Addr) (cap : Nat) (l : List Opn) (c : Int) (w : World) (h : ORd w w.heap.size A l) (hn : l.length ≤ 1000) (hcap : l.length ≤ cap) (hs : OSmall l) :
    Calls Try.prog 13 #[.slice A l.length cap, .int .i64 c] w fun e w' => BndPost l c e ∧ Below w.heap.size w w' := by
  have H := Lib.hid h
  have HS := Lib.hid hs
  clear h hs
  go_enter Try.func13, Try.ntmps13
  go_wp2_with fail
  ((with_reducible refine (order_any A cap l _ H.out hn hcap HS.out).mono ?_); rintro e w1 ⟨⟨A1, n1, c1, rfl, hp1, hp2⟩, hb1⟩)
  have HB := Lib.hid hb1
  clear hp1 hp2 hb1
  by_cases hz : ordErr l = 0
  · have HZ := Lib.hid hz
    have HSD := Lib.hid (sound_of (ordErr_zero hz).1)
    have hl16 := (sound_of (ordErr_zero hz).1).len
    clear hz
    rw [HZ.out]
    by_cases hc : c < 1 ∨ 1000000 < c
    · have HE := Lib.hid (bndErr_range HZ.out hc)
      rcases hc with hc | hc <;> (go_wp2; go_ret2; exact ⟨bndPost_bad HE.out (by omega), HB.out⟩)
    · have hc0 : 1 ≤ c := by omega
      have hc1 : c ≤ 1000000 := by omega
      clear hc
      go_wp2_with fail
      go_loopw [8, 9, 11, 28] (fun s g _ j wr => ∃ k : Nat, k ≤ l.length ∧ j = .int .i64 k ∧ s = .int .i64 (sumM (l.take k)) ∧ g = .int .i64 (half (l.take k) c) ∧ (l.take k).any (overB c) = false ∧ Below w.heap.size w wr) (fun _ _ _ j _ => l.length - (intOf j).toNat)
      case atStart => exact ⟨0, Nat.zero_le _, rfl, rfl, rfl, rfl, HB.out⟩
      case round =>
        obtain ⟨k, hk, rfl, rfl, rfl, hu, hb⟩ := hrel
        have HU := Lib.hid hu
        have HB' := Lib.hid hb
        have hsz := hb.size
        clear hu hb
        have hs0 := (sumM_take_bnd HSD.out k).1
        have hs1 := (sumM_take_bnd HSD.out k).2
        have hh1 : half (l.take k) c ≤ 16 := by have := half_le (l.take k) c; rw [List.length_take] at this; omega
        by_cases hlt : k < l.length
        · obtain ⟨b, off, o, rfl, hB, hd, hat⟩ := H.out.at_ HB'.out hlt
          obtain ⟨c0, c1, c2, ⟨Aa, ca, c3, a1, a2⟩, ⟨Au, cu, c4, u1, u2⟩⟩ := hat
          have HD := Lib.hid hd
          have HST := Lib.hid (sumM_take hd)
          have HHT := Lib.hid (half_take c hd)
          have hm0 := (HSD.out.mins o (List.mem_of_getElem? hd)).1
          have hm1 := (HSD.out.mins o (List.mem_of_getElem? hd)).2
          clear hd a2 u2 a1 u1
          by_cases ho : c < o.mins
          · have HE := Lib.hid (bndErr_over HZ.out hc0 hc1 HD.out ho)
            go_wp2
            go_ret2
            exact ⟨bndPost_bad HE.out (by omega), HB'.out.alloc hsz _⟩
          · have HUS := Lib.hid (any_take_succ (q := overB c) HD.out HU.out (by unfold overB; simpa using ho))
            by_cases hh : c < 2 * o.mins
            · have HHE : Hid (half (l.take (k + 1)) c = half (l.take k) c + 1) := by
                show _ = _
                rw [HHT.out, if_pos (by unfold halfB; simpa using hh)]
              go_wp2
              go_roundw
              case rel => exact ⟨k + 1, by omega, by go_num, by rw [HST.out]; try go_num, by rw [HHE.out]; go_num, HUS.out, HB'.out.alloc hsz _⟩
              case measure => simp [intOf]; omega
            · have HHE : Hid (half (l.take (k + 1)) c = half (l.take k) c) := by
                show _ = _
                rw [HHT.out, if_neg (by unfold halfB; simpa using hh)]; rfl
              go_wp2
              go_roundw
              case rel => exact ⟨k + 1, by omega, by go_num, by rw [HST.out]; try go_num, by rw [HHE.out], HUS.out, HB'.out.alloc hsz _⟩
              case measure => simp [intOf]; omega
        · have hkl : k = l.length := by omega
          subst hkl
          have HE := Lib.hid (bndErr_ok HZ.out hc0 hc1 HU.out)
          have hne : c ≠ 0 := by omega
          rw [List.take_length] at hs0 hs1 hh1
          rw [List.take_length]
          go_wp2
          all_goals go_ret2
          · exact ⟨bndPost_ok HE.out (max_l rfl rfl (by assumption)), HB'.out⟩
          · exact ⟨bndPost_ok HE.out (max_r rfl rfl (by assumption)), HB'.out⟩
  · have HE := Lib.hid (bndErr_ord (c := c) hz)
    have HNE := Lib.hid hz
    have hne : (ordErr l != 0) = true := by simpa using hz
    clear hz
    go_wp2
    go_ret2
    exact ⟨bndPost_bad HE.out HNE.out, HB.out⟩

set_option maxRecDepth 100000 in
set_option maxHeartbeats 2000000 in
theorem begin_any (A : Option Addr) (cap : Nat) (l : List Opn) (c : Int) (w : World) (h : ORd w w.heap.size A l) (hn : l.length ≤ 1000) (hs : OSmall l) :
    Calls Try.prog 25 #[.slice A l.length cap, .int .i64 c] w fun e w' => e = .returned (.int .i64 (bndErr l c)) ∧ Below w.heap.size w w' := by
  have H := Lib.hid h
  have HS := Lib.hid hs
  clear h hs
  go_enter Try.func25, Try.ntmps25
  go_wp2_with fail
  ((with_reducible refine (refOrder_any A cap l _ H.out hn HS.out).mono ?_); rintro e w1 ⟨⟨A1, n1, c1, rfl, hp1, hp2⟩, hb1⟩)
  have HB := Lib.hid hb1
  clear hp1 hp2 hb1
  by_cases hz : ordErr l = 0
  · have HZ := Lib.hid hz
    have hl16 := (sound_of (ordErr_zero hz).1).len
    clear hz
    rw [HZ.out]
    by_cases hc : c < 1 ∨ 1000000 < c
    · have HE := Lib.hid (bndErr_range HZ.out hc)
      rcases hc with hc | hc <;> (go_wp2; go_ret; exact ⟨ret_int HE.out.symm, HB.out⟩)
    · have hc0 : 1 ≤ c := by omega
      have hc1 : c ≤ 1000000 := by omega
      clear hc
      go_wp2_with fail
      go_loop [7] (fun j => ∃ k : Nat, k ≤ l.length ∧ j = .int .i64 k ∧ (l.take k).any (overB c) = false) (fun j => l.length - (intOf j).toNat)
      case atStart => exact ⟨0, Nat.zero_le _, rfl, rfl⟩
      case round =>
        obtain ⟨k, hk, rfl, hu⟩ := hrel
        have HU := Lib.hid hu
        clear hu
        by_cases hlt : k < l.length
        · obtain ⟨b, off, o, rfl, hB, hd, hat⟩ := H.out.at_ HB.out hlt
          obtain ⟨c0, c1, c2, ⟨Aa, ca, c3, a1, a2⟩, ⟨Au, cu, c4, u1, u2⟩⟩ := hat
          have HD := Lib.hid hd
          clear hd a2 u2 a1 u1
          by_cases ho : c < o.mins
          · have HE := Lib.hid (bndErr_over HZ.out hc0 hc1 HD.out ho)
            go_wp2
            go_ret
            exact ⟨ret_int HE.out.symm, HB.out⟩
          · have HUS := Lib.hid (any_take_succ (q := overB c) HD.out HU.out (by unfold overB; simpa using ho))
            go_wp2
            go_round
            case rel => exact ⟨k + 1, by omega, by go_num, HUS.out⟩
            case measure => simp [intOf]; omega
        · have hkl : k = l.length := by omega
          subst hkl
          have HE := Lib.hid (bndErr_ok HZ.out hc0 hc1 HU.out)
          go_wp2
          go_ret
          exact ⟨ret_int HE.out.symm, HB.out⟩
  · have HE := Lib.hid (bndErr_ord (c := c) hz)
    have hne : (ordErr l != 0) = true := by simpa using hz
    clear hz
    go_wp2
    go_ret
    exact ⟨ret_int HE.out.symm, HB.out⟩

set_option maxRecDepth 100000 in
set_option maxHeartbeats 2000000 in
theorem refbound_any (A : Option Addr) (cap : Nat) (l : List Opn) (c : Int) (w : World) (h : ORd w w.heap.size A l) (hz : bndErr l c = 0) :
    Calls Try.prog 26 #[.slice A l.length cap, .int .i64 c] w fun e w' => e = .returned (.int .i64 (bndMax l c)) ∧ w = w' := by
  have H := Lib.hid h
  obtain ⟨ho, hc0, hc1, -⟩ := bndErr_zero hz
  have HSD := Lib.hid (sound_of (ordErr_zero ho).1)
  have hl16 := (sound_of (ordErr_zero ho).1).len
  clear h ho hz
  go_enter Try.func26, Try.ntmps26
  go_wp2_with fail
  go_loop [5, 6, 7] (fun s g j => ∃ k : Nat, k ≤ l.length ∧ j = .int .i64 k ∧ s = .int .i64 (sumM (l.take k)) ∧ g = .int .i64 (half (l.take k) c)) (fun _ _ j => l.length - (intOf j).toNat)
  case atStart => exact ⟨0, Nat.zero_le _, rfl, rfl, rfl⟩
  case round =>
    obtain ⟨k, hk, rfl, rfl, rfl⟩ := hrel
    have hs0 := (sumM_take_bnd HSD.out k).1
    have hs1 := (sumM_take_bnd HSD.out k).2
    have hh1 : half (l.take k) c ≤ 16 := by have := half_le (l.take k) c; rw [List.length_take] at this; omega
    by_cases hlt : k < l.length
    · obtain ⟨b, off, o, rfl, hB, hd, hat⟩ := H.out.at_ (Below.refl _ _) hlt
      obtain ⟨c0, c1, c2, ⟨Aa, ca, c3, a1, a2⟩, ⟨Au, cu, c4, u1, u2⟩⟩ := hat
      have HD := Lib.hid hd
      have HST := Lib.hid (sumM_take hd)
      have HHT := Lib.hid (half_take c hd)
      have hm0 := (HSD.out.mins o (List.mem_of_getElem? hd)).1
      have hm1 := (HSD.out.mins o (List.mem_of_getElem? hd)).2
      clear hd a2 u2 a1 u1
      by_cases hh : c < 2 * o.mins
      · have HHE : Hid (half (l.take (k + 1)) c = half (l.take k) c + 1) := by
          show _ = _
          rw [HHT.out, if_pos (by unfold halfB; simpa using hh)]
        go_wp2
        go_round
        case rel => exact ⟨k + 1, by omega, by go_num, by rw [HST.out]; try go_num, by rw [HHE.out]; go_num⟩
        case measure => simp [intOf]; omega
      · have HHE : Hid (half (l.take (k + 1)) c = half (l.take k) c) := by
          show _ = _
          rw [HHT.out, if_neg (by unfold halfB; simpa using hh)]; rfl
        go_wp2
        go_round
        case rel => exact ⟨k + 1, by omega, by go_num, by rw [HST.out]; try go_num, by rw [HHE.out]⟩
        case measure => simp [intOf]; omega
    · have hkl : k = l.length := by omega
      subst hkl
      have hne : c ≠ 0 := by omega
      rw [List.take_length] at hs0 hs1 hh1
      rw [List.take_length]
      go_wp2
      all_goals go_ret
      · exact ⟨ret_int (max_l rfl rfl (by assumption)).symm, rfl⟩
      · exact ⟨ret_int (max_r rfl rfl (by assumption)).symm, rfl⟩

set_option maxHeartbeats 1000000 in
theorem refBound_any (A : Option Addr) (cap : Nat) (l : List Opn) (c : Int) (w : World) (h : ORd w w.heap.size A l) (hn : l.length ≤ 1000) (hs : OSmall l) :
    Calls Try.prog 14 #[.slice A l.length cap, .int .i64 c] w fun e w' => BndPost l c e ∧ Below w.heap.size w w' := by
  have H := Lib.hid h
  have HS := Lib.hid hs
  clear h hs
  go_enter Try.func14, Try.ntmps14
  go_wp2_with fail
  ((with_reducible refine (begin_any A cap l c _ H.out hn HS.out).mono ?_); rintro e w1 ⟨rfl, hb1⟩)
  have HR1 := Lib.hid ((H.out.below hb1).more hb1.size)
  have HB1 := Lib.hid hb1
  clear hb1
  by_cases hz : bndErr l c = 0
  · have HZ := Lib.hid hz
    clear hz
    rw [HZ.out]
    go_wp2_with fail
    ((with_reducible refine (refbound_any A cap l c _ HR1.out HZ.out).mono ?_); rintro e w2 ⟨rfl, rfl⟩)
    go_wp2
    go_ret2
    exact ⟨bndPost_ok HZ.out rfl, HB1.out⟩
  · have HNE := Lib.hid hz
    have hne : (bndErr l c != 0) = true := by simpa using hz
    clear hz
    go_wp2
    go_ret2
    exact ⟨bndPost_bad rfl HNE.out, HB1.out⟩
end Go.Proofs.Ytlbkfphepneflaa
