/- line.first: the walk. -/
import Derived.Test.YtlbkfphepneflaaLeast
namespace Go.Proofs.Ytlbkfphepneflaa
open Go.RowKit

/-- Only block b and new blocks may differ. -/
structure But (b : Nat) (w w' : World) : Prop where
  os : w'.os = w.os
  tape : w'.tape = w.tape
  output : w'.output = w.output
  size : w.heap.size ≤ w'.heap.size
  block : ∀ k, k < w.heap.size → k ≠ b → w'.heap[k]? = w.heap[k]?
theorem But.refl (b : Nat) (w : World) : But b w w := ⟨rfl, rfl, rfl, Nat.le_refl _, fun _ _ _ => rfl⟩
theorem But.put {b i : Nat} {w w' : World} (h : But b w w') (u : Value) : But b w (w'.setCell ⟨b, i, none⟩ u) :=
  ⟨h.os, h.tape, h.output, by have := h.size; simp [World.setCell]; exact this, fun k h1 h2 => (Below.heap_setCell w' _ u k h2).trans (h.block k h1 h2)⟩
theorem But.then_ {b : Nat} {w w1 w2 : World} (h : But b w w1) (hb : Below w1.heap.size w1 w2) : But b w w2 :=
  ⟨hb.os.trans h.os, hb.tape.trans h.tape, hb.output.trans h.output, Nat.le_trans h.size hb.size, fun k h1 h2 => (hb.block k (Nat.lt_of_lt_of_le h1 h.size)).trans (h.block k h1 h2)⟩
theorem But.below {b B : Nat} {w w' : World} (h : But b w w') (hB : B ≤ b) (hw : B ≤ w.heap.size) : Below B w w' :=
  ⟨h.os, h.tape, h.output, h.size, fun k hk => h.block k (by omega) (by omega)⟩
theorem But.whole {b : Nat} {w w' : World} {xs : List Int} (h : But b w w') (h1 : Row w b xs) (h2 : Row w' b xs) : Below w.heap.size w w' :=
  ⟨h.os, h.tape, h.output, h.size, fun k hk => by
    by_cases e : k = b
    · subst e; exact Eq.trans h2 (Eq.symm h1)
    · exact h.block k hk e⟩

/-- The least number below m that passes, else m. -/
def findN (p : Nat → Bool) (m : Nat) : Nat := ((List.range m).find? p).getD m
theorem findN_hit {p : Nat → Bool} {m k : Nat} (hk : k < m) (h : p k = true) (hb : ∀ j, j < k → p j = false) : findN p m = k := by
  unfold findN
  have : (List.range m).find? p = some k := by
    rw [List.find?_eq_some_iff_getElem]
    exact ⟨h, k, by simpa using hk, by simp, fun j hj => by simpa using hb j hj⟩
  rw [this]; rfl
theorem findN_miss {p : Nat → Bool} {m : Nat} (hb : ∀ j, j < m → p j = false) : findN p m = m := by
  unfold findN
  have : (List.range m).find? p = none := by
    rw [List.find?_eq_none]
    intro x hx
    simpa using hb x (by simpa using hx)
  rw [this]; rfl
theorem findN_le (p : Nat → Bool) (m : Nat) : findN p m ≤ m := by
  unfold findN
  cases h : (List.range m).find? p with
  | none => simp
  | some k => have := List.mem_of_find?_eq_some h; simp at this; simp; omega
/-- The least station of operation i. -/
def firstK (l : List Opn) (c : Int) (at_ : List Int) (i : Nat) (K : Nat) : Nat := findN (fun k => leastB l c (at_.set i k) (K * c)) (K - 1)

theorem at_set_bnd {at_ : List Int} (ha : ∀ x ∈ at_, -1 ≤ x ∧ x ≤ 1000) {i : Nat} {v : Int} (h0 : -1 ≤ v) (h1 : v ≤ 1000) : ∀ x ∈ at_.set i v, -1 ≤ x ∧ x ≤ 1000 := by
  intro x hx
  rcases List.mem_or_eq_of_mem_set hx with hx | rfl
  · exact ha x hx
  · exact ⟨h0, h1⟩

theorem set_self {q : List Int} {i : Nat} {x : Int} (h : q[i]? = some x) : q.set i x = q := by
  apply List.ext_getElem?
  intro j
  rw [List.getElem?_set]
  split
  · rename_i e; subst e; rw [h, if_pos (List.getElem?_eq_some_iff.1 h).1]
  · rfl

set_option maxRecDepth 100000 in
set_option maxHeartbeats 2000000 in
theorem first_any (A : Option Addr) (cap : Nat) (l : List Opn) (c : Int) (ba capA : Nat) (at_ : List Int) (i K : Nat) (w : World) (h : ORd w ba A l) (hs : OSmall l) (hsd : Sound l)
    (hrow : Row w ba at_) (hla : at_.length = l.length) (ha : ∀ x ∈ at_, -1 ≤ x ∧ x ≤ 1000) (hi : i < l.length) (hati : at_[i]? = some (-1)) (hc0 : 1 ≤ c) (hc1 : c ≤ 1000000) (hK0 : 1 ≤ K) (hK1 : K ≤ 16) :
    Calls Try.prog 28 #[.slice A l.length cap, .int .i64 c, .slice (some ⟨ba, 0, none⟩) l.length capA, .int .i64 i, .int .i64 (K * c)] w fun e w' => e = .returned (.int .i64 (firstK l c at_ i K)) ∧ Below w.heap.size w w' := by
  have H := Lib.hid h
  have HS := Lib.hid hs
  have HSD := Lib.hid hsd
  have HROW := Lib.hid hrow
  have HLA := Lib.hid hla
  have HAB := Lib.hid ha
  have HATI := Lib.hid hati
  have hbl := hrow.lt
  have hn : l.length ≤ 16 := hsd.len
  have hKc0 : 0 ≤ (K : Int) * c := Int.mul_nonneg (by omega) (by omega)
  have hKc1 : (K : Int) * c ≤ 16000000 := by
    have := Int.mul_le_mul (show (K : Int) ≤ 16 by omega) hc1 (by omega) (by omega)
    omega
  have hq : (K : Int) * c / c = K := Int.mul_ediv_cancel _ (by omega)
  obtain ⟨L, HL⟩ : ∃ L : Int, Hid (L = (K : Int) * c) := ⟨_, rfl⟩
  rw [← HL.out] at hKc0 hKc1 hq
  rw [← HL.out]
  have HP : Hid (∀ p : Nat, p = firstK l c at_ i K → p = findN (fun k => leastB l c (at_.set i k) L) (K - 1)) := fun p hp => by rw [hp, HL.out]; rfl
  clear h hs hsd hrow hla ha hati
  obtain ⟨M, rfl⟩ : ∃ M : Nat, K = M + 1 := ⟨K - 1, by omega⟩
  have hne : c ≠ 0 := by omega
  go_enter Try.func28, Try.ntmps28
  go_wp2_with fail
  clear hq
  go_loopw [12, 13, 14, 20] (fun _ _ _ j wr => ∃ (k : Nat) (x : Int), k ≤ M ∧ j = .int .i64 k ∧ Row wr ba (at_.set i x) ∧ But ba w wr ∧ ∀ q, q < k → leastB l c (at_.set i q) L = false) (fun _ _ _ j _ => M - (intOf j).toNat)
  case atStart => exact ⟨0, -1, Nat.zero_le _, rfl, by rw [set_self HATI.out]; exact HROW.out, But.refl _ _, fun q hq => absurd hq (by omega)⟩
  case round =>
    obtain ⟨k, x, hk, rfl, hrow, hbut, hno⟩ := hrel
    have HR := Lib.hid hrow
    have HBT := Lib.hid hbut
    have HNO := Lib.hid hno
    have hrl := hrow.lt
    have cx := hrow.cell (i := i) (x := x) (by rw [List.getElem?_set, if_pos rfl, if_pos (by rw [HLA.out]; exact hi)])
    have cf := hrow.free i
    have HFIN : Hid (Below w.heap.size w (wr.setCell ⟨ba, i, none⟩ (.int .i64 (-1)))) := (hbut.put _).whole HROW.out (by have := hrow.put i (-1); rw [List.set_set, set_self HATI.out] at this; exact this)
    clear hrow hbut hno
    by_cases hlt : k < M
    · have HR1 : Hid (Row (wr.setCell ⟨ba, i, none⟩ (.int .i64 (k : Int))) ba (at_.set i k)) := by have := HR.out.put i (k : Int); rw [List.set_set] at this; exact this
      have HB1 := Lib.hid (HBT.out.put (i := i) (.int .i64 (k : Int)))
      have HO1 := Lib.hid ((H.out.below (HB1.out.below (Nat.le_refl _) (by omega))).more (Nat.le_of_lt HR1.out.lt))
      have HI1 := Lib.hid (HR1.out.ird HR1.out.lt)
      go_wp2_with fail
      clear cx cf
      revert HR1 HB1 HO1 HI1
      generalize wr.setCell ⟨ba, i, none⟩ (.int .i64 (k : Int)) = w1
      intro HR1 HB1 HO1 HI1
      ((with_reducible refine (least_any A cap l c (some ⟨ba, 0, none⟩) capA (at_.set i k) L _ HO1.out HS.out HSD.out HI1.out (by rw [List.length_set]; exact HLA.out) (at_set_bnd HAB.out (by omega) (by omega)) hc0 hc1 hKc0 (by omega)).mono ?_); rintro e w2 ⟨rfl, hb2⟩)
      have HB2 := Lib.hid (HB1.out.then_ hb2)
      have HR2 := Lib.hid (HR1.out.below hb2 HR1.out.lt)
      have hr2 := HR2.out.lt
      have cx := HR2.out.cell (i := i) (x := (k : Int)) (by rw [List.getElem?_set, if_pos rfl, if_pos (by rw [HLA.out]; exact hi)])
      have cf := HR2.out.free i
      clear hb2
      cases hlb : leastB l c (at_.set i k) L with
      | true =>
        have HE : Hid (firstK l c at_ i (M + 1) = k) := by
          show _ = _
          rw [HP.out _ rfl]
          exact findN_hit (by omega) hlb HNO.out
        have HF2 : Hid (Below w.heap.size w (w2.setCell ⟨ba, i, none⟩ (.int .i64 (-1)))) := (HB2.out.put _).whole HROW.out (by have := HR2.out.put i (-1); rw [List.set_set, set_self HATI.out] at this; exact this)
        clear hlb
        go_wp2
        go_ret
        exact ⟨ret_int (by rw [HE.out]), HF2.out⟩
      | false =>
        have HN2 := Lib.hid (upto_succ HNO.out hlb)
        clear hlb
        go_wp2
        go_roundw
        case rel => exact ⟨k + 1, k, by omega, by go_num, HR2.out, HB2.out, HN2.out⟩
        case measure => simp [intOf]; omega
    · obtain rfl : M = k := by omega
      have HE : Hid (firstK l c at_ i (M + 1) = M) := by
        show _ = _
        rw [HP.out _ rfl]
        exact findN_miss HNO.out
      go_wp2
      go_ret
      exact ⟨ret_int (by rw [HE.out]), HFIN.out⟩
end Go.Proofs.Ytlbkfphepneflaa
