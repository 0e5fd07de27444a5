/- The examples of the chapter on the flow, reckoned; the walk of example. -/
import Derived.Test.YtelgkangojmhdaaFlowLaw1
namespace Go.Proofs.Ytelgkangojmhdaa
open Go.RowKit

def exO : List Opn := [⟨⟨#[97]⟩, 0, 2, [], []⟩, ⟨⟨#[98]⟩, 1, 3, [0], []⟩]
def exS : List (List Int) := [[0], [1]]
def exB : List Bn := [⟨1, 0, 0, 0, 0, 1⟩, ⟨2, 0, 0, 0, 4, 5⟩]
def exD : List M.Dn := [⟨0, 1, 11⟩]
def exT : List Tsk := [⟨1, 0, 0, 0, 2⟩, ⟨1, 1, 1, 2, 5⟩, ⟨2, 0, 0, 2, 4⟩, ⟨2, 1, 1, 5, 8⟩]
theorem exB_sort : sortB exB = exB := (sortB_is (by decide) (List.Perm.refl _) (by decide)).symm
theorem ex_com : comErr exO exS exB [] = 0 := by kernel_rfl
theorem ex_com2 : comErr exO exS exB exD = 0 := by kernel_rfl
theorem ex_sim0 : simR exO (puts exO.length (flat exS)).2 [] exB (exO.length * exB.length) [] = (0, exT) := by kernel_rfl
theorem ex_sim : simRes exO exS exB [] = (0, exT) := by
  unfold simRes; rw [if_neg (by rw [ex_com]; simp), exB_sort]; exact ex_sim0
def exT2 : List Tsk := [⟨1, 0, 0, 0, 12⟩, ⟨1, 1, 1, 12, 15⟩, ⟨2, 0, 0, 12, 14⟩, ⟨2, 1, 1, 15, 18⟩]
theorem ex_sim20 : simR exO (puts exO.length (flat exS)).2 exD exB (exO.length * exB.length) [] = (0, exT2) := by kernel_rfl
theorem ex_sim2 : simRes exO exS exB exD = (0, exT2) := by
  unfold simRes; rw [if_neg (by rw [ex_com2]; simp), exB_sort]; exact ex_sim20
theorem ex_chk1 : chkF exO exS exB [] exT = 0 := by kernel_rfl
theorem ex_chk2 : chkF exO exS exB [] (exT.drop 1) = 21 := by kernel_rfl
theorem ex_chk3 : chkF exO exS exB [] (exT.take 3) = 20 := by kernel_rfl
theorem ex_span : spanOf exT = 8 := by kernel_rfl

theorem ird_nil (w : World) (B : Nat) (A : Option Addr) : IRd w B A [] := fun h => absurd rfl h
theorem Blk.newAt (w : World) (cs : Array Value) (t : TypeId) {n : Nat} (h : w.heap.size = n) : Blk (w.alloc (.cells cs t)) n t cs.toList := by subst h; exact Blk.new w cs t
theorem Blk.ird {w : World} {b : Nat} {t : TypeId} {q : List Int} (h : Blk w b t (q.map (Value.int .i64))) {B : Nat} (hB : b < B) : IRd w B (some ⟨b, 0, none⟩) q := by
  intro _
  exact ⟨b, 0, rfl, hB, fun i x hx => by rw [Nat.zero_add]; exact h.cell (by rw [List.getElem?_map, hx]; rfl)⟩
/-- What example returns. -/
def ExPost (e : Ending) (w' : World) : Prop :=
  ∃ b1 b2 b3, e = .returned (.agg #[.slice (some ⟨b1, 0, none⟩) 2 2, .slice (some ⟨b2, 0, none⟩) 2 2, .slice (some ⟨b3, 0, none⟩) 2 2, .slice none 0 0]) ∧ ORd w' w'.heap.size (some ⟨b1, 0, none⟩) exO ∧ SRd w' w'.heap.size (some ⟨b2, 0, none⟩) exS ∧ BRd w' w'.heap.size (some ⟨b3, 0, none⟩) exB
set_option maxRecDepth 100000 in
set_option maxHeartbeats 2000000 in
theorem example_any (w : World) : Calls Try.prog 29 #[] w fun e w' => ExPost e w' ∧ Below w.heap.size w w' := by
  go_enter Try.func29, Try.ntmps29
  go_wp2_with fail
  obtain ⟨w1, hw1⟩ : ∃ w1, w1 = w.alloc (.cells #[.slice (some ⟨w.heap.size + 1 + 1, 0, none⟩) 2 2, .slice (some ⟨w.heap.size + 1 + 1 + 1 + 1 + 1, 0, none⟩) 2 2, .slice (some ⟨w.heap.size + 1 + 1 + 1 + 1 + 1 + 1, 0, none⟩) 2 2, .slice none 0 0] 27) := ⟨_, rfl⟩
  have s1 : w1.heap.size = w.heap.size + 1 := by rw [hw1]; simp
  have K0 : Blk w1 w.heap.size 27 [.slice (some ⟨w.heap.size + 1 + 1, 0, none⟩) 2 2, .slice (some ⟨w.heap.size + 1 + 1 + 1 + 1 + 1, 0, none⟩) 2 2, .slice (some ⟨w.heap.size + 1 + 1 + 1 + 1 + 1 + 1, 0, none⟩) 2 2, .slice none 0 0] := by rw [hw1]; exact Blk.new _ _ _
  have L1 : Below w.heap.size w w1 := by rw [hw1]; exact below_new _ _
  rw [← hw1]
  clear hw1
  obtain ⟨w2, hw2⟩ : ∃ w2, w2 = w1.alloc (.cells #[.int .i64 0] 3) := ⟨_, rfl⟩
  have s2 : w2.heap.size = w.heap.size + 1 + 1 := by rw [hw2]; simp; omega
  have K1 : Blk w2 (w.heap.size + 1) 3 [.int .i64 0] := by rw [hw2]; exact Blk.newAt _ _ _ s1
  have L2 : Below w1.heap.size w1 w2 := by rw [hw2]; exact below_new _ _
  rw [← hw2]
  clear hw2
  obtain ⟨w3, hw3⟩ : ∃ w3, w3 = w2.alloc (.cells #[.string ⟨#[97]⟩, .int .i64 0, .int .i64 2, .slice none 0 0, .slice none 0 0, .string ⟨#[98]⟩, .int .i64 1, .int .i64 3, .slice (some ⟨w.heap.size + 1, 0, none⟩) 1 1, .slice none 0 0] 46) := ⟨_, rfl⟩
  have s3 : w3.heap.size = w.heap.size + 1 + 1 + 1 := by rw [hw3]; simp; omega
  have K2 : Blk w3 (w.heap.size + 1 + 1) 46 [.string ⟨#[97]⟩, .int .i64 0, .int .i64 2, .slice none 0 0, .slice none 0 0, .string ⟨#[98]⟩, .int .i64 1, .int .i64 3, .slice (some ⟨w.heap.size + 1, 0, none⟩) 1 1, .slice none 0 0] := by rw [hw3]; exact Blk.newAt _ _ _ s2
  have L3 : Below w2.heap.size w2 w3 := by rw [hw3]; exact below_new _ _
  rw [← hw3]
  clear hw3
  obtain ⟨w4, hw4⟩ : ∃ w4, w4 = w3.alloc (.cells #[.int .i64 0] 3) := ⟨_, rfl⟩
  have s4 : w4.heap.size = w.heap.size + 1 + 1 + 1 + 1 := by rw [hw4]; simp; omega
  have K3 : Blk w4 (w.heap.size + 1 + 1 + 1) 3 [.int .i64 0] := by rw [hw4]; exact Blk.newAt _ _ _ s3
  have L4 : Below w3.heap.size w3 w4 := by rw [hw4]; exact below_new _ _
  rw [← hw4]
  clear hw4
  obtain ⟨w5, hw5⟩ : ∃ w5, w5 = w4.alloc (.cells #[.int .i64 1] 3) := ⟨_, rfl⟩
  have s5 : w5.heap.size = w.heap.size + 1 + 1 + 1 + 1 + 1 := by rw [hw5]; simp; omega
  have K4 : Blk w5 (w.heap.size + 1 + 1 + 1 + 1) 3 [.int .i64 1] := by rw [hw5]; exact Blk.newAt _ _ _ s4
  have L5 : Below w4.heap.size w4 w5 := by rw [hw5]; exact below_new _ _
  rw [← hw5]
  clear hw5
  obtain ⟨w6, hw6⟩ : ∃ w6, w6 = w5.alloc (.cells #[.slice (some ⟨w.heap.size + 1 + 1 + 1, 0, none⟩) 1 1, .slice (some ⟨w.heap.size + 1 + 1 + 1 + 1, 0, none⟩) 1 1] 33) := ⟨_, rfl⟩
  have s6 : w6.heap.size = w.heap.size + 1 + 1 + 1 + 1 + 1 + 1 := by rw [hw6]; simp; omega
  have K5 : Blk w6 (w.heap.size + 1 + 1 + 1 + 1 + 1) 33 [.slice (some ⟨w.heap.size + 1 + 1 + 1, 0, none⟩) 1 1, .slice (some ⟨w.heap.size + 1 + 1 + 1 + 1, 0, none⟩) 1 1] := by rw [hw6]; exact Blk.newAt _ _ _ s5
  have L6 : Below w5.heap.size w5 w6 := by rw [hw6]; exact below_new _ _
  rw [← hw6]
  clear hw6
  obtain ⟨w7, hw7⟩ : ∃ w7, w7 = w6.alloc (.cells #[.int .i64 1, .int .i64 0, .int .i64 0, .int .i64 0, .int .i64 0, .int .i64 1, .int .i64 2, .int .i64 0, .int .i64 0, .int .i64 0, .int .i64 4, .int .i64 5] 42) := ⟨_, rfl⟩
  have s7 : w7.heap.size = w.heap.size + 1 + 1 + 1 + 1 + 1 + 1 + 1 := by rw [hw7]; simp; omega
  have K6 : Blk w7 (w.heap.size + 1 + 1 + 1 + 1 + 1 + 1) 42 [.int .i64 1, .int .i64 0, .int .i64 0, .int .i64 0, .int .i64 0, .int .i64 1, .int .i64 2, .int .i64 0, .int .i64 0, .int .i64 0, .int .i64 4, .int .i64 5] := by rw [hw7]; exact Blk.newAt _ _ _ s6
  have L7 : Below w6.heap.size w6 w7 := by rw [hw7]; exact below_new _ _
  rw [← hw7]
  clear hw7
  have K5 := K5.below L7 K5.lt
  have K4 := (K4.below L6 K4.lt).below L7 (K4.below L6 K4.lt).lt
  have K3 := ((K3.below L5 K3.lt).below L6 (K3.below L5 K3.lt).lt)
  have K3 := K3.below L7 K3.lt
  have K2 := (K2.below L4 K2.lt).below L5 (K2.below L4 K2.lt).lt
  have K2 := K2.below L6 K2.lt
  have K2 := K2.below L7 K2.lt
  have K1 := (K1.below L3 K1.lt).below L4 (K1.below L3 K1.lt).lt
  have K1 := K1.below L5 K1.lt
  have K1 := K1.below L6 K1.lt
  have K1 := K1.below L7 K1.lt
  have K0 := (K0.below L2 K0.lt).below L3 (K0.below L2 K0.lt).lt
  have K0 := K0.below L4 K0.lt
  have K0 := K0.below L5 K0.lt
  have K0 := K0.below L6 K0.lt
  have K0 := K0.below L7 K0.lt
  have a0 := K0.cell (i := 0) rfl
  have a1 := K0.cell (i := 1) rfl
  have a2 := K0.cell (i := 2) rfl
  have a3 := K0.cell (i := 3) rfl
  refine bodyPost_ret (v := .agg #[.slice (some ⟨w.heap.size + 1 + 1, 0, none⟩) 2 2, .slice (some ⟨w.heap.size + 1 + 1 + 1 + 1 + 1, 0, none⟩) 2 2, .slice (some ⟨w.heap.size + 1 + 1 + 1 + 1 + 1 + 1, 0, none⟩) 2 2, .slice none 0 0]) (by simp [results, Try.results29, go_sem, a0, a1, a2, a3]) rfl ⟨⟨_, _, _, rfl, ?_, ?_, ?_⟩, ?_⟩
  · intro _
    refine ⟨w.heap.size + 1 + 1, 0, rfl, by omega, fun i o ho => ?_⟩
    match i, ho with
    | 0, ho =>
      cases ho
      exact ⟨K2.cell (i := 0) rfl, K2.cell (i := 1) rfl, K2.cell (i := 2) rfl, ⟨none, 0, K2.cell (i := 3) rfl, Nat.le_refl _, ird_nil _ _ _⟩, ⟨none, 0, K2.cell (i := 4) rfl, Nat.le_refl _, ird_nil _ _ _⟩⟩
    | 1, ho =>
      cases ho
      exact ⟨K2.cell (i := 5) rfl, K2.cell (i := 6) rfl, K2.cell (i := 7) rfl, ⟨some ⟨w.heap.size + 1, 0, none⟩, 1, K2.cell (i := 8) rfl, Nat.le_refl _, Blk.ird (q := [0]) K1 (by omega)⟩, ⟨none, 0, K2.cell (i := 9) rfl, Nat.le_refl _, ird_nil _ _ _⟩⟩
    | i + 2, ho => simp [exO] at ho
  · intro _
    refine ⟨w.heap.size + 1 + 1 + 1 + 1 + 1, 0, rfl, by omega, fun i q hq => ?_⟩
    match i, hq with
    | 0, hq => cases hq; exact ⟨_, 1, K5.cell (i := 0) rfl, Nat.le_refl _, Blk.ird (q := [0]) K3 (by omega)⟩
    | 1, hq => cases hq; exact ⟨_, 1, K5.cell (i := 1) rfl, Nat.le_refl _, Blk.ird (q := [1]) K4 (by omega)⟩
    | i + 2, hq => simp [exS] at hq
  · intro _
    refine ⟨w.heap.size + 1 + 1 + 1 + 1 + 1 + 1, 0, rfl, by omega, fun i x hx => ?_⟩
    match i, hx with
    | 0, hx => cases hx; exact ⟨K6.cell (i := 0) rfl, K6.cell (i := 1) rfl, K6.cell (i := 2) rfl, K6.cell (i := 3) rfl, K6.cell (i := 4) rfl, K6.cell (i := 5) rfl⟩
    | 1, hx => cases hx; exact ⟨K6.cell (i := 6) rfl, K6.cell (i := 7) rfl, K6.cell (i := 8) rfl, K6.cell (i := 9) rfl, K6.cell (i := 10) rfl, K6.cell (i := 11) rfl⟩
    | i + 2, hx => simp [exB] at hx
  · exact keepB L1 (keepB L2 (keepB L3 (keepB L4 (keepB L5 (keepB L6 L7)))))
end Go.Proofs.Ytelgkangojmhdaa
