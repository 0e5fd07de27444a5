/- Rows of ints that a call makes and writes; words as sets of bits. -/
import Derived.Test.YtlbkfphepneflaaLine1
import Derived.Laws.MakeOwn
namespace Go.Proofs.Ytlbkfphepneflaa
open Go.RowKit

/-! ## Words as sets -/
theorem ofInt64 (a : Nat) (h : a < 2 ^ 64) : (BitVec.ofInt 64 (a : Int)).toNat = a := by
  rw [BitVec.toNat_ofInt]; simp; omega
theorem wrapI (n : Int) (h0 : -9223372036854775808 ≤ n) (h1 : n < 9223372036854775808) : IntKind.i64.wrap n = n := by
  simp [IntKind.wrap, IntKind.bits, IntKind.signed]
  split <;> omega
theorem i64_or (a b : Nat) (ha : a < 2 ^ 62) (hb : b < 2 ^ 62) : bits .or .i64 (a : Int) (b : Int) = ((a ||| b : Nat) : Int) := by
  show IntKind.i64.wrap ((BitVec.ofInt 64 (a : Int) ||| BitVec.ofInt 64 (b : Int)).toNat : Int) = _
  rw [BitVec.toNat_or, ofInt64 a (by omega), ofInt64 b (by omega)]
  have := Nat.or_lt_two_pow ha hb
  exact wrapI _ (by omega) (by omega)
theorem i64_and1 (a : Nat) (ha : a < 2 ^ 62) : bits .and .i64 (a : Int) 1 = ((a % 2 : Nat) : Int) := by
  show IntKind.i64.wrap ((BitVec.ofInt 64 (a : Int) &&& BitVec.ofInt 64 1).toNat : Int) = _
  have h1 : (BitVec.ofInt 64 1).toNat = 1 := by decide
  rw [BitVec.toNat_and, ofInt64 a (by omega), h1, Nat.and_one_is_mod]
  exact wrapI _ (by omega) (by omega)
theorem i64_andNot0 (a b : Nat) (ha : a < 2 ^ 62) (hb : b < 2 ^ 62) : bits .andNot .i64 (a : Int) (b : Int) = 0 ↔ ∀ i, a.testBit i = true → b.testBit i = true := by
  have e : bits .andNot .i64 (a : Int) (b : Int) = IntKind.i64.wrap ((BitVec.ofInt 64 (a : Int) &&& ~~~BitVec.ofInt 64 (b : Int)).toNat : Int) := rfl
  rw [e]
  have hx : (BitVec.ofInt 64 (a : Int) &&& ~~~BitVec.ofInt 64 (b : Int)).toNat = a &&& (2 ^ 64 - 1 - b) := by
    rw [BitVec.toNat_and, BitVec.toNat_not, ofInt64 a (by omega), ofInt64 b (by omega)]
  have hle : a &&& (2 ^ 64 - 1 - b) ≤ a := Nat.and_le_left
  rw [hx, wrapI _ (by omega) (by omega)]
  have hb' : ∀ i, (2 ^ 64 - 1 - b).testBit i = (decide (i < 64) && !b.testBit i) := by
    intro i
    have := Nat.testBit_two_pow_sub_succ (x := b) (n := 64) (by omega) i
    rw [show 2 ^ 64 - (b + 1) = 2 ^ 64 - 1 - b from by omega] at this
    exact this
  have hlt : ∀ i, a.testBit i = true → i < 64 := by
    intro i hi
    by_cases h : i < 64
    · exact h
    · have : a.testBit i = false := Nat.testBit_lt_two_pow (Nat.lt_of_lt_of_le (show a < 2 ^ 62 from ha) (Nat.pow_le_pow_right (by omega) (by omega)))
      rw [this] at hi; cases hi
  constructor
  · intro h i hi
    have h0 : a &&& (2 ^ 64 - 1 - b) = 0 := by omega
    have h1 : (a &&& (2 ^ 64 - 1 - b)).testBit i = false := by rw [h0]; simp
    rw [Nat.testBit_and, hb' i, hi, decide_eq_true (hlt i hi)] at h1
    simpa using h1
  · intro h
    have h0 : a &&& (2 ^ 64 - 1 - b) = 0 := by
      apply Nat.eq_of_testBit_eq
      intro i
      rw [Nat.testBit_and, hb' i]
      cases hi : a.testBit i with
      | false => simp
      | true => rw [h i hi]; simp
    omega
/-- The set of the operations that come before. -/
def orB : List Int → Nat
  | [] => 0
  | a :: q => orB q ||| 2 ^ a.toNat
theorem orB_snoc (q : List Int) (a : Int) : orB (q ++ [a]) = orB q ||| 2 ^ a.toNat := by
  induction q with
  | nil => simp [orB]
  | cons x q ih => simp only [List.cons_append, orB, ih]; rw [Nat.or_assoc, Nat.or_comm (2 ^ a.toNat), ← Nat.or_assoc]
theorem orB_bit (q : List Int) (i : Nat) : (orB q).testBit i = true ↔ ∃ a ∈ q, a.toNat = i := by
  induction q with
  | nil => simp [orB]
  | cons x q ih =>
    simp only [orB, Nat.testBit_or, Bool.or_eq_true, ih, Nat.testBit_two_pow, decide_eq_true_iff, List.mem_cons]
    constructor
    · rintro (⟨a, h1, h2⟩ | h)
      · exact ⟨a, .inr h1, h2⟩
      · exact ⟨x, .inl rfl, h⟩
    · rintro ⟨a, rfl | h1, h2⟩
      · exact .inr h2
      · exact .inl ⟨a, h1, h2⟩
theorem orB_lt {q : List Int} {n : Nat} (h : ∀ a ∈ q, a.toNat < n) : orB q < 2 ^ n := by
  induction q with
  | nil => exact Nat.two_pow_pos _
  | cons x q ih =>
    unfold orB
    exact Nat.or_lt_two_pow (ih fun a ha => h a (by simp [ha])) (Nat.pow_lt_pow_right (by decide) (h x (by simp)))
theorem pow16 {n : Nat} (h : n ≤ 16) : 2 ^ n ≤ 65536 := Nat.pow_le_pow_right (n := 2) (by decide) h

/-! ## Rows -/
def intCells (xs : List Int) : Array Value := (xs.map (Value.int .i64)).toArray
/-- Block b is just the ints xs. -/
def Row (w : World) (b : Nat) (xs : List Int) : Prop := w.heap[b]? = some (.cells (intCells xs) 3 (0, 0))
section
variable {w w' : World} {b : Nat} {xs : List Int}
theorem Row.lt (h : Row w b xs) : b < w.heap.size := by
  unfold Row at h
  by_cases hb : b < w.heap.size
  · exact hb
  · rw [Array.getElem?_eq_none (by omega)] at h; cases h
theorem intCells_at (xs : List Int) (i : Nat) : (intCells xs)[i]? = xs[i]?.map (Value.int .i64) := by
  unfold intCells; simp
theorem Row.cell (h : Row w b xs) {i : Nat} {x : Int} (hx : xs[i]? = some x) : w.cell? ⟨b, i, none⟩ = some (.int .i64 x) := by
  unfold Row at h
  have e : w.cell? ⟨b, i, none⟩ = (intCells xs)[i]? := by simp [World.cell?, h]
  rw [e, intCells_at, hx]; rfl
theorem Row.free (h : Row w b xs) (i : Nat) : w.frozen? ⟨b, i, none⟩ = false := by
  unfold Row at h; simp [World.frozen?, h]
theorem Row.new (w : World) (xs : List Int) : Row (w.alloc (.cells (intCells xs) 3)) w.heap.size xs := by
  unfold Row
  show (w.heap.push _)[w.heap.size]? = _
  simp
theorem Row.alloc (h : Row w b xs) (o : Obj) : Row (w.alloc o) b xs := (Below.heap_alloc w o b h.lt).trans h
theorem Row.drewN (h : Row w b xs) (n : Nat) : Row (w.drewN n) b xs := h
theorem Row.put (h : Row w b xs) (i : Nat) (x : Int) : Row (w.setCell ⟨b, i, none⟩ (.int .i64 x)) b (xs.set i x) := by
  unfold Row at h ⊢
  have : (intCells xs).setIfInBounds i (.int .i64 x) = intCells (xs.set i x) := by
    unfold intCells
    simp [List.map_set]
  simp [World.setCell, Array.getElem?_modify, h, ← this]
theorem Row.far (h : Row w b xs) {p : Addr} (hp : b ≠ p.block) (u : Value) : Row (w.setCell p u) b xs := (Below.heap_setCell w p u b hp).trans h
theorem Row.below {B : Nat} (h : Row w b xs) (hb : Below B w w') (hB : b < B) : Row w' b xs := (hb.block b hB).trans h
theorem Row.ird {B : Nat} (h : Row w b xs) (hB : b < B) : IRd w B (some ⟨b, 0, none⟩) xs := by
  intro _
  exact ⟨b, 0, rfl, hB, fun i x hx => by rw [Nat.zero_add]; exact h.cell hx⟩
end
theorem madeInts (n : Nat) : madeCells (Value.cells (.int .i64 0)) n = intCells (List.replicate n 0) := by
  have : Value.cells (.int .i64 0) = #[.int .i64 0] := rfl
  rw [this]
  unfold madeCells intCells
  apply Array.ext
  · simp
  · intro i h1 h2
    simp [Nat.mod_one]
theorem mkInts (n : Nat) (h : n ≤ 1000000) (w : World) :
    (Instr.makeSlice 35 (.int .i64 (n : Int)) (.int .i64 (n : Int))).run Try.prog w = .ok (.slice (some ⟨w.heap.size, 0, none⟩) n n) (w.alloc (.cells (intCells (List.replicate n 0)) 3)) := by
  obtain ⟨i0, hi0, hz0, hz1, hz2⟩ := info_parts infoInt
  have := run_make (P := Try.prog) w 35 3 i0 _ Try.underlying35 hi0 hz0 .i64 .i64 (n : Int) (n : Int) (by omega) (by omega) (by rw [hz2]; omega) (by omega)
  rw [this, hz1, Int.toNat_natCast, Nat.mul_one, madeInts]
end Go.Proofs.Ytlbkfphepneflaa
