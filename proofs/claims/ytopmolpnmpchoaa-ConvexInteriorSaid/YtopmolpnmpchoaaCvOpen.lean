/- Arguments of the laws on hulls: slices of spots and spots, opened. The small functions of the laws. -/
import Derived.Test.YtopmolpnmpchoaaCvAwake
namespace Go.Proofs.Ytopmolpnmpchoaa
open Go.ChangeShapes Go.WideShapes Go.ChangeAt Go.RowKit Go.Deep
section
variable {H : Type} {enc : TypeId × Value → H} {W : World}

theorem cellsSpot : Try.prog.cellsOf 31 = 2 := by kernel_rfl
theorem cellsInt : Try.prog.cellsOf 3 = 1 := by kernel_rfl
theorem open_pts {base : Nat} {v : Value} {d : DataW H} {p : List MemPlace} (hv : Value.okWide Try.prog W .any base 22 v) (h : DataW.Trod enc Try.prog W 0 (fun _ => true) true 22 v d p) :
    ∃ (A : Option Addr) (cap : Nat) (l : List Pt), v = .slice A l.length cap ∧ PSl W A cap l ∧ l.length ≤ 9223372036854775807 := by
  obtain ⟨A, n, cap, rfl⟩ := okWide_slice Try.underlying22 hv
  obtain ⟨fuel, hf⟩ := h
  rcases open_slice Try.underlying22 hf with ⟨hcs, _⟩ | ⟨a, len, cap', m, n', D, Pl, hcs, _, hl, hm, hmm, _, hi⟩
  · simp [Value.cells] at hcs
    obtain ⟨rfl, rfl, rfl⟩ := hcs
    exact ⟨none, 0, [], rfl, PSl.none _, by simp⟩
  · simp [Value.cells] at hcs
    obtain ⟨rfl, rfl, rfl⟩ := hcs
    simp only [if_true] at hmm
    subst hmm
    have hall : ∀ i, i < n → ∃ x : Pt, W.cell? (a.add (i * 2)) = some (.int .i64 x.x) ∧ W.cell? ((a.add (i * 2)).add 1) = some (.int .i64 x.y) := by
      intro i him
      obtain ⟨cs, hc, ht⟩ := hi i (by omega)
      rw [cellsSpot] at hc
      obtain ⟨_, hcl, hat⟩ := World.cells?_some hc
      obtain ⟨ys, k, _, _, _, hyl, hg⟩ := DataW.trod_struct Try.underlying31 ht
      match cs, hcl, ys, hyl with
      | [c0, c1], _, [y0, y1], _ =>
        have g0 : DataW.trod enc Try.prog W 0 (fun _ => true) true k 3 (([c0, c1].drop 0).take (Try.prog.cellsOf 3)) = some y0 := hg 0 _ rfl
        have g1 : DataW.trod enc Try.prog W 0 (fun _ => true) true k 3 (([c0, c1].drop 1).take (Try.prog.cellsOf 3)) = some y1 := hg 1 _ rfl
        rw [cellsInt] at g0 g1
        have a0 := hat 0 (by omega)
        have a1 := hat 1 (by omega)
        obtain ⟨x0, e0, _, _⟩ := DataW.trod_int Try.underlying3 g0
        obtain ⟨x1, e1, _, _⟩ := DataW.trod_int Try.underlying3 g1
        simp at e0 e1
        subst e0 e1
        exact ⟨⟨x0, x1⟩, a0, a1⟩
    obtain ⟨l, hll, hq⟩ := list_of n _ hall
    subst hll
    refine ⟨some a, _, l, rfl, ⟨fun hne => ?_, fun e => (by cases e), hl⟩, by unfold maxLen at hm; omega⟩
    have hpos : 0 < l.length := List.length_pos_iff.2 hne
    obtain ⟨z0, _⟩ := hq 0 _ (List.getElem?_eq_getElem hpos)
    have hsp : a = ⟨a.block, a.off, none⟩ := by
      have h := spot_none z0
      simpa [Addr.add] using h
    generalize a.block = b at hsp
    generalize a.off = o at hsp
    subst hsp
    refine ⟨b, o, rfl, ?_, fun i x hx => ?_⟩
    · have h := z0
      rw [add_plain] at h
      exact block_lt h
    · obtain ⟨h0, h1⟩ := hq i x hx
      rw [add_plain] at h0 h1
      rw [add_plain] at h1
      exact ⟨h0, h1⟩
theorem one_int {fuel : Nat} {v : Value} {y : DataW H × List MemPlace} (h : DataW.trod enc Try.prog W 0 (fun _ => true) true fuel 3 [v] = some y) : ∃ x, v = .int .i64 x := by
  obtain ⟨x, e, _, _⟩ := DataW.trod_int Try.underlying3 h
  simp at e
  exact ⟨x, e⟩
theorem open_pt {base : Nat} {v : Value} {d : DataW H} {p : List MemPlace} (hv : Value.okWide Try.prog W .any base 31 v) (h : DataW.Trod enc Try.prog W 0 (fun _ => true) true 31 v d p) :
    ∃ x : Pt, v = .agg #[.int .i64 x.x, .int .i64 x.y] := by
  obtain ⟨v0, v1, y0, y1, n, rfl, _, _, h0, h1⟩ := Go.Joins.open_agg2 Try.underlying31 (by kernel_rfl) cellsSpot hv h
  obtain ⟨x0, rfl⟩ := one_int h0
  obtain ⟨x1, rfl⟩ := one_int h1
  exact ⟨⟨x0, x1⟩, rfl⟩
end

set_option maxHeartbeats 1000000 in
theorem few_any (A B : Option Addr) (ca cb n m : Nat) (w : World) (hn : n ≤ 9223372036854775807) (hm : m ≤ 9223372036854775807) :
    Calls Try.prog 15 #[.slice A n ca, .slice B m cb] w fun e w' => e = .returned (.bool (decide (n ≤ 20 ∧ m ≤ 20))) ∧ w = w' := by
  by_cases h1 : n ≤ 20
  · by_cases h2 : m ≤ 20
    · have HR := hid (decide_eq_true (And.intro h1 h2))
      go_enter Try.func15, Try.ntmps15
      go_wp2
      go_ret
      exact ⟨ret_bool (by first | exact HR.out.symm | rfl | (rw [HR.out]; simp; omega)), rfl⟩
    · have HR := hid (decide_eq_false (show ¬ (n ≤ 20 ∧ m ≤ 20) by omega))
      go_enter Try.func15, Try.ntmps15
      go_wp2
      go_ret
      exact ⟨ret_bool (by first | exact HR.out.symm | rfl | (rw [HR.out]; simp; omega)), rfl⟩
  · have HR := hid (decide_eq_false (show ¬ (n ≤ 20 ∧ m ≤ 20) by omega))
    go_enter Try.func15, Try.ntmps15
    go_wp2
    go_ret
    exact ⟨ret_bool (by first | exact HR.out.symm | rfl | (rw [HR.out]; simp; omega)), rfl⟩
theorem near_take {l : List Pt} {k : Nat} {p : Pt} (h : ∀ q ∈ l.take k, In 1048576 q) (hp : l[k]? = some p) (hin : In 1048576 p) : ∀ q ∈ l.take (k + 1), In 1048576 q := by
  intro q hq
  rw [List.take_add_one, hp] at hq
  rcases List.mem_append.1 hq with hq | hq
  · exact h q hq
  · simp at hq; rw [hq]; exact hin
set_option maxRecDepth 100000 in
set_option maxHeartbeats 1000000 in
theorem near_any (A : Option Addr) (cap : Nat) (l : List Pt) (w : World) (h : PRd w w.heap.size A l) (hn : l.length ≤ 1000000) :
    Calls Try.prog 28 #[.slice A l.length cap] w fun e w' => e = .returned (.bool (decide (∀ p ∈ l, In 1048576 p))) ∧ Below w.heap.size w w' := by
  have H := hid h
  clear h
  go_enter Try.func28, Try.ntmps28
  go_wp2_with fail
  go_loopw [3] (fun i wr => ∃ k : Nat, k ≤ l.length ∧ i = .int .i64 k ∧ Hid (∀ q ∈ l.take k, In 1048576 q) ∧ Hid (Below w.heap.size w wr)) (fun i _ => l.length - (intOf i).toNat)
  case atStart => exact ⟨0, Nat.zero_le _, rfl, fun q hq => (by cases hq), Below.refl _ _⟩
  case round =>
    obtain ⟨k, hk, rfl, HA, HB⟩ := hrel
    by_cases hlt : k < l.length
    · obtain ⟨b, off, p, rfl, hB, hd, c0, c1⟩ := H.out.at_ HB.out hlt
      have HD := hid hd
      clear hd
      go_wp2_with fail
      ((with_reducible refine (within_any p 1048576 _ (by decide) (by decide)).mono ?_); rintro e w1 ⟨rfl, hb1⟩)
      have HB1 := hid (HB.out.trans (hb1.mono HB.out.size))
      clear hb1
      by_cases hin : In 1048576 p
      · have hdec : decide (In 1048576 p) = true := decide_eq_true hin
        have HA2 := hid (near_take HA.out HD.out hin)
        clear hin
        go_wp2_with fail
        go_roundw
        case rel => exact ⟨k + 1, by omega, by go_num, HA2.out, HB1.out⟩
        case measure => simp [intOf]; omega
      · have hdec : decide (In 1048576 p) = false := decide_eq_false hin
        have HR : Hid (decide (∀ p ∈ l, In 1048576 p) = false) := decide_eq_false (fun h => hin (h p (List.mem_of_getElem? HD.out)))
        clear hin
        go_wp2
        go_ret
        exact ⟨ret_bool HR.out.symm, HB1.out⟩
    · obtain rfl : l.length = k := by omega
      rw [List.take_length] at HA
      have HR : Hid (decide (∀ p ∈ l, In 1048576 p) = true) := decide_eq_true HA.out
      go_wp2
      go_ret
      exact ⟨ret_bool HR.out.symm, HB.out⟩
end Go.Proofs.Ytopmolpnmpchoaa
