/- slices.Reverse as convex.hull calls it. -/
import Derived.Test.YtopmolpnmpchoaaCvCompact
namespace Go.Proofs.Ytopmolpnmpchoaa
open Go.RowKit

/-- The list l with its first i and its last i spots exchanged. -/
structure Rv (l : List Pt) (i : Nat) (c : List Pt) : Prop where
  len : c.length = l.length
  out : ∀ t, t < l.length → t < i ∨ l.length - i ≤ t → c[t]? = l[l.length - 1 - t]?
  mid : ∀ t, t < l.length → i ≤ t → t < l.length - i → c[t]? = l[t]?
theorem Rv.start (l : List Pt) : Rv l 0 l := ⟨rfl, fun t h1 h2 => by omega, fun t _ _ _ => rfl⟩
theorem Rv.step {l c : List Pt} {i j : Nat} {p q : Pt} (h : Rv l i c) (hj : j = l.length - 1 - i) (hij : i < j) (hp : l[i]? = some p) (hq : l[j]? = some q) : Rv l (i + 1) ((c.set i q).set j p) := by
  have hl := h.len
  refine ⟨by simp [h.len], fun t ht hc => ?_, fun t ht h1 h2 => ?_⟩
  · rw [List.getElem?_set]
    by_cases e1 : j = t
    · rw [if_pos e1, if_pos (by simp; omega), show l.length - 1 - t = i by omega, hp]
    · rw [if_neg e1, List.getElem?_set]
      by_cases e2 : i = t
      · rw [if_pos e2, if_pos (by omega), show l.length - 1 - t = j by omega, hq]
      · rw [if_neg e2]
        exact h.out t ht (by omega)
  · rw [List.getElem?_set, if_neg (by omega), List.getElem?_set, if_neg (by omega)]
    exact h.mid t ht (by omega) (by omega)
theorem Rv.done {l c : List Pt} {i : Nat} (h : Rv l i c) (hi : l.length - 1 - i ≤ i) : c = l.reverse := by
  apply List.ext_getElem?
  intro t
  by_cases ht : t < l.length
  · rw [List.getElem?_reverse ht]
    by_cases hc : t < i ∨ l.length - i ≤ t
    · exact h.out t ht hc
    · rw [h.mid t ht (by omega) (by omega), show l.length - 1 - t = t by omega]
  · rw [List.getElem?_eq_none (by rw [h.len]; omega), List.getElem?_eq_none (by simp; omega)]

theorem grown_put {w w' : World} {g j : Nat} {u : Value} (h : w.grownBy w' (some g)) : w.grownBy (w'.setCell ⟨g, j, none⟩ u) (some g) :=
  ⟨h.os, h.tape, h.output, Nat.le_trans h.size (by simp), fun k hk hne => (heap_setCell_other w' ⟨g, j, none⟩ k u (fun e => hne (by rw [e]))).trans (h.block k hk hne)⟩
theorem grown_drew {w w' : World} {r : Option Nat} (h : w.grownBy w' r) : w.grownBy w'.drew r := ⟨h.os, h.tape, h.output, h.size, h.block⟩
set_option maxRecDepth 100000 in
set_option maxHeartbeats 4000000 in
theorem reverse_any (base : Nat) (l : List Pt) (A : Option Addr) (cap : Nat) (w : World) (hown : w.ownsRow base 31 2 (.slice A l.length cap) l.length (pCells l)) (hn : l.length ≤ 1000000) (hl : 0 < l.length) :
    Calls Try.prog 46 #[.slice A l.length cap] w fun e w' => e = .returned (.tuple #[]) ∧ w'.ownsRow base 31 2 (.slice A l.length cap) l.length (pCells l.reverse) ∧ Below base w w' ∧ w.grownBy w' (Value.slice A l.length cap).ownBlock := by
  obtain ⟨g, cap', hv, hbase, hlt⟩ := hown.form (by omega)
  have hA : A = some ⟨g, 0, none⟩ := by injection hv
  subst hA
  clear hv
  have HO := hid hown
  clear hown
  go_enter Try.func46, Try.ntmps46
  go_wp2_with fail
  go_loopw [2, 3] (fun s2 s3 wr => ∃ (i : Nat) (j : Int) (c : List Pt), s2 = .int .i64 i ∧ s3 = .int .i64 j ∧ j = (l.length : Int) - 1 - i ∧ (i : Int) ≤ l.length ∧ Hid (Rv l i c) ∧ Hid (wr.ownsRow base 31 2 (.slice (some ⟨g, 0, none⟩) l.length cap) l.length (pCells c)) ∧ Hid (Below base w wr) ∧ Hid (w.grownBy wr (some g))) (fun s2 _ _ => l.length - (intOf s2).toNat)
  case atStart => exact ⟨0, _, l, rfl, rfl, by simp, by omega, Rv.start l, HO.out, Below.refl _ _, World.grownBy.refl _ _⟩
  case round =>
    obtain ⟨i, j, c, rfl, rfl, hj, hil, HR, HO, HB, HG⟩ := hrel
    by_cases hij : (i : Int) < j
    · obtain ⟨jn, rfl⟩ : ∃ jn : Nat, j = (jn : Int) := ⟨j.toNat, by omega⟩
      have hij' : i < jn := by omega
      have hjl : jn < l.length := by omega
      have hjn : jn = l.length - 1 - i := by omega
      obtain ⟨p, hp⟩ : ∃ p, l[i]? = some p := ⟨_, List.getElem?_eq_getElem (by omega)⟩
      obtain ⟨q, hq⟩ : ∃ q, l[jn]? = some q := ⟨_, List.getElem?_eq_getElem (by omega)⟩
      obtain ⟨c0, c1⟩ := own_at HO.out (i := i) (p := p) ((HR.out.mid i (by omega) (by omega) (by omega)).trans hp)
      obtain ⟨d0, d1⟩ := own_at HO.out (i := jn) (p := q) ((HR.out.mid jn (by omega) (by omega) (by omega)).trans hq)
      have f0 := HO.out.frozenAt (i * 2)
      have f1 := HO.out.frozenAt (i * 2 + 1)
      have f2 := HO.out.frozenAt (jn * 2)
      have f3 := HO.out.frozenAt (jn * 2 + 1)
      have HR2 := hid (HR.out.step hjn hij' hp hq)
      have HJ := hid hjn
      clear hp hq hjn hj
      have i0 : (0 : Int) ≤ (i : Int) := by omega
      have i1 : (i : Int) < (l.length : Int) := by omega
      have i2 : (0 : Int) ≤ (jn : Int) := by omega
      have i3 : (jn : Int) < (l.length : Int) := by omega
      have n1 : ¬ jn * 2 = i * 2 := by omega
      go_wp2_with fail
      go_region
      go_wp2_with fail
      go_roundw
      case rel => exact ⟨i + 1, _, _, by go_num, rfl, by have := HJ.out; omega, by omega, HR2.out, own_drewN (own_put (own_put HO.out i q) jn p) 1, below_drewN ((((HB.out.setCell hbase _).setCell hbase _).setCell hbase _).setCell hbase _) 1, grown_drew (grown_put (grown_put (grown_put (grown_put HG.out))))⟩
      case measure => simp [intOf]; omega
    · have HF : Hid (c = l.reverse) := HR.out.done (by omega)
      go_wp2
      go_end0
      refine ⟨rfl, ?_, HB.out, HG.out⟩
      rw [← HF.out]; exact HO.out
end Go.Proofs.Ytopmolpnmpchoaa
