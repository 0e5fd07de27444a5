/- The walk of the reference's Twice: twice the area of a closed path. -/
import Derived.Test.YtopmolpnmpchoaaCvHull
namespace Go.Proofs.Ytopmolpnmpchoaa
open Go.RowKit

theorem rd_at {h : List Pt} {k : Nat} {p : Pt} (hp : h[k]? = some p) : rd h k = p := by
  have hk := (List.getElem?_eq_some_iff.1 hp).1
  rw [rd_get hk]
  exact (List.getElem?_eq_some_iff.1 hp).2
theorem rd_next {h : List Pt} {k : Nat} {p : Pt} (hp : h[k % h.length]? = some p) : rd h k = p := by
  unfold rd gt
  rw [List.getD_eq_getElem?_getD, hp]; rfl
/-- The spot after the k-th one, around. -/
theorem PRd.next_ {w w' : World} {B : Nat} {A : Option Addr} {l : List Pt} (h : PRd w B A l) (hb : Below B w w') {b off k : Nat} (hA : A = some ⟨b, off, none⟩) (hk : k < l.length) :
    ∃ (j : Nat) (q : Pt), j < l.length ∧ rd l (k + 1) = q ∧ ((k : Int) + 1).tmod (l.length : Int) = (j : Int) ∧ ((k : Int) + 1) % (l.length : Int) = (j : Int) ∧ w'.cell? ⟨b, off + j * 2, none⟩ = some (.int .i64 q.x) ∧ w'.cell? ⟨b, off + j * 2 + 1, none⟩ = some (.int .i64 q.y) := by
  have hj : (k + 1) % l.length < l.length := Nat.mod_lt _ (by omega)
  obtain ⟨b', off', q, e, _, hd, c0, c1⟩ := h.at_ hb hj
  rw [hA] at e
  cases e
  refine ⟨(k + 1) % l.length, q, hj, rd_next hd, ?_, ?_, c0, c1⟩
  · rw [Int.tmod_eq_emod_of_nonneg (by omega)]; exact (Int.natCast_emod (k + 1) l.length).symm
  · exact (Int.natCast_emod (k + 1) l.length).symm
theorem twice_step {l : List Pt} {k : Nat} : sumTo (fun i => cv (rd l i) (rd l (i + 1))) (k + 1) = sumTo (fun i => cv (rd l i) (rd l (i + 1))) k + cv (rd l k) (rd l (k + 1)) := rfl
theorem cv_in {p q : Pt} (hp : In 8388608 p) (hq : In 8388608 q) : (-70368744177664 ≤ p.x * q.y ∧ p.x * q.y ≤ 70368744177664) ∧ (-70368744177664 ≤ p.y * q.x ∧ p.y * q.x ≤ 70368744177664) := by
  unfold In at hp hq
  exact ⟨mul_in (A := 8388608) (B := 8388608) (by omega) (by omega), mul_in (A := 8388608) (B := 8388608) (by omega) (by omega)⟩
theorem rd_in {l : List Pt} (hb : Bd l) {i : Nat} (hl : 0 < l.length) : In 8388608 (rd l i) := hb _ (gt_mem (Nat.mod_lt _ hl))
theorem sumTo_in {l : List Pt} (hb : Bd l) (hl : 0 < l.length) : ∀ k : Nat, -(140737488355328 * (k : Int)) ≤ sumTo (fun i => cv (rd l i) (rd l (i + 1))) k ∧ sumTo (fun i => cv (rd l i) (rd l (i + 1))) k ≤ 140737488355328 * (k : Int)
  | 0 => by simp [sumTo]
  | k + 1 => by
    have h1 := sumTo_in hb hl k
    have h2 := cv_in (rd_in hb (i := k) hl) (rd_in hb (i := k + 1) hl)
    rw [twice_step]
    have e : cv (rd l k) (rd l (k + 1)) = (rd l k).x * (rd l (k + 1)).y - (rd l k).y * (rd l (k + 1)).x := rfl
    rw [e]
    omega

set_option maxRecDepth 100000 in
set_option maxHeartbeats 4000000 in
theorem twice_any (A : Option Addr) (cap : Nat) (l : List Pt) (w : World) (h : PRd w w.heap.size A l) (hb : Bd l) (hn : l.length ≤ 160) :
    Calls Try.prog 29 #[.slice A l.length cap] w fun e w' => e = .returned (.int .i64 (tw l)) ∧ Below w.heap.size w w' := by
  have H := hid h
  have HBd := hid hb
  clear h hb
  have HT : Hid (tw l = sumTo (fun i => cv (rd l i) (rd l (i + 1))) l.length) := rfl
  go_enter Try.func29, Try.ntmps29
  go_wp2_with fail
  go_loopw [3, 4, 5, 6] (fun x i _ _ wr => ∃ k : Nat, k ≤ l.length ∧ i = .int .i64 k ∧ x = .int .i64 (sumTo (fun i => cv (rd l i) (rd l (i + 1))) k) ∧ Hid (Below w.heap.size w wr)) (fun _ i _ _ _ => l.length - (intOf i).toNat)
  case atStart => exact ⟨0, Nat.zero_le _, rfl, rfl, Below.refl _ _⟩
  case round =>
    obtain ⟨k, hk, rfl, rfl, HB⟩ := hrel
    by_cases hlt : k < l.length
    · obtain ⟨b, off, p, hA, hB, hd, c0, c1⟩ := H.out.at_ HB.out hlt
      obtain ⟨j, q, hj, hq, hm1, hm2, d0, d1⟩ := H.out.next_ HB.out hA hlt
      subst hA
      have hp := rd_at hd
      have hs := sumTo_in HBd.out (by omega) k
      have hcv := cv_in (rd_in HBd.out (i := k) (by omega)) (rd_in HBd.out (i := k + 1) (by omega))
      have HS := hid (twice_step (l := l) (k := k))
      rw [hp, hq] at HS hcv
      have HCV : Hid (cv p q = p.x * q.y - p.y * q.x) := rfl
      clear hd hp hq
      generalize sumTo (fun i => cv (rd l i) (rd l (i + 1))) k = sv at *
      have i0 : (0 : Int) ≤ (k : Int) := by omega
      have i1 : (k : Int) < (l.length : Int) := by omega
      have i2 : (0 : Int) ≤ (j : Int) := by omega
      have i3 : (j : Int) < (l.length : Int) := by omega
      have hw1 : IntKind.i64.wrap ((k : Int) + 1) = (k : Int) + 1 := by rw [IntWalk.i64_in _ (by omega)]
      have hw2 : IntKind.i64.wrap (j : Int) = (j : Int) := by rw [IntWalk.i64_in _ (by omega)]
      have n0 : ¬ ((l.length : Int) = 0) := by omega
      have n1 : ¬ l = [] := by intro e; rw [e] at hlt; simp at hlt
      have n2 : ¬ b = wr.heap.size := by have := HB.out.size; omega
      have n3 : ¬ b = wr.heap.size + 1 := by have := HB.out.size; omega
      have n4 : b < wr.heap.size := by have := HB.out.size; omega
      have hsz := HB.out.size
      obtain ⟨hs1, hs2⟩ := hs
      obtain ⟨⟨m1, m2⟩, m3, m4⟩ := hcv
      go_wp2_with fail
      go_region
      all_goals
        go_wp2_with fail
        go_roundw
        case rel => exact ⟨k + 1, by omega, by go_num, int_eq (by rw [HS.out, HCV.out]; omega), ((HB.out.alloc hsz _).alloc (by simp; omega) _).drew⟩
        case measure => simp [intOf]; omega
    · obtain rfl : l.length = k := by omega
      rw [← HT.out]
      go_wp2
      go_ret
      exact ⟨rfl, HB.out⟩
end Go.Proofs.Ytopmolpnmpchoaa
