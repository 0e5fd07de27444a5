/- The reference's Same: the walk. -/
import Derived.Test.YtlbkfphepneflaaRefBal
namespace Go.Proofs.Ytlbkfphepneflaa
open Go.RowKit

def sameSS (a b : List (List Int)) : Bool := decide (a = b)
theorem same_no {a b : List (List Int)} {k : Nat} {p q : List Int} (h1 : a[k]? = some p) (h2 : b[k]? = some q) (h : p ≠ q) : sameSS a b = false := by
  unfold sameSS; rw [decide_eq_false]; intro e; rw [e, h2] at h1; cases h1; exact h rfl
theorem same_len {a b : List (List Int)} (h : a.length ≠ b.length) : sameSS a b = false := by
  unfold sameSS; rw [decide_eq_false]; intro e; rw [e] at h; exact h rfl
theorem same_yes {a b : List (List Int)} (hl : a.length = b.length) (h : a.take a.length = b.take a.length) : sameSS a b = true := by
  rw [List.take_length, hl, List.take_length] at h; unfold sameSS; rw [decide_eq_true h]
theorem take_eq_snoc {α : Type} {a b : List α} {k : Nat} {x : α} (h : a.take k = b.take k) (h1 : a[k]? = some x) (h2 : b[k]? = some x) : a.take (k + 1) = b.take (k + 1) := by
  rw [List.take_add_one, List.take_add_one, h, h1, h2]

set_option maxRecDepth 100000 in
set_option maxHeartbeats 2000000 in
theorem same_any (A B : Option Addr) (ca cb : Nat) (a b : List (List Int)) (w : World) (ha : SRd w w.heap.size A a) (hb : SRd w w.heap.size B b) (hsa : SSmall a) (hsb : SSmall b) :
    Calls Try.prog 17 #[.slice A a.length ca, .slice B b.length cb] w fun e w' => e = .returned (.bool (sameSS a b)) ∧ Below w.heap.size w w' := by
  have HA := Lib.hid ha
  have HB := Lib.hid hb
  have HSA := Lib.hid hsa.2
  have HSB := Lib.hid hsb.2
  have hla := hsa.1
  have hlb := hsb.1
  clear ha hb hsa hsb
  by_cases hl : a.length = b.length
  · have hlB : ((a.length : Int) != (b.length : Int)) = false := by simp; omega
    have HL := Lib.hid hl
    have hll : a.length ≤ b.length := by omega
    clear hl
    go_enter Try.func17, Try.ntmps17
    go_wp2_with fail
    go_loopw [5, 6] (fun j _ wr => ∃ k : Nat, k ≤ a.length ∧ j = .int .i64 k ∧ a.take k = b.take k ∧ Below w.heap.size w wr) (fun j _ _ => a.length - (intOf j).toNat)
    case atStart => exact ⟨0, Nat.zero_le _, rfl, by simp, Below.refl _ _⟩
    case round =>
      obtain ⟨k, hk, rfl, ht, hb⟩ := hrel
      have HT := Lib.hid ht
      have HBW := Lib.hid hb
      clear ht hb
      by_cases hlt : k < a.length
      · obtain ⟨b1, o1, p, Ap, cp, rfl, hB1, hd1, cs1, hc1, hr1⟩ := HA.out.at_ HBW.out hlt
        obtain ⟨b2, o2, q, Aq, cq, rfl, hB2, hd2, cs2, hc2, hr2⟩ := HB.out.at_ HBW.out (show k < b.length by omega)
        have HD1 := Lib.hid hd1
        have HD2 := Lib.hid hd2
        have HR1 := Lib.hid hr1
        have HR2 := Lib.hid hr2
        have hpl := HSA.out p (List.mem_of_getElem? hd1)
        have hql := HSB.out q (List.mem_of_getElem? hd2)
        have CS1 := Lib.hid cs1
        have CS2 := Lib.hid cs2
        clear hd1 hd2 hr1 hr2 hc1 hc2
        have hk0 : (0 : Int) ≤ (k : Int) := by omega
        have hk1 : (k : Int) < (a.length : Int) := by omega
        have hk2 : (k : Int) < (b.length : Int) := by omega
        by_cases hpq : p.length = q.length
        · have hpqb : ((p.length : Int) != (q.length : Int)) = false := by simp; omega
          have HPQ := Lib.hid hpq
          have hpq2 : p.length ≤ q.length := by omega
          clear hpq
          go_wp2
          go_quiet (fail)
          go_wp2_with fail
          clear cs1 cs2
          obtain ⟨w5, HW5⟩ : ∃ w5 : World, Hid (w5 = wr) := ⟨_, rfl⟩
          go_loopw [6] (fun j wq => ∃ j' : Nat, j' ≤ p.length ∧ j = .int .i64 j' ∧ p.take j' = q.take j' ∧ Below w.heap.size wr wq) (fun j _ => p.length - (intOf j).toNat)
          case atStart => exact ⟨0, Nat.zero_le _, rfl, by simp, below_drewN (Below.refl _ _) _⟩
          case round =>
            obtain ⟨j, hj, rfl, ht, hb⟩ := hrel
            rename_i wq
            have HTJ := Lib.hid ht
            have HBJ := Lib.hid hb
            clear ht hb
            have cs1 := (HBJ.out.cell (p := ⟨b1, _, none⟩) hB1).trans CS1.out
            have cs2 := (HBJ.out.cell (p := ⟨b2, _, none⟩) hB2).trans CS2.out
            by_cases hlj : j < p.length
            · obtain ⟨b3, o3, x, rfl, hB3, hdx, cx⟩ := HR1.out.at_ HBJ.out hlj
              obtain ⟨b4, o4, y, rfl, hB4, hdy, cy⟩ := HR2.out.at_ HBJ.out (show j < q.length by omega)
              have HDX := Lib.hid hdx
              have HDY := Lib.hid hdy
              clear hdx hdy
              have hj0 : (0 : Int) ≤ (j : Int) := by omega
              have hj1 : (j : Int) < (p.length : Int) := by omega
              have hj2 : (j : Int) < (q.length : Int) := by omega
              by_cases hxy : x = y
              · have hxyb : (x != y) = false := by simp [hxy]
                have HT' := Lib.hid (take_eq_snoc HTJ.out HDX.out (by rw [hxy]; exact HDY.out))
                clear hxy
                go_wp2
                go_quiet (fail)
                go_wp2
                go_roundw
                case rel => exact ⟨j + 1, by omega, by go_num, HT'.out, below_drewN HBJ.out _⟩
                case measure => simp [intOf]; omega
              · have hxyb : (x != y) = true := by simpa using hxy
                have HE := Lib.hid (same_no HD1.out HD2.out (fun e => by have h1 := HDX.out; rw [e, HDY.out] at h1; cases h1; exact hxy rfl))
                clear hxy
                go_wp2
                go_quiet (fail)
                go_wp2
                go_ret
                exact ⟨ret_bool HE.out.symm, HBW.out.trans (below_drewN HBJ.out _)⟩
            · obtain rfl : p.length = j := by omega
              have HPE : Hid (p = q) := by
                have h1 := HTJ.out
                rw [List.take_length, HPQ.out, List.take_length] at h1
                exact h1
              have HT' := Lib.hid (take_eq_snoc HT.out HD1.out (by rw [HPE.out]; exact HD2.out))
              go_wp2
              go_roundw
              case rel => exact ⟨k + 1, by omega, by go_num, HT'.out, HBW.out.trans HBJ.out⟩
              case measure => simp [intOf]; omega
        · have hpqb : ((p.length : Int) != (q.length : Int)) = true := by simp; omega
          have HE := Lib.hid (same_no HD1.out HD2.out (fun e => hpq (by rw [e])))
          clear hpq
          go_wp2
          go_quiet (fail)
          go_wp2
          go_ret
          exact ⟨ret_bool HE.out.symm, below_drewN HBW.out _⟩
      · obtain rfl : a.length = k := by omega
        have HE := Lib.hid (same_yes HL.out HT.out)
        go_wp2
        go_ret
        exact ⟨ret_bool HE.out.symm, HBW.out⟩
  · have hlB : ((a.length : Int) != (b.length : Int)) = true := by simp; omega
    have HE := Lib.hid (same_len hl)
    clear hl
    go_enter Try.func17, Try.ntmps17
    go_wp2
    go_ret
    exact ⟨ret_bool HE.out.symm, Below.refl _ _⟩
end Go.Proofs.Ytlbkfphepneflaa
