/- The reference of the flow: clash, Same; the program's Makespan: the walks. -/
import Derived.Test.YtelgkangojmhdaaFRef2
import Derived.Test.YtelgkangojmhdaaG8
import Derived.Deep.RegionHeld3
import Derived.Deep.RegionWith
import Derived.RegionTactic
import Derived.BigRegion
import Derived.BigQuiet
import Derived.Outline
import Derived.Handy
namespace Go.Proofs.Ytelgkangojmhdaa
open Go.RowKit

theorem clashN_next {ts : List Tsk} {i : Nat} {t : Tsk} (h : ts[i]? = some t) (h1 : clashN ts i = false) (h2 : (ts.take i).any (clash2 t) = false) : clashN ts (i + 1) = false := by
  unfold clashN at *
  refine range_any_snoc h1 ?_
  rw [tgetD h]
  exact h2
theorem clashN_hit {ts : List Tsk} {i j : Nat} {t u : Tsk} (h : ts[i]? = some t) (hj : j < i) (hu : ts[j]? = some u) (hc : clash2 t u = true) : clashN ts ts.length = true := by
  unfold clashN
  have hi := (List.getElem?_eq_some_iff.1 h).1
  refine range_any_hit hi ?_
  rw [tgetD h]
  refine any_hit (k := j) (x := u) ?_ hc
  rw [List.getElem?_take, if_pos hj]; exact hu
theorem clash2_cases {t u : Tsk} (h : clash2 t u = false) : (t.st == u.st) = false ∨ (t.st == u.st) = true ∧ ¬ t.a < u.b ∨ (t.st == u.st) = true ∧ t.a < u.b ∧ ¬ u.a < t.b := by
  unfold clash2 at h
  by_cases h1 : (t.st == u.st) = true
  · by_cases h2 : t.a < u.b
    · by_cases h3 : u.a < t.b
      · simp [h1, h2, h3] at h
      · exact .inr (.inr ⟨h1, h2, h3⟩)
    · exact .inr (.inl ⟨h1, h2⟩)
  · exact .inl (by simpa using h1)
theorem clash2_true {t u : Tsk} (h : clash2 t u = true) : (t.st == u.st) = true ∧ t.a < u.b ∧ u.a < t.b := by
  unfold clash2 at h
  simp only [Bool.and_eq_true, decide_eq_true_eq] at h
  exact ⟨h.1.1, h.1.2, h.2⟩

set_option maxRecDepth 100000 in
set_option maxHeartbeats 4000000 in
theorem clash_any (A : Option Addr) (cap : Nat) (ts : List Tsk) (w : World) (h : TRd w w.heap.size A ts) (hn : ts.length ≤ 20000) :
    Calls Try.prog 42 #[.slice A ts.length cap] w fun e w' => e = .returned (.bool (clashN ts ts.length)) ∧ Below w.heap.size w w' := by
  have H := Lib.hid h
  clear h
  go_enter Try.func42, Try.ntmps42
  go_wp2_with fail
  go_loopw [3, 4, 5, 6] (fun j _ _ _ wr => ∃ i : Nat, i ≤ ts.length ∧ j = .int .i64 i ∧ clashN ts i = false ∧ Below w.heap.size w wr) (fun j _ _ _ _ => ts.length - (intOf j).toNat)
  case atStart => exact ⟨0, Nat.zero_le _, rfl, rfl, Below.refl _ _⟩
  case round =>
    obtain ⟨i, hi, rfl, hu, hb⟩ := hrel
    have HU := Lib.hid hu
    have HB := Lib.hid hb
    clear hu hb
    by_cases hlt : i < ts.length
    · obtain ⟨wo, rfl⟩ : ∃ wo : World, wo = wr := ⟨_, rfl⟩
      obtain ⟨t, ht⟩ : ∃ t, ts[i]? = some t := ⟨_, List.getElem?_eq_getElem hlt⟩
      have HT := Lib.hid ht
      clear ht
      go_wp2_with fail
      go_loopw [4, 5, 6] (fun j _ _ wr => ∃ k : Nat, k ≤ i ∧ j = .int .i64 k ∧ (ts.take k).any (clash2 t) = false ∧ Below w.heap.size w wr) (fun j _ _ _ => i - (intOf j).toNat)
      case atStart => exact ⟨0, Nat.zero_le _, rfl, rfl, HB.out⟩
      case round =>
        clear HB
        obtain ⟨k, hk, rfl, hv, hb⟩ := hrel
        have HV := Lib.hid hv
        have HB := Lib.hid hb
        clear hv hb
        by_cases hkl : k < i
        · obtain ⟨b, off, t', hA, hB, hd, hat⟩ := H.out.at_ HB.out hlt
          obtain ⟨b', off', u, hA', hB', hd', hat'⟩ := H.out.at_ HB.out (show k < ts.length by omega)
          obtain rfl : t' = t := by have := HT.out; rw [hd] at this; injection this
          subst hA
          obtain ⟨rfl, rfl⟩ : b' = b ∧ off' = off := by injection hA' with h1; injection h1 with h1 h2; exact ⟨h1.symm, h2.symm⟩
          obtain ⟨c0, c1, c2, c3, c4⟩ := hat
          obtain ⟨d0, d1, d2, d3, d4⟩ := hat'
          have HD := Lib.hid hd'
          have q1 : b' < wr.heap.size := Nat.lt_of_lt_of_le hB HB.out.size
          have i0 : (0 : Int) ≤ (i : Int) := by omega
          have i1 : (i : Int) < (ts.length : Int) := by omega
          have k0 : (0 : Int) ≤ (k : Int) := by omega
          have k1 : (k : Int) < (ts.length : Int) := by omega
          have hsz := HB.out.size
          clear hd hd' hA'
          cases hc : clash2 t' u with
          | true =>
            have HX := Lib.hid (clashN_hit HT.out hkl HD.out hc)
            obtain ⟨e1, e2, e3⟩ := clash2_true hc
            clear hc
            go_wp2_with fail
            go_region
            all_goals
              go_wp2_with fail
              go_ret
              refine ⟨ret_bool HX.out.symm, ?_⟩
              have hbb := HB.out
              go_grown
          | false =>
            have HX := Lib.hid (any_snoc HD.out HV.out hc)
            have hcc := clash2_cases hc
            clear hc
            rcases hcc with e1 | ⟨e1, e2⟩ | ⟨e1, e2, e3⟩
            all_goals
              go_wp2_with fail
              go_region
              all_goals
                go_wp2_with fail
                go_roundw
                case rel =>
                  refine ⟨k + 1, by omega, by go_num, HX.out, ?_⟩
                  have hbb := HB.out
                  go_grown
                case measure => simp [intOf]; omega
        · obtain rfl : i = k := by omega
          have HX := Lib.hid (clashN_next HT.out HU.out HV.out)
          go_wp2_with fail
          go_roundw
          case rel => exact ⟨i + 1, by omega, by go_num, HX.out, HB.out⟩
          case measure => simp [intOf]; omega
    · obtain rfl : ts.length = i := by omega
      go_wp2
      go_ret
      exact ⟨ret_bool HU.out.symm, HB.out⟩

set_option maxRecDepth 100000 in
set_option maxHeartbeats 4000000 in
theorem makespan_any (A : Option Addr) (cap : Nat) (ts : List Tsk) (w : World) (h : TRd w w.heap.size A ts) (hn : ts.length ≤ 20000) :
    Calls Try.prog 20 #[.slice A ts.length cap] w fun e w' => e = .returned (.int .i64 (spanOf ts)) ∧ Below w.heap.size w w' := by
  have H := Lib.hid h
  clear h
  cases ts with
  | nil =>
    go_enter Try.func20, Try.ntmps20
    go_wp2
    go_ret
    exact ⟨rfl, Below.refl _ _⟩
  | cons t0 r =>
    obtain ⟨ts, hts⟩ : ∃ ts, ts = t0 :: r := ⟨_, rfl⟩
    rw [← hts] at H hn ⊢
    have hl0 : 0 < ts.length := by rw [hts]; simp
    have HSP : Hid (spanOf ts = ts.foldl (fun m u => max m u.b) t0.b) := by
      show _ = _
      rw [hts]
      unfold spanOf
      rw [List.foldl_cons, show max t0.b t0.b = t0.b from by omega]
    have HT0 : Hid (ts[0]? = some t0) := by rw [hts]; exact Lib.hid rfl
    clear hts
    obtain ⟨b, off, x, hA, hB, hd, hat⟩ := H.out.at_ (Below.refl _ _) hl0
    obtain rfl : x = t0 := by have := HT0.out; rw [hd] at this; injection this
    subst hA
    have c4 := hat.2.2.2.2
    rw [Nat.zero_mul, Nat.add_zero] at c4
    have i0 : (0 : Int) < (ts.length : Int) := by omega
    have hne : ((ts.length : Int) == 0) = false := by simp; intro e; rw [e] at hl0; simp at hl0
    clear hd hat
    go_enter Try.func20, Try.ntmps20
    go_wp2_with fail
    go_loopw [3, 5, 15] (fun m _ j wr => ∃ i : Nat, i ≤ ts.length ∧ j = .int .i64 i ∧ m = .int .i64 ((ts.take i).foldl (fun m u => max m u.b) x.b) ∧ Below w.heap.size w wr) (fun _ _ j _ => ts.length - (intOf j).toNat)
    case atStart => exact ⟨0, Nat.zero_le _, rfl, rfl, Below.refl _ _⟩
    case round =>
      obtain ⟨i, hi, rfl, rfl, hb⟩ := hrel
      have HB := Lib.hid hb
      have hbs := hb.size
      clear hb
      by_cases hlt : i < ts.length
      · obtain ⟨b', off', u, hA', hB', hd', hat'⟩ := H.out.at_ HB.out hlt
        obtain ⟨rfl, rfl⟩ : b' = b ∧ off' = off := by injection hA' with h1; injection h1 with h1 h2; exact ⟨h1.symm, h2.symm⟩
        obtain ⟨d0, d1, d2, d3, d4⟩ := hat'
        have HNX : Hid ((ts.take (i + 1)).foldl (fun m u => max m u.b) x.b = max ((ts.take i).foldl (fun m u => max m u.b) x.b) u.b) := by show _ = _; rw [take_tk hd', List.foldl_append]; rfl
        generalize (ts.take i).foldl (fun m u => max m u.b) x.b = m at *
        clear hd' hA' c4
        go_wp2_with fail
        go_roundw
        case rel => exact ⟨i + 1, by omega, by go_num, by rw [HNX.out], HB.out.alloc hbs _⟩
        case measure => simp [intOf]; omega
      · obtain rfl : ts.length = i := by omega
        have HX : Hid ((ts.take ts.length).foldl (fun m u => max m u.b) x.b = spanOf ts) := by show _ = _; rw [HSP.out, List.take_length]
        rw [HX.out]
        go_wp2
        go_ret
        exact ⟨rfl, HB.out⟩

set_option maxRecDepth 100000 in
set_option maxHeartbeats 4000000 in
theorem sameT_any (A B : Option Addr) (ca cb : Nat) (ts us : List Tsk) (w : World) (h : TRd w w.heap.size A ts) (h' : TRd w w.heap.size B us) (hn : ts.length ≤ 20000) (hn' : us.length ≤ 20000) (he : ts = us) :
    Calls Try.prog 24 #[.slice A ts.length ca, .slice B us.length cb] w fun e w' => e = .returned (.bool true) ∧ Below w.heap.size w w' := by
  subst he
  have H := Lib.hid h
  have H' := Lib.hid h'
  clear h h'
  go_enter Try.func24, Try.ntmps24
  go_wp2_with fail
  go_loopw [5] (fun j wr => ∃ i : Nat, i ≤ ts.length ∧ j = .int .i64 i ∧ Below w.heap.size w wr) (fun j _ => ts.length - (intOf j).toNat)
  case atStart => exact ⟨0, Nat.zero_le _, rfl, Below.refl _ _⟩
  case round =>
    obtain ⟨i, hi, rfl, hb⟩ := hrel
    have HB := Lib.hid hb
    clear hb
    by_cases hlt : i < ts.length
    · obtain ⟨b, off, t, hA, hB, hd, hat⟩ := H.out.at_ HB.out hlt
      obtain ⟨b', off', t', hA', hB', hd', hat'⟩ := H'.out.at_ HB.out hlt
      obtain rfl : t' = t := by rw [hd] at hd'; injection hd' with e; exact e.symm
      subst hA hA'
      obtain ⟨c0, c1, c2, c3, c4⟩ := hat
      obtain ⟨d0, d1, d2, d3, d4⟩ := hat'
      have i0 : (0 : Int) ≤ (i : Int) := by omega
      have i1 : (i : Int) < (ts.length : Int) := by omega
      clear hd hd'
      go_wp2_with fail
      go_quiet (fail)
      go_wp2_with fail
      go_roundw
      case rel => exact ⟨i + 1, by omega, by go_num, below_drewN HB.out _⟩
      case measure => simp [intOf]; omega
    · obtain rfl : ts.length = i := by omega
      go_wp2
      go_ret
      exact ⟨rfl, HB.out⟩
end Go.Proofs.Ytelgkangojmhdaa
