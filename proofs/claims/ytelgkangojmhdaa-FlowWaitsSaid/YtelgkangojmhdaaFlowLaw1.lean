/- A line, as the laws take it; its methods few, simulate, check; has: the walks. -/
import Derived.Test.YtelgkangojmhdaaFlow5
import Derived.Test.YtelgkangojmhdaaFlow6
import Derived.Test.YtelgkangojmhdaaFlowCrit
namespace Go.Proofs.Ytelgkangojmhdaa
open Go.RowKit

/-- A line in memory. -/
structure Ln where
  A : Option Addr
  cap : Nat
  l : List Opn
  S : Option Addr
  capS : Nat
  ss : List (List Int)
  Ab : Option Addr
  capB : Nat
  bs : List Bn
  D : Option Addr
  capD : Nat
  ds : List M.Dn
def Ln.val (x : Ln) : Value := .agg #[.slice x.A x.l.length x.cap, .slice x.S x.ss.length x.capS, .slice x.Ab x.bs.length x.capB, .slice x.D x.ds.length x.capD]
structure LnOk (w : World) (x : Ln) : Prop where
  o : ORd w w.heap.size x.A x.l
  s : SRd w w.heap.size x.S x.ss
  b : BRd w w.heap.size x.Ab x.bs
  d : M.DRd w w.heap.size x.D x.ds
  cap : x.l.length ≤ x.cap
  bc : x.bs.length ≤ x.capB
  bn : x.Ab = none → x.capB = 0
  br : ∀ b ∈ x.bs, BnR b
  bt : ∀ b ∈ x.bs, IR b.tk
  sl : x.ss.length ≤ 9223372036854775807
  bl : x.bs.length ≤ 9223372036854775807
  dl : x.ds.length ≤ 9223372036854775807
theorem LnOk.go {w w' : World} {x : Ln} (h : LnOk w x) (hb : Below w.heap.size w w') : LnOk w' x :=
  ⟨h.o.go hb, h.s.go hb, h.b.go hb, dgo h.d hb, h.cap, h.bc, h.bn, h.br, h.bt, h.sl, h.bl, h.dl⟩
structure LnSm (x : Ln) : Prop where
  l : x.l.length ≤ 5
  o : OSmall x.l
  s : SSmall x.ss
  s2 : x.ss.length ≤ 20
  b : x.bs.length ≤ 70
  d : x.ds.length ≤ 21
def bnFew (n : Nat) : Bool := decide (n ≤ 6) || decide (60 < n) && decide (n ≤ 70)
def fewL (x : Ln) : Bool := few x.l 5 && smallS x.ss && bnFew x.bs.length && decide (x.ds.length ≤ 21)
theorem fewL_ok {x : Ln} (h : fewL x = true) : LnSm x := by
  unfold fewL bnFew at h
  simp only [Bool.and_eq_true, Bool.or_eq_true, decide_eq_true_eq] at h
  obtain ⟨⟨⟨h1, h2⟩, h3⟩, h4⟩ := h
  exact ⟨(few_small h1).1, (few_small h1).2, (smallS_ok h2).2, (smallS_ok h2).1, by omega, h4⟩
theorem few5_any (A : Option Addr) (cap : Nat) (l : List Opn) (w : World) (h : ORd w w.heap.size A l) :
    Calls Try.prog 27 #[.slice A l.length cap, .int .i64 5] w fun e w' => e = .returned (.bool (few l 5)) ∧ w = w' := few_any A cap l 5 w h (by omega)

set_option maxRecDepth 100000 in
set_option maxHeartbeats 2000000 in
theorem lnFew_any (x : Ln) (w : World) (h : LnOk w x) : Calls Try.prog 12 #[x.val] w fun e w' => e = .returned (.bool (fewL x)) ∧ Below w.heap.size w w' := by
  obtain ⟨A, cap, l, S, capS, ss, Ab, capB, bs, D, capD, ds⟩ := x
  have HBN := Lib.hid (below_new w (.cells #[.slice A l.length cap, .slice S ss.length capS, .slice Ab bs.length capB, .slice D ds.length capD] 27))
  have HO := Lib.hid (h.go HBN.out)
  have hsl : ss.length ≤ 9223372036854775807 := h.sl
  have hbl : bs.length ≤ 9223372036854775807 := h.bl
  have hdl : ds.length ≤ 9223372036854775807 := h.dl
  have HF : Hid (fewL ⟨A, cap, l, S, capS, ss, Ab, capB, bs, D, capD, ds⟩ = (few l 5 && smallS ss && bnFew bs.length && decide (ds.length ≤ 21))) := rfl
  obtain ⟨r, hr⟩ : ∃ r, fewL ⟨A, cap, l, S, capS, ss, Ab, capB, bs, D, capD, ds⟩ = r := ⟨_, rfl⟩
  rw [hr]
  rw [hr] at HF
  clear hr
  unfold Ln.val
  simp only
  clear h
  go_enter Try.func12, Try.ntmps12
  go_wp2_with fail
  ((with_reducible refine (few5_any A cap l _ HO.out.o).mono ?_); rintro e w1 ⟨rfl, rfl⟩)
  cases h1 : few l 5 with
  | false =>
    have H1 := Lib.hid h1
    clear h1
    go_wp2_with fail
    go_ret
    exact ⟨ret_bool (by rw [HF.out, H1.out]; rfl), HBN.out⟩
  | true =>
    have H1 := Lib.hid h1
    clear h1
    go_wp2_with fail
    ((with_reducible refine (small_any S capS ss _ HO.out.s hsl).mono ?_); rintro e w1 ⟨rfl, rfl⟩)
    cases h2 : smallS ss with
    | false =>
      have H2 := Lib.hid h2
      clear h2
      go_wp2_with fail
      go_ret
      exact ⟨ret_bool (by rw [HF.out, H1.out, H2.out]; rfl), HBN.out⟩
    | true =>
      have H2 := Lib.hid h2
      clear h2
      have hc : bs.length ≤ 6 ∨ (¬ bs.length ≤ 6 ∧ ¬ 60 < bs.length) ∨ (¬ bs.length ≤ 6 ∧ 60 < bs.length ∧ bs.length ≤ 70) ∨ (¬ bs.length ≤ 6 ∧ 60 < bs.length ∧ ¬ bs.length ≤ 70) := by omega
      rcases hc with a1 | ⟨a1, a2⟩ | ⟨a1, a2, a3⟩ | ⟨a1, a2, a3⟩
      all_goals
        have HX : Hid (r = (bnFew bs.length && decide (ds.length ≤ 21))) := by show _ = _; rw [HF.out, H1.out, H2.out]; rfl
        clear HF
        go_wp2_with fail
        go_ret
        exact ⟨ret_bool (by rw [HX.out]; unfold bnFew; rw [Bool.eq_iff_iff]; simp; omega), HBN.out⟩

set_option maxRecDepth 100000 in
set_option maxHeartbeats 2000000 in
theorem lnSim_any (x : Ln) (w : World) (h : LnOk w x) (hs : LnSm x) : Calls Try.prog 14 #[x.val] w fun e w' => SimPost (simRes x.l x.ss x.bs x.ds) e w' ∧ Below w.heap.size w w' := by
  obtain ⟨A, cap, l, S, capS, ss, Ab, capB, bs, D, capD, ds⟩ := x
  have HBN := Lib.hid (below_new w (.cells #[.slice A l.length cap, .slice S ss.length capS, .slice Ab bs.length capB, .slice D ds.length capD] 27))
  have HO := Lib.hid (h.go HBN.out)
  have HS := Lib.hid hs
  have hl5 : l.length ≤ 5 := hs.l
  have hb70 : bs.length ≤ 70 := hs.b
  have hd21 : ds.length ≤ 21 := hs.d
  unfold Ln.val
  simp only
  clear h hs
  go_enter Try.func14, Try.ntmps14
  go_wp2_with fail
  ((with_reducible refine (simulate_any A cap l S capS ss Ab capB bs D capD ds _ HO.out.o (by omega) HO.out.cap HS.out.o HO.out.s HS.out.s HO.out.b (by omega) HO.out.bc HO.out.bn HO.out.br HO.out.d (by omega)).mono ?_); rintro e w1 ⟨⟨A', c', rfl, h1, h2⟩, hb1⟩)
  have H1 := Lib.hid h1
  have H2 := Lib.hid h2
  have HB1 := Lib.hid (HBN.out.trans (hb1.mono HBN.out.size))
  clear h1 h2 hb1
  go_wp2_with fail
  go_ret2
  exact ⟨⟨A', c', rfl, H1.out, H2.out⟩, HB1.out⟩

set_option maxRecDepth 100000 in
set_option maxHeartbeats 2000000 in
theorem lnCheck_any (x : Ln) (Tk : Option Addr) (capT : Nat) (ts : List Tsk) (w : World) (h : LnOk w x) (hs : LnSm x) (hT : TRd w w.heap.size Tk ts) (htl : ts.length ≤ 1000) (htc : ts.length ≤ capT) (htr : ∀ t ∈ ts, IR t.tk ∧ IR t.op) :
    Calls Try.prog 25 #[x.val, .slice Tk ts.length capT] w fun e w' => e = .returned (.int .i64 (chkF x.l x.ss x.bs x.ds ts)) ∧ Below w.heap.size w w' := by
  obtain ⟨A, cap, l, S, capS, ss, Ab, capB, bs, D, capD, ds⟩ := x
  have HBN := Lib.hid (below_new w (.cells #[.slice A l.length cap, .slice S ss.length capS, .slice Ab bs.length capB, .slice D ds.length capD] 27))
  have HO := Lib.hid (h.go HBN.out)
  have HS := Lib.hid hs
  have HT := Lib.hid (hT.go HBN.out)
  have HTR := Lib.hid htr
  have hl5 : l.length ≤ 5 := hs.l
  have hb70 : bs.length ≤ 70 := hs.b
  have hd21 : ds.length ≤ 21 := hs.d
  unfold Ln.val
  simp only
  clear h hs hT htr
  go_enter Try.func25, Try.ntmps25
  go_wp2_with fail
  ((with_reducible refine (flowCheck_any A cap l S capS ss Ab capB bs D capD ds Tk capT ts _ HO.out.o (by omega) HO.out.cap HS.out.o HO.out.s HS.out.s HO.out.b (by omega) HO.out.bc HO.out.br HO.out.bt HO.out.d (by omega) HT.out htl htc HTR.out).mono ?_); rintro e w1 ⟨rfl, hb1⟩)
  have HB1 := Lib.hid (HBN.out.trans (hb1.mono HBN.out.size))
  clear hb1
  go_wp2_with fail
  go_ret
  exact ⟨rfl, HB1.out⟩

set_option maxHeartbeats 1000000 in
theorem has49_any (A : Option Addr) (cap : Nat) (l : List Int) (x : Int) (w : World) (h : IRd w w.heap.size A l) (hn : l.length ≤ 1000) :
    Calls Try.prog 18 #[.slice A l.length cap, .int .i64 x] w fun e w' => e = .returned (.bool (hasB l x)) ∧ w = w' := by
  have H := Lib.hid h
  clear h
  go_enter Try.func18, Try.ntmps18
  go_wp2_with fail
  go_loop [6, 9] (fun _ i => ∃ k : Nat, k ≤ l.length ∧ i = .int .i64 k ∧ hasB (l.take k) x = false) (fun _ i => l.length - (intOf i).toNat)
  case atStart => exact ⟨0, Nat.zero_le _, rfl, rfl⟩
  case round =>
    obtain ⟨k, hk, rfl, hu⟩ := hrel
    have HU := Lib.hid hu
    clear hu
    by_cases hlt : k < l.length
    · obtain ⟨b, off, y, rfl, hB, hd, c0⟩ := H.out.at_ (Below.refl _ _) hlt
      have HD := Lib.hid hd
      clear hd
      by_cases hx : y = x
      · have hxb : (y == x) = true := by simp [hx]
        have HF := Lib.hid (show hasB l x = true from by rw [← hx]; exact hasB_found HD.out)
        clear hx
        go_wp2
        go_ret
        exact ⟨ret_bool HF.out.symm, rfl⟩
      · have hxb : (y == x) = false := by simp [hx]
        have HX := Lib.hid hx
        clear hx
        go_wp2
        go_round
        case rel => exact ⟨k + 1, by omega, by go_num, hasB_step HD.out HU.out HX.out⟩
        case measure => simp [intOf]; omega
    · go_wp2
      go_ret
      exact ⟨ret_bool (by rw [← HU.out, List.take_of_length_le (by omega)]), rfl⟩
end Go.Proofs.Ytelgkangojmhdaa
