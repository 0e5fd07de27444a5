/- The reference of the flow: find, begin, work: the walks. -/
import Derived.Test.YtelgkangojmhdaaFlow4
import Derived.Test.YtelgkangojmhdaaG8
import Derived.Deep.RegionHeld3
import Derived.Deep.RegionWith
import Derived.RegionTactic
import Derived.BigQuiet
import Derived.Outline
import Derived.Handy
namespace Go.Proofs.Ytelgkangojmhdaa
open Go.RowKit

def FndPost (r : Option Tsk) (e : Ending) : Prop :=
  (r = none → e = .returned (.tuple #[.agg #[.int .i64 0, .int .i64 0, .int .i64 0, .int .i64 0, .int .i64 0], .bool false])) ∧
  ∀ t, r = some t → e = .returned (.tuple #[.agg #[.int .i64 t.tk, .int .i64 t.op, .int .i64 t.st, .int .i64 t.a, .int .i64 t.b], .bool true])
theorem fndPost_no {r : Option Tsk} (h : r = none) : FndPost r (.returned (.tuple #[.agg #[.int .i64 0, .int .i64 0, .int .i64 0, .int .i64 0, .int .i64 0], .bool false])) := by subst h; exact ⟨fun _ => rfl, fun t h => (by cases h)⟩
theorem fndPost_yes {r : Option Tsk} {t : Tsk} (h : r = some t) : FndPost r (.returned (.tuple #[.agg #[.int .i64 t.tk, .int .i64 t.op, .int .i64 t.st, .int .i64 t.a, .int .i64 t.b], .bool true])) := by subst h; exact ⟨fun h => (by cases h), fun t h => by cases h; rfl⟩
theorem fnd_next {ts : List Tsk} {k o : Int} {i : Nat} {x : Tsk} (h : ts[i]? = some x) (hp : fnd (ts.take i) k o = none) (hx : ¬ (x.tk = k ∧ x.op = o)) : fnd (ts.take (i + 1)) k o = none := by
  rw [take_tk h, fnd_snoc, hp]; simp [hx]
theorem fnd_hit {ts : List Tsk} {k o : Int} {i : Nat} {x : Tsk} (h : ts[i]? = some x) (hp : fnd (ts.take i) k o = none) (hx : x.tk = k ∧ x.op = o) : fnd ts k o = some x := by
  have h1 : fnd (ts.take (i + 1)) k o = some x := by rw [take_tk h, fnd_snoc, hp]; simp [hx]
  unfold fnd at *
  rw [← List.take_append_drop (i + 1) ts, List.find?_append, h1]; rfl
theorem fnd_done {ts : List Tsk} {k o : Int} (h : fnd (ts.take ts.length) k o = none) : fnd ts k o = none := by rwa [List.take_length] at h

set_option maxRecDepth 100000 in
set_option maxHeartbeats 2000000 in
theorem find_any (A : Option Addr) (cap : Nat) (ts : List Tsk) (k o : Int) (w : World) (h : TRd w w.heap.size A ts) (hn : ts.length ≤ 20000) :
    Calls Try.prog 64 #[.slice A ts.length cap, .int .i64 k, .int .i64 o] w fun e w' => FndPost (fnd ts k o) e ∧ Below w.heap.size w w' := by
  have H := Lib.hid h
  clear h
  go_enter Try.func64, Try.ntmps64
  go_wp2
  go_loop [8] (fun j => ∃ i : Nat, i ≤ ts.length ∧ j = .int .i64 i ∧ fnd (ts.take i) k o = none) (fun j => ts.length - (intOf j).toNat)
  case atStart => exact ⟨0, Nat.zero_le _, rfl, rfl⟩
  case round =>
    obtain ⟨i, hi, rfl, hu⟩ := hrel
    have HU := Lib.hid hu
    clear hu
    by_cases hlt : i < ts.length
    · obtain ⟨b, off, x, rfl, hB, hd, hat⟩ := H.out.at_ (Below.refl _ _) hlt
      obtain ⟨c0, c1, c2, c3, c4⟩ := hat
      have HD := Lib.hid hd
      clear hd
      by_cases hx : x.tk = k ∧ x.op = o
      · have HF := Lib.hid (fnd_hit HD.out HU.out hx)
        have h1 : (x.tk == k) = true := by simp [hx.1]
        have h2 : (x.op == o) = true := by simp [hx.2]
        clear hx
        go_wp2
        refine bodyPost_ret (v := .tuple #[.agg #[.int .i64 x.tk, .int .i64 x.op, .int .i64 x.st, .int .i64 x.a, .int .i64 x.b], .bool true]) (by simp [results, Try.results64, go_sem]) rfl ⟨fndPost_yes HF.out, ?_⟩
        exact below_new _ _
      · have HU' := Lib.hid (fnd_next HD.out HU.out hx)
        have hc : (x.tk == k) = false ∨ (x.tk == k) = true ∧ (x.op == o) = false := by
          by_cases e : x.tk = k
          · exact .inr ⟨by simp [e], by simpa using fun e2 => hx ⟨e, e2⟩⟩
          · exact .inl (by simpa using e)
        clear hx
        rcases hc with h1 | ⟨h1, h2⟩
        all_goals
          go_wp2
          go_round
          case rel => exact ⟨i + 1, by omega, by go_num, HU'.out⟩
          case measure => simp [intOf]; omega
    · obtain rfl : ts.length = i := by omega
      have HF := Lib.hid (fnd_done HU.out)
      go_wp2
      refine bodyPost_ret (v := .tuple #[.agg #[.int .i64 0, .int .i64 0, .int .i64 0, .int .i64 0, .int .i64 0], .bool false]) (by simp [results, Try.results64, go_sem]) rfl ⟨fndPost_no HF.out, ?_⟩
      exact below_new _ _

theorem aftMax_next {ts : List Tsk} {k : Int} {q : List Int} {j : Nat} {x m v : Int} {t : Tsk} (h : q[j]? = some x) (hp : aftMax ts k (q.take j) m = some v) (hf : fnd ts k x = some t) : aftMax ts k (q.take (j + 1)) m = some (max v t.b) := by
  rw [take_tk h, aftMax_append, hp]
  simp only [aftMax, hf]
theorem erl_open {l : List Opn} {at_ : List Int} {ts : List Tsk} {k : Int} {o : Nat} (h : fnd ts k o = none) : erl l at_ ts k o = aftMax ts k (af l o) (busyOf ts (at_.getD o 0)) := by unfold erl; rw [h]
theorem erl_done {l : List Opn} {at_ : List Int} {ts : List Tsk} {k : Int} {o : Nat} {t : Tsk} (h : fnd ts k o = some t) : erl l at_ ts k o = none := by unfold erl; rw [h]
theorem busy_yes {ts : List Tsk} {i : Nat} {x : Tsk} {s : Int} (h : ts[i]? = some x) (e : x.st = s) : busyOf (ts.take (i + 1)) s = max (busyOf (ts.take i) s) x.b := by rw [take_tk h, busyOf_snoc, if_pos e]
theorem busy_no {ts : List Tsk} {i : Nat} {x : Tsk} {s : Int} (h : ts[i]? = some x) (e : x.st ≠ s) : busyOf (ts.take (i + 1)) s = busyOf (ts.take i) s := by rw [take_tk h, busyOf_snoc, if_neg e]

set_option maxRecDepth 100000 in
set_option maxHeartbeats 4000000 in
theorem begin49_any (A : Option Addr) (cap : Nat) (l : List Opn) (Aa : Option Addr) (capA : Nat) (at_ : List Int) (Tk : Option Addr) (capT : Nat) (ts : List Tsk) (k : Int) (o : Nat) (w : World)
    (h : ORd w w.heap.size A l) (hs : OSmall l) (ha : IRd w w.heap.size Aa at_) (hla : at_.length = l.length) (ht : TRd w w.heap.size Tk ts) (hn : ts.length ≤ 20000) (ho : o < l.length) :
    Calls Try.prog 60 #[.slice A l.length cap, .slice Aa l.length capA, .slice Tk ts.length capT, .int .i64 k, .int .i64 o] w fun e w' => ErlPost (erl l at_ ts k o) e ∧ Below w.heap.size w w' := by
  have HO := Lib.hid h
  have HA := Lib.hid ha
  have HT := Lib.hid ht
  have HLA := Lib.hid hla
  have HS := Lib.hid hs
  clear h ha ht hla hs
  go_enter Try.func60, Try.ntmps60
  go_wp2_with fail
  ((with_reducible refine (find_any Tk capT ts k o _ HT.out hn).mono ?_); rintro e w1 ⟨hp, hb1⟩)
  have HB1 := Lib.hid hb1
  clear hb1
  cases hf : fnd ts k o with
  | some t =>
    obtain rfl := hp.2 t hf
    have HE := Lib.hid (erl_done (l := l) (at_ := at_) hf)
    clear hp hf
    go_wp2
    go_ret2
    exact ⟨erlPost_no HE.out, HB1.out.alloc HB1.out.size _⟩
  | none =>
    obtain rfl := hp.1 hf
    have HE := Lib.hid (erl_open (l := l) (at_ := at_) hf)
    clear hp hf
    have i0 : (0 : Int) ≤ (o : Int) := by omega
    have i1 : (o : Int) < (l.length : Int) := by omega
    obtain ⟨y, hy⟩ : ∃ y, at_.getD o 0 = y := ⟨_, rfl⟩
    rw [hy] at HE
    have HY := Lib.hid hy
    clear hy
    go_wp2_with fail
    go_loopw [14, 15] (fun s j wr => ∃ i : Nat, i ≤ ts.length ∧ j = .int .i64 i ∧ s = .int .i64 (busyOf (ts.take i) y) ∧ Below w.heap.size w wr) (fun _ j _ => ts.length - (intOf j).toNat)
    case atStart => exact ⟨0, Nat.zero_le _, rfl, rfl, HB1.out.alloc HB1.out.size _⟩
    case round =>
      obtain ⟨i, hi, rfl, rfl, hb⟩ := hrel
      have HB := Lib.hid hb
      clear hb
      by_cases hlt : i < ts.length
      · obtain ⟨b, off, x, hA, hB, hd, hat⟩ := HT.out.at_ HB.out hlt
        obtain ⟨c0, c1, c2, c3, c4⟩ := hat
        obtain ⟨ba, offa, y', hA2, hBa, hda, ca⟩ := HA.out.at_ HB.out (show o < at_.length by rw [HLA.out]; exact ho)
        have hyy : y' = y := by rw [← HY.out, List.getD_eq_getElem?_getD, hda]; rfl
        subst hyy
        subst hA hA2
        have HYes := Lib.hid (busy_yes (s := y') hd)
        have HNo := Lib.hid (busy_no (s := y') hd)
        clear hd hda c0 c1 c3
        generalize busyOf (ts.take i) y' = m at *
        have j0 : (0 : Int) ≤ (i : Int) := by omega
        have j1 : (i : Int) < (ts.length : Int) := by omega
        by_cases hx : x.st = y'
        · have HN := Lib.hid (HYes.out hx)
          have hxb : (x.st == y') = true := by simpa using hx
          clear hx HYes HNo
          go_wp2_with fail
          go_quiet (fail)
          go_wp2_with fail
          go_roundw
          case rel => exact ⟨i + 1, by omega, by go_num, by rw [HN.out], below_drewN HB.out _⟩
          case measure => simp [intOf]; omega
        · have HN := Lib.hid (HNo.out hx)
          have hxb : (x.st == y') = false := by simpa using hx
          clear hx HYes HNo
          go_wp2_with fail
          go_quiet (fail)
          go_wp2_with fail
          go_roundw
          case rel => exact ⟨i + 1, by omega, by go_num, by rw [HN.out], below_drewN HB.out _⟩
          case measure => simp [intOf]; omega
      · obtain rfl : ts.length = i := by omega
        rw [List.take_length]
        obtain ⟨wo, rfl⟩ : ∃ wo : World, wo = wr := ⟨_, rfl⟩
        generalize busyOf ts y = m at *
        go_wp2_with fail
        go_loopw [14, 16, 17, 18] (fun s j _ _ wr => ∃ (i : Nat) (v : Int), i ≤ (af l o).length ∧ j = .int .i64 i ∧ s = .int .i64 v ∧ aftMax ts k ((af l o).take i) m = some v ∧ Below w.heap.size w wr) (fun _ j _ _ _ => (af l o).length - (intOf j).toNat)
        case atStart => exact ⟨0, m, Nat.zero_le _, rfl, rfl, rfl, HB.out⟩
        case round =>
          clear HB
          obtain ⟨i, v, hi, rfl, rfl, hv, hb⟩ := hrel
          have HB := Lib.hid hb
          have HV := Lib.hid hv
          clear hb hv
          obtain ⟨b, off, op, hA, hB, hd, hat⟩ := HO.out.at_ HB.out ho
          obtain ⟨_, _, _, ⟨Af, cf, c3, hcf, haf⟩, _⟩ := hat
          have hafe := af_at hd
          have hso := (HS.out op (List.mem_of_getElem? hd)).2.1
          rw [hafe] at hi HV HE ⊢
          have HAF := Lib.hid haf
          subst hA
          clear hd haf hafe
          by_cases hlt : i < op.after.length
          · obtain ⟨b2, off2, x, hA2, hB2, hdx, cx⟩ := HAF.out.at_ (Below.refl _ _) hlt
            subst hA2
            have HDX := Lib.hid hdx
            clear hdx
            have j0 : (0 : Int) ≤ (i : Int) := by omega
            have j1 : (i : Int) < (op.after.length : Int) := by omega
            have HTW := Lib.hid (HT.out.go HB.out)
            go_wp2_with fail
            ((with_reducible refine (find_any Tk capT ts k x _ HTW.out hn).mono ?_); rintro e w2 ⟨hp, hb2⟩)
            have HB2 := Lib.hid (HB.out.trans (hb2.mono HB.out.size))
            clear hb2
            cases hf : fnd ts k x with
            | none =>
              obtain rfl := hp.1 hf
              have HX : Hid (erl l at_ ts k o = none) := by show _ = _; rw [HE.out]; exact aftMax_none (List.mem_of_getElem? HDX.out) hf
              clear hp hf
              go_wp2
              go_ret2
              exact ⟨erlPost_no HX.out, HB2.out.alloc HB2.out.size _⟩
            | some t =>
              obtain rfl := hp.2 t hf
              have HX := Lib.hid (aftMax_next HDX.out HV.out hf)
              clear hp hf
              go_wp2_with fail
              go_roundw
              case rel => exact ⟨i + 1, max v t.b, by omega, by go_num, rfl, HX.out, HB2.out.alloc HB2.out.size _⟩
              case measure => simp [intOf]; omega
          · obtain rfl : op.after.length = i := by omega
            have HX : Hid (erl l at_ ts k o = some v) := by
              show _ = _
              rw [HE.out]
              have h1 := HV.out
              rw [List.take_length] at h1
              exact h1
            go_wp2
            go_ret2
            exact ⟨erlPost_yes HX.out, HB.out⟩

set_option maxRecDepth 100000 in
set_option maxHeartbeats 1000000 in
theorem work49_any (A : Option Addr) (cap : Nat) (l : List Opn) (o : Nat) (b : Bn) (w : World) (h : ORd w w.heap.size A l) (ho : o < l.length) (hm : 1 ≤ mn l o ∧ mn l o ≤ 10000) (hp : 1 ≤ b.tp - b.fr ∧ b.tp - b.fr ≤ 40) :
    Calls Try.prog 38 #[.slice A l.length cap, .int .i64 o, .agg #[.int .i64 b.tk, .int .i64 b.gm, .int .i64 b.sz, .int .i64 b.lot, .int .i64 b.fr, .int .i64 b.tp]] w fun e w' => e = .returned (.int .i64 (wk l b o)) ∧ Below w.heap.size w w' := by
  obtain ⟨bx, off, op, rfl, hB, hd, hat⟩ := h.at_ (Below.refl _ _) ho
  obtain ⟨_, _, c2, _⟩ := hat
  have hmn : mn l o = op.mins := by unfold mn; rw [List.getD_eq_getElem?_getD, hd]; rfl
  have HW : Hid (wk l b o = op.mins * (b.tp - b.fr)) := by show _ = _; unfold wk; rw [hmn]
  rw [hmn] at hm
  obtain ⟨m0, m1⟩ := hm
  obtain ⟨p0, p1⟩ := hp
  have hmul : op.mins * (b.tp - b.fr) ≤ 10000 * 40 := Int.mul_le_mul m1 p1 (by omega) (by omega)
  have hmul0 : 0 ≤ op.mins * (b.tp - b.fr) := Int.mul_nonneg (by omega) (by omega)
  have i0 : (0 : Int) ≤ (o : Int) := by omega
  have i1 : (o : Int) < (l.length : Int) := by omega
  have w1 : IntKind.i64.wrap (b.tp - b.fr) = b.tp - b.fr := IntWalk.i64_in _ (by omega)
  have w2 : IntKind.i64.wrap (op.mins * (b.tp - b.fr)) = op.mins * (b.tp - b.fr) := IntWalk.i64_in _ (by omega)
  clear h hd hmn
  go_enter Try.func38, Try.ntmps38
  go_wp2
  go_quiet (fail)
  go_wp2_with fail
  go_ret
  exact ⟨ret_int HW.out.symm, below_drewN (below_new _ _) _⟩
end Go.Proofs.Ytelgkangojmhdaa
