/- flow.room's earliest and flow.next: the walks. -/
import Derived.Test.YtelgkangojmhdaaFlow2
import Derived.Deep.QuietTactic
import Derived.BigQuiet
namespace Go.Proofs.Ytelgkangojmhdaa
open Go.RowKit

def aftT (E : List Int) : List Int → Int → Option Int
  | [], m => some m
  | a :: r, m => if E.getD a.toNat 0 = -1 then none else aftT E r (max m (E.getD a.toNat 0))
def erlT (l : List Opn) (at_ bz E : List Int) (o : Nat) : Option Int := if E.getD o 0 = -1 then aftT E (af l o) (bz.getD (at_.getD o 0).toNat 0) else none
theorem aftT_append (E p q : List Int) (m : Int) : aftT E (p ++ q) m = match aftT E p m with | none => none | some v => aftT E q v := by
  induction p generalizing m with
  | nil => rfl
  | cons x p ih =>
    simp only [List.cons_append, aftT]
    by_cases e : E.getD x.toNat 0 = -1
    · rw [if_pos e, if_pos e]
    · rw [if_neg e, if_neg e]; exact ih _
theorem aftT_next {E q : List Int} {k : Nat} {x m v : Int} (h : q[k]? = some x) (hp : aftT E (q.take k) m = some v) (hx : E.getD x.toNat 0 ≠ -1) : aftT E (q.take (k + 1)) m = some (max v (E.getD x.toNat 0)) := by
  rw [take_snoc' h, aftT_append, hp]
  simp only [aftT]
  rw [if_neg hx]
theorem aftT_stop {E q : List Int} {k : Nat} {x m v : Int} (h : q[k]? = some x) (hp : aftT E (q.take k) m = some v) (hx : E.getD x.toNat 0 = -1) : aftT E q m = none := by
  have hk := (List.getElem?_eq_some_iff.1 h).1
  have e : q = q.take k ++ (x :: q.drop (k + 1)) := by
    rw [show x = q[k] from ((List.getElem?_eq_some_iff.1 h).2).symm, ← List.drop_eq_getElem_cons hk, List.take_append_drop]
  rw [e, aftT_append, hp]
  simp only [aftT]
  rw [if_pos hx]
def ErlPost (r : Option Int) (e : Ending) : Prop := (r = none → e = .returned (.tuple #[.int .i64 0, .bool false])) ∧ ∀ v, r = some v → e = .returned (.tuple #[.int .i64 v, .bool true])
theorem erlPost_no {r : Option Int} (h : r = none) : ErlPost r (.returned (.tuple #[.int .i64 0, .bool false])) := by subst h; exact ⟨fun _ => rfl, fun v h => (by cases h)⟩
theorem erlPost_yes {r : Option Int} {v : Int} (h : r = some v) : ErlPost r (.returned (.tuple #[.int .i64 v, .bool true])) := by subst h; exact ⟨fun h => (by cases h), fun v h => by cases h; rfl⟩
theorem erlT_done {l : List Opn} {at_ bz E : List Int} {o : Nat} (h : E.getD o 0 ≠ -1) : erlT l at_ bz E o = none := by unfold erlT; rw [if_neg h]
theorem erlT_open {l : List Opn} {at_ bz E : List Int} {o : Nat} (h : E.getD o 0 = -1) : erlT l at_ bz E o = aftT E (af l o) (bz.getD (at_.getD o 0).toNat 0) := by unfold erlT; rw [if_pos h]

/-- The state of a line, in memory. -/
structure Room (w : World) (br : Nat) (A : Option Addr) (cap : Nat) (l : List Opn) (ba : Nat) (at_ : List Int) (bb : Nat) (bz : List Int) (bt : Nat) (gs : List Nat) (T : List (List Int)) : Prop where
  blk : w.heap[br]? = some (.cells #[.slice A l.length cap, slc l.length ba, slc bz.length bb, slc T.length bt] 85 (0, 0))
  rat : Row w ba at_
  rbz : Row w bb bz
  tab : Tab w bt l.length gs T
theorem Room.lt {w : World} {br : Nat} {A : Option Addr} {cap : Nat} {l : List Opn} {ba : Nat} {at_ : List Int} {bb : Nat} {bz : List Int} {bt : Nat} {gs : List Nat} {T : List (List Int)} (h : Room w br A cap l ba at_ bb bz bt gs T) : br < w.heap.size := by
  by_cases hb : br < w.heap.size
  · exact hb
  · have := h.blk; rw [Array.getElem?_eq_none (by omega)] at this; cases this
theorem Room.cells {w : World} {br : Nat} {A : Option Addr} {cap : Nat} {l : List Opn} {ba : Nat} {at_ : List Int} {bb : Nat} {bz : List Int} {bt : Nat} {gs : List Nat} {T : List (List Int)} (h : Room w br A cap l ba at_ bb bz bt gs T) :
    w.cell? ⟨br, 0, none⟩ = some (.slice A l.length cap) ∧ w.cell? ⟨br, 1, none⟩ = some (.slice (some ⟨ba, 0, none⟩) l.length l.length) ∧ w.cell? ⟨br, 2, none⟩ = some (.slice (some ⟨bb, 0, none⟩) bz.length bz.length) ∧ w.cell? ⟨br, 3, none⟩ = some (.slice (some ⟨bt, 0, none⟩) T.length T.length) := by
  have hb := h.blk
  refine ⟨?_, ?_, ?_, ?_⟩ <;> simp [World.cell?, hb, slc]
theorem Room.below {w w' : World} {br : Nat} {A : Option Addr} {cap : Nat} {l : List Opn} {ba : Nat} {at_ : List Int} {bb : Nat} {bz : List Int} {bt : Nat} {gs : List Nat} {T : List (List Int)} (h : Room w br A cap l ba at_ bb bz bt gs T) (hb : Below w.heap.size w w') : Room w' br A cap l ba at_ bb bz bt gs T :=
  ⟨(hb.block br h.lt).trans h.blk, h.rat.below hb h.rat.lt, h.rbz.below hb h.rbz.lt, h.tab.below hb⟩

set_option maxRecDepth 100000 in
set_option maxHeartbeats 2000000 in
theorem earliest_any (br : Nat) (A : Option Addr) (cap : Nat) (l : List Opn) (ba : Nat) (at_ : List Int) (bb : Nat) (bz : List Int) (bt : Nat) (gs : List Nat) (T : List (List Int)) (b o : Nat) (w : World)
    (hr : Room w br A cap l ba at_ bb bz bt gs T) (h : ORd w w.heap.size A l) (hs : OSmall l) (hsd : Sound l) (hla : at_.length = l.length) (hab : ∀ x ∈ at_, 0 ≤ x ∧ x < bz.length) (hb : b < T.length) (ho : o < l.length) :
    Calls Try.prog 126 #[.pointer (some ⟨br, 0, none⟩), .int .i64 b, .int .i64 o] w fun e w' => ErlPost (erlT l at_ bz (T.getD b []) o) e ∧ Below w.heap.size w w' := by
  obtain ⟨r0, r1, r2, r3⟩ := hr.cells
  have hbr := hr.lt
  obtain ⟨g, E, hg, hE, ct, hRE, hgt, hEl⟩ := hr.tab.at_ hb
  unfold slc at ct
  have HE := Lib.hid hRE
  have HEL := Lib.hid hEl
  have HTG := Lib.hid (tget hE)
  have hn : l.length ≤ 16 := hsd.len
  have HO := Lib.hid h
  obtain ⟨ob, off, op, rfl, hOB, hd, hat0⟩ := h.at_ (Below.refl _ _) ho
  obtain ⟨_, _, _, ⟨Aa, ca, c3, a1, a2⟩, _⟩ := hat0
  have HA := Lib.hid a2
  have HAF := Lib.hid (af_at hd)
  have hso := (hs op (List.mem_of_getElem? hd)).2.1
  have HDX := Lib.hid (hsd.idx op (List.mem_of_getElem? hd))
  have hga := getD_some (E := at_) (t := o) (by rw [hla]; exact ho)
  have cat := hr.rat.cell hga
  have hso2 := hab _ (List.mem_of_getElem? hga)
  obtain ⟨s, hs'⟩ : ∃ s : Nat, at_.getD o 0 = (s : Int) := ⟨(at_.getD o 0).toNat, by omega⟩
  rw [hs'] at cat hso2
  have HSV := Lib.hid hs'
  have hsl : s < bz.length := by omega
  have cbz := hr.rbz.cell (getD_some (E := bz) (t := s) hsl)
  have cE := hRE.cell (getD_some (E := E) (t := o) (by omega))
  have HEQ : Hid (T.getD b [] = E) := tget hE
  have HOP := Lib.hid (erlT_open (l := l) (at_ := at_) (bz := bz) (E := E) (o := o))
  have HDN := Lib.hid (erlT_done (l := l) (at_ := at_) (bz := bz) (E := E) (o := o))
  rw [HSV.out, show ((s : Int)).toNat = s from by simp, HAF.out] at HOP
  rw [HEQ.out]
  revert cbz cE HOP HDN
  generalize bz.getD s 0 = z
  generalize hyy : E.getD o 0 = y
  intro cbz cE HOP HDN
  have hb0 : (0 : Int) ≤ (b : Int) := by omega
  have hb1 : (b : Int) < (T.length : Int) := by omega
  have ho0 : (0 : Int) ≤ (o : Int) := by omega
  have ho1 : (o : Int) < (l.length : Int) := by omega
  have hs0 : (0 : Int) ≤ (s : Int) := by omega
  have hs1 : (s : Int) < (bz.length : Int) := by omega
  clear hr h hs hsd hab hd a1 a2 hga hs' hE hRE hEl hg hyy
  by_cases hy : y = -1
  · have hyb : (y != -1) = false := by simp [hy]
    have HOP' := Lib.hid (HOP.out hy)
    clear hy HOP HDN
    go_enter Try.func126, Try.ntmps126
    go_wp2
    go_quiet (fail)
    go_wp2_with fail
    have HE2 : Hid (Row (w.drewN nq) g E) := HE.out
    have HA2 : Hid (IRd (w.drewN nq) w.heap.size Aa op.after) := HA.out
    have HB2 : Hid (Below w.heap.size w (w.drewN nq)) := below_drewN (Below.refl _ _) nq
    revert HE2 HA2 HB2
    generalize w.drewN nq = w2
    intro HE2 HA2 HB2
    clear r0 r1 r2 r3 ct c3 cat cbz cE
    go_loop [9, 11, 46] (fun v _ j => ∃ (k : Nat) (v0 : Int), k ≤ op.after.length ∧ j = .int .i64 k ∧ v = .int .i64 v0 ∧ aftT E (op.after.take k) z = some v0) (fun _ _ j => op.after.length - (intOf j).toNat)
    case atStart => exact ⟨0, z, Nat.zero_le _, rfl, rfl, rfl⟩
    case round =>
      obtain ⟨k, v0, hk, rfl, rfl, hu⟩ := hrel
      have HU := Lib.hid hu
      clear hu
      by_cases hlk : k < op.after.length
      · obtain ⟨b2, off2, x, rfl, hB2, hdx, cx⟩ := HA2.out.at_ (Below.refl _ _) hlk
        obtain ⟨x0, x1⟩ := HDX.out x (List.mem_of_getElem? hdx)
        have HNX := Lib.hid (aftT_next (E := E) (m := z) hdx HU.out)
        have HST := Lib.hid (aftT_stop (E := E) (m := z) hdx HU.out)
        clear hdx
        obtain ⟨xn, rfl⟩ : ∃ xn : Nat, x = (xn : Int) := ⟨x.toNat, by omega⟩
        have hxn : xn < l.length := by omega
        rw [show ((xn : Int)).toNat = xn from by simp] at HNX HST
        have cy := HE2.out.cell (getD_some (E := E) (t := xn) (by rw [HEL.out]; exact hxn))
        revert cy HNX HST
        generalize E.getD xn 0 = u
        intro HNX HST cy
        by_cases hu : u = -1
        · have hub : (u == -1) = true := by simp [hu]
          have HX : Hid (erlT l at_ bz E o = none) := by show _ = _; rw [HOP'.out]; exact HST.out hu
          clear hu
          go_wp2
          go_ret2
          exact ⟨erlPost_no HX.out, HB2.out⟩
        · have hub : (u == -1) = false := by simp [hu]
          have HX := Lib.hid (HNX.out hu)
          clear hu
          go_wp2
          all_goals
            go_round
            case rel => exact ⟨k + 1, max v0 u, by omega, by go_num, by first | rfl | exact M.int_eq (by omega), HX.out⟩
            case measure => simp [intOf]; omega
      · obtain rfl : op.after.length = k := by omega
        have HX : Hid (erlT l at_ bz E o = some v0) := by
          show _ = _
          rw [HOP'.out]
          have h1 := HU.out
          rw [List.take_length] at h1
          exact h1
        go_wp2
        go_ret2
        exact ⟨erlPost_yes HX.out, HB2.out⟩
  · have hyb : (y != -1) = true := by simpa using hy
    have HE' := Lib.hid (HDN.out hy)
    clear hy HOP HDN
    go_enter Try.func126, Try.ntmps126
    go_wp2
    go_ret2
    exact ⟨erlPost_no HE'.out, Below.refl _ _⟩

theorem method_earliest (a : Addr) (w : World) : (method 265 81 (.pointer (some a)) "garment/flow.earliest").run Try.prog w = .ok (126, .pointer (some a)) w := by kernel_rfl
/-- The pair that is the best so far, in the slots. -/
def EncB (x : Option (Nat × Nat × Int)) (s6 s7 s8 s9 : Value) : Prop :=
  (x = none ∧ s6 = .int .i64 0 ∧ s7 = .int .i64 0 ∧ s8 = .int .i64 0 ∧ s9 = .bool false) ∨ ∃ (b o : Nat) (s : Int), x = some (b, o, s) ∧ s6 = .int .i64 b ∧ s7 = .int .i64 o ∧ s8 = .int .i64 s ∧ s9 = .bool true
def NextPost (x : Option (Nat × Nat × Int)) (e : Ending) : Prop :=
  (x = none → e = .returned (.tuple #[.int .i64 0, .int .i64 0, .int .i64 0, .bool false])) ∧ ∀ b o s, x = some (b, o, s) → e = .returned (.tuple #[.int .i64 (b : Nat), .int .i64 (o : Nat), .int .i64 s, .bool true])

set_option maxRecDepth 100000 in
set_option maxHeartbeats 2000000 in
theorem next_any (br : Nat) (A : Option Addr) (cap : Nat) (l : List Opn) (ba : Nat) (at_ : List Int) (bb : Nat) (bz : List Int) (bt : Nat) (gs : List Nat) (T : List (List Int)) (w : World)
    (hr : Room w br A cap l ba at_ bb bz bt gs T) (h : ORd w w.heap.size A l) (hs : OSmall l) (hsd : Sound l) (hla : at_.length = l.length) (hab : ∀ x ∈ at_, 0 ≤ x ∧ x < bz.length) (hT : T.length ≤ 1000) :
    Calls Try.prog 50 #[.iface 81 (.pointer (some ⟨br, 0, none⟩)), .int .i64 T.length, .int .i64 l.length] w fun e w' => NextPost (scanB (fun b o => erlT l at_ bz (T.getD b []) o) l.length T.length) e ∧ Below w.heap.size w w' := by
  have HR := Lib.hid hr
  have HO := Lib.hid h
  have HS := Lib.hid hs
  have HSD := Lib.hid hsd
  have HLA := Lib.hid hla
  have HAB := Lib.hid hab
  have hn := hsd.len
  obtain ⟨f, HF⟩ : ∃ f : Nat → Nat → Option Int, Hid (f = fun b o => erlT l at_ bz (T.getD b []) o) := ⟨_, rfl⟩
  have hme := method_earliest ⟨br, 0, none⟩
  rw [← HF.out]
  clear hr h hs hsd hla hab
  go_enter Try.func50, Try.ntmps50
  go_wp2_with fail
  go_loopw [6, 7, 8, 9, 10, 11, 12, 13, 15] (fun s6 s7 s8 s9 _ _ _ _ j wr => ∃ k : Nat, k ≤ T.length ∧ j = .int .i64 k ∧ EncB (scanB f l.length k) s6 s7 s8 s9 ∧ Below w.heap.size w wr) (fun _ _ _ _ _ _ _ _ j _ => T.length - (intOf j).toNat)
  case atStart => exact ⟨0, Nat.zero_le _, rfl, .inl ⟨rfl, rfl, rfl, rfl, rfl⟩, Below.refl _ _⟩
  case round =>
    obtain ⟨k, hk, rfl, henc, hb⟩ := hrel
    have HE := Lib.hid henc
    have HB := Lib.hid hb
    clear henc hb
    by_cases hlt : k < T.length
    · go_wp2_with fail
      obtain ⟨wo, rfl⟩ : ∃ wo : World, wo = wr := ⟨_, rfl⟩
      go_loopw [6, 7, 8, 9, 11, 12, 13, 19] (fun s6 s7 s8 s9 _ _ _ j wr => ∃ i : Nat, i ≤ l.length ∧ j = .int .i64 i ∧ EncB (scanO f k (scanB f l.length k) i) s6 s7 s8 s9 ∧ Below w.heap.size w wr) (fun _ _ _ _ _ _ _ j _ => l.length - (intOf j).toNat)
      case atStart => exact ⟨0, Nat.zero_le _, rfl, HE.out, HB.out⟩
      case round =>
        clear HE HB
        obtain ⟨i, hi, rfl, henc, hb⟩ := hrel
        have HB := Lib.hid hb
        have HE := Lib.hid henc
        clear hb henc
        by_cases hil : i < l.length
        · have HRR := Lib.hid (HR.out.below HB.out)
          have HOO := Lib.hid ((HO.out.below HB.out).more HB.out.size)
          have HSC : Hid (scanO f k (scanB f l.length k) (i + 1) = upd (scanO f k (scanB f l.length k) i) k i (f k i)) := rfl
          obtain ⟨x, HX⟩ : ∃ x, Hid (scanO f k (scanB f l.length k) i = x) := ⟨_, rfl⟩
          rw [HX.out] at HE HSC
          go_wp2_with fail
          ((with_reducible refine (earliest_any br A cap l ba at_ bb bz bt gs T k i _ HRR.out HOO.out HS.out HSD.out HLA.out HAB.out hlt hil).mono ?_); rintro e w3 ⟨hp, hb3⟩)
          have HB3 := Lib.hid (HB.out.trans (hb3.mono HB.out.size))
          have hfk : f k i = erlT l at_ bz (T.getD k []) i := by rw [HF.out]
          rw [← hfk] at hp
          clear hb3 hfk
          cases hf : f k i with
          | none =>
            obtain rfl := hp.1 hf
            have HSC' : Hid (scanO f k (scanB f l.length k) (i + 1) = x) := by show _ = _; rw [HSC.out, hf]; rfl
            clear hf hp
            go_wp2
            go_roundw
            case rel => exact ⟨i + 1, by omega, by go_num, by rw [HSC'.out]; exact HE.out, HB3.out⟩
            case measure => simp [intOf]; omega
          | some s =>
            obtain rfl := hp.2 s hf
            have HSC1 : Hid (scanO f k (scanB f l.length k) (i + 1) = upd x k i (some s)) := by show _ = _; rw [HSC.out, hf]
            clear hf hp
            rcases HE.out with ⟨rfl, rfl, rfl, rfl, rfl⟩ | ⟨b0, o0, s0, rfl, rfl, rfl, rfl, rfl⟩
            · have HN : Hid (EncB (scanO f k (scanB f l.length k) (i + 1)) (.int .i64 k) (.int .i64 i) (.int .i64 s) (.bool true)) := by
                show EncB _ _ _ _ _
                rw [HSC1.out]; exact .inr ⟨k, i, s, rfl, rfl, rfl, rfl, rfl⟩
              go_wp2
              go_roundw
              case rel => exact ⟨i + 1, by omega, by go_num, HN.out, HB3.out⟩
              case measure => simp [intOf]; omega
            · by_cases hlts : s < s0
              · have HN : Hid (EncB (scanO f k (scanB f l.length k) (i + 1)) (.int .i64 k) (.int .i64 i) (.int .i64 s) (.bool true)) := by
                  show EncB _ _ _ _ _
                  rw [HSC1.out]; unfold upd; simp only; rw [if_pos hlts]; exact .inr ⟨k, i, s, rfl, rfl, rfl, rfl, rfl⟩
                go_wp2
                go_roundw
                case rel => exact ⟨i + 1, by omega, by go_num, HN.out, HB3.out⟩
                case measure => simp [intOf]; omega
              · have HN : Hid (EncB (scanO f k (scanB f l.length k) (i + 1)) (.int .i64 b0) (.int .i64 o0) (.int .i64 s0) (.bool true)) := by
                  show EncB _ _ _ _ _
                  rw [HSC1.out]; unfold upd; simp only; rw [if_neg hlts]; exact .inr ⟨b0, o0, s0, rfl, rfl, rfl, rfl, rfl⟩
                go_wp2
                go_roundw
                case rel => exact ⟨i + 1, by omega, by go_num, HN.out, HB3.out⟩
                case measure => simp [intOf]; omega
        · obtain rfl : l.length = i := by omega
          go_wp2
          go_roundw
          case rel => exact ⟨k + 1, by omega, by go_num, HE.out, HB.out⟩
          case measure => simp [intOf]; omega
    · obtain rfl : T.length = k := by omega
      rcases HE.out with ⟨hx, rfl, rfl, rfl, rfl⟩ | ⟨b0, o0, s0, hx, rfl, rfl, rfl, rfl⟩
      · have HX := Lib.hid hx
        clear hx
        go_wp2
        refine bodyPost_ret (v := .tuple #[.int .i64 0, .int .i64 0, .int .i64 0, .bool false]) (by simp [results, Try.results50, go_sem]) rfl ⟨⟨fun _ => rfl, fun b o s h => (by rw [HX.out] at h; cases h)⟩, HB.out⟩
      · have HX := Lib.hid hx
        clear hx
        go_wp2
        refine bodyPost_ret (v := .tuple #[.int .i64 b0, .int .i64 o0, .int .i64 s0, .bool true]) (by simp [results, Try.results50, go_sem]) rfl ⟨⟨fun h => (by rw [HX.out] at h; cases h), fun b o s h => (by rw [HX.out] at h; cases h; rfl)⟩, HB.out⟩
end Go.Proofs.Ytelgkangojmhdaa
