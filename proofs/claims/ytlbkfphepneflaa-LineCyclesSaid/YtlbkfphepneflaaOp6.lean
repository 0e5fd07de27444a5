/- Slices of operations; walk of operation.checkOne: it computes its plain function. -/
import Derived.Test.YtlbkfphepneflaaOp5
namespace Go.Proofs.Ytlbkfphepneflaa
open Go.RowKit

/-- One operation at offset p of block b. -/
def OpAt (w : World) (B b p : Nat) (o : Opn) : Prop :=
  w.cell? ⟨b, p, none⟩ = some (.string o.name) ∧ w.cell? ⟨b, p + 1, none⟩ = some (.int .i64 o.mach) ∧ w.cell? ⟨b, p + 2, none⟩ = some (.int .i64 o.mins) ∧
  (∃ A c, w.cell? ⟨b, p + 3, none⟩ = some (.slice A o.after.length c) ∧ o.after.length ≤ c ∧ IRd w B A o.after) ∧
  ∃ A c, w.cell? ⟨b, p + 4, none⟩ = some (.slice A o.uses.length c) ∧ o.uses.length ≤ c ∧ IRd w B A o.uses
/-- The slice at A reads as the operations l; all of it lies below block B. -/
def ORd (w : World) (B : Nat) (A : Option Addr) (l : List Opn) : Prop :=
  l ≠ [] → ∃ b off, A = some ⟨b, off, none⟩ ∧ b < B ∧ ∀ i o, l[i]? = some o → OpAt w B b (off + i * 5) o
theorem OpAt.below {w w' : World} {B b p : Nat} {o : Opn} (h : OpAt w B b p o) (hb : Below B w w') (hB : b < B) : OpAt w' B b p o := by
  obtain ⟨h0, h1, h2, ⟨A, c, h3, h4, h5⟩, ⟨A', c', h6, h7, h8⟩⟩ := h
  exact ⟨(hb.cell (p := ⟨b, _, none⟩) hB).trans h0, (hb.cell (p := ⟨b, _, none⟩) hB).trans h1, (hb.cell (p := ⟨b, _, none⟩) hB).trans h2,
    ⟨A, c, (hb.cell (p := ⟨b, _, none⟩) hB).trans h3, h4, h5.below hb⟩, ⟨A', c', (hb.cell (p := ⟨b, _, none⟩) hB).trans h6, h7, h8.below hb⟩⟩
theorem OpAt.more {w : World} {B B' b p : Nat} {o : Opn} (h : OpAt w B b p o) (hB : B ≤ B') : OpAt w B' b p o := by
  obtain ⟨h0, h1, h2, ⟨A, c, h3, h4, h5⟩, ⟨A', c', h6, h7, h8⟩⟩ := h
  exact ⟨h0, h1, h2, ⟨A, c, h3, h4, h5.more hB⟩, ⟨A', c', h6, h7, h8.more hB⟩⟩
theorem ORd.below {w w' : World} {B : Nat} {A : Option Addr} {l : List Opn} (h : ORd w B A l) (hb : Below B w w') : ORd w' B A l := by
  intro hl
  obtain ⟨b, off, e, hB, hc⟩ := h hl
  exact ⟨b, off, e, hB, fun i d hd => (hc i d hd).below hb hB⟩
theorem ORd.more {w : World} {B B' : Nat} {A : Option Addr} {l : List Opn} (h : ORd w B A l) (hB : B ≤ B') : ORd w B' A l := by
  intro hl
  obtain ⟨b, off, e, hb, hc⟩ := h hl
  exact ⟨b, off, e, by omega, fun i o ho => (hc i o ho).more hB⟩
theorem ORd.take {w : World} {B : Nat} {A : Option Addr} {l : List Opn} (h : ORd w B A l) (n : Nat) : ORd w B A (l.take n) := by
  intro hl
  obtain ⟨b, off, e, hb, hc⟩ := h (by intro e; subst e; simp at hl)
  refine ⟨b, off, e, hb, fun i x hx => hc i x ?_⟩
  rw [List.getElem?_take] at hx
  split at hx
  · exact hx
  · cases hx
theorem ORd.at_ {w w' : World} {B : Nat} {A : Option Addr} {l : List Opn} (h : ORd w B A l) (hb : Below B w w') {k : Nat} (hk : k < l.length) :
    ∃ b off o, A = some ⟨b, off, none⟩ ∧ b < B ∧ l[k]? = some o ∧ OpAt w' B b (off + k * 5) o := by
  obtain ⟨b, off, e, hB, hc⟩ := (h.below hb) (by intro e; subst e; simp at hk)
  have hd : l[k]? = some l[k] := List.getElem?_eq_getElem hk
  exact ⟨b, off, l[k], e, hB, hd, hc k _ hd⟩

/-- What the laws' guard gives: short names and lists. -/
def OSmall (l : List Opn) : Prop := ∀ o ∈ l, o.name.size ≤ 50 ∧ o.after.length ≤ 20 ∧ o.uses.length ≤ 20
theorem getD_at {l : List Opn} {i : Nat} {o : Opn} (h : l[i]? = some o) : l.getD i op0 = o := by rw [List.getD_eq_getElem?_getD, h]; rfl
theorem oneErr_name {l : List Opn} {i : Nat} {o : Opn} (h : l[i]? = some o) (hn : nameOk o.name.data.toList = false) : oneErr l i = 1 := by
  unfold oneErr; simp only [getD_at h]; rw [if_pos hn]
theorem oneErr_dup {l : List Opn} {i k : Nat} {o p : Opn} (h : l[i]? = some o) (hn : nameOk o.name.data.toList = true) (hp : (l.take i)[k]? = some p) (hs : sameName o p = true) : oneErr l i = 7 := by
  unfold oneErr; simp only [getD_at h]; rw [if_neg (by simp [hn]), if_pos (by rw [List.any_eq_true]; exact ⟨p, List.mem_of_getElem? hp, hs⟩)]
theorem oneErr_range {l : List Opn} {i : Nat} {o : Opn} (h : l[i]? = some o) (hn : nameOk o.name.data.toList = true) (hs : (l.take i).any (sameName o) = false) (hr : rangeBad o l.length = true) : oneErr l i = 3 := by
  unfold oneErr; simp only [getD_at h]; rw [if_neg (by simp [hn]), if_neg (by simp [hs]), if_pos hr]
theorem oneErr_twice {l : List Opn} {i : Nat} {o : Opn} (h : l[i]? = some o) (hn : nameOk o.name.data.toList = true) (hs : (l.take i).any (sameName o) = false) (hr : rangeBad o l.length = false) (hd : dup o.after = true) : oneErr l i = 7 := by
  unfold oneErr; simp only [getD_at h]; rw [if_neg (by simp [hn]), if_neg (by simp [hs]), if_neg (by simp [hr]), if_pos hd]
theorem oneErr_ok {l : List Opn} {i : Nat} {o : Opn} (h : l[i]? = some o) (hn : nameOk o.name.data.toList = true) (hs : (l.take i).any (sameName o) = false) (hr : rangeBad o l.length = false) (hd : dup o.after = false) : oneErr l i = 0 := by
  unfold oneErr; simp only [getD_at h]; rw [if_neg (by simp [hn]), if_neg (by simp [hs]), if_neg (by simp [hr]), if_neg (by simp [hd])]
theorem any_take_succ {l : List Opn} {k : Nat} {p : Opn} {q : Opn → Bool} (h : l[k]? = some p) (h1 : (l.take k).any q = false) (h2 : q p = false) : (l.take (k + 1)).any q = false := by
  rw [List.take_add_one, h]; simp only [Option.toList, List.any_append, h1, Bool.false_or, List.any_cons, List.any_nil, Bool.or_false]; exact h2
theorem same_toList {a b : Opn} : sameName a b = (b.name.toList == a.name.toList) := by
  unfold sameName
  rw [ByteArray.toList_eq, ByteArray.toList_eq, Bool.eq_iff_iff, decide_eq_true_iff, beq_iff_eq]
  exact ⟨fun h => h.symm, fun h => h.symm⟩
theorem rangeBad_false {o : Opn} {n : Nat} (h1 : 0 ≤ o.mach) (h2 : o.mach < 8) (h3 : 1 ≤ o.mins) (h4 : o.mins ≤ 10000) (h5 : idxOk o.after n = true) : rangeBad o n = false := by
  unfold rangeBad; rw [h5]; simp; omega
theorem rangeBad_num {o : Opn} {n : Nat} (h : o.mach < 0 ∨ 8 ≤ o.mach ∨ o.mins < 1 ∨ 10000 < o.mins) : rangeBad o n = true := by
  unfold rangeBad; simp [h]
theorem rangeBad_idx {o : Opn} {n : Nat} (h5 : idxOk o.after n = false) : rangeBad o n = true := by
  unfold rangeBad; simp [h5]

theorem opNew (w : World) (o : Opn) (Aa Au : Option Addr) (ca cu : Nat) (T : TypeId) :
    (w.alloc (.cells #[.string o.name, .int .i64 o.mach, .int .i64 o.mins, .slice Aa o.after.length ca, .slice Au o.uses.length cu] T)).cell? ⟨w.heap.size, 0, none⟩ = some (.string o.name) ∧
    (w.alloc (.cells #[.string o.name, .int .i64 o.mach, .int .i64 o.mins, .slice Aa o.after.length ca, .slice Au o.uses.length cu] T)).cell? ⟨w.heap.size, 1, none⟩ = some (.int .i64 o.mach) ∧
    (w.alloc (.cells #[.string o.name, .int .i64 o.mach, .int .i64 o.mins, .slice Aa o.after.length ca, .slice Au o.uses.length cu] T)).cell? ⟨w.heap.size, 2, none⟩ = some (.int .i64 o.mins) ∧
    (w.alloc (.cells #[.string o.name, .int .i64 o.mach, .int .i64 o.mins, .slice Aa o.after.length ca, .slice Au o.uses.length cu] T)).cell? ⟨w.heap.size, 3, none⟩ = some (.slice Aa o.after.length ca) ∧
    (w.alloc (.cells #[.string o.name, .int .i64 o.mach, .int .i64 o.mins, .slice Aa o.after.length ca, .slice Au o.uses.length cu] T)).cell? ⟨w.heap.size, 4, none⟩ = some (.slice Au o.uses.length cu) ∧
    w.heap.size < (w.alloc (.cells #[.string o.name, .int .i64 o.mach, .int .i64 o.mins, .slice Aa o.after.length ca, .slice Au o.uses.length cu] T)).heap.size ∧
    Below w.heap.size w (w.alloc (.cells #[.string o.name, .int .i64 o.mach, .int .i64 o.mins, .slice Aa o.after.length ca, .slice Au o.uses.length cu] T)) :=
  ⟨by simp [go_sem], by simp [go_sem], by simp [go_sem], by simp [go_sem], by simp [go_sem], by simp, (Below.refl _ _).alloc (Nat.le_refl _) _⟩

set_option maxRecDepth 100000 in
set_option maxHeartbeats 2000000 in
theorem checkOne_any (A : Option Addr) (cap : Nat) (l : List Opn) (i : Nat) (w : World) (h : ORd w w.heap.size A l) (hi : i < l.length) (hn : l.length ≤ 1000) (hcap : l.length ≤ cap) (hs : OSmall l) :
    Calls Try.prog 40 #[.slice A l.length cap, .int .i64 i, .int .i64 (-1)] w fun e w' => e = .returned (.int .i64 (oneErr l i)) ∧ Below w.heap.size w w' := by
  obtain ⟨b, off, o, rfl, hB, hd, hat⟩ := h.at_ (Below.refl _ _) hi
  have hso := hs o (List.mem_of_getElem? hd)
  obtain ⟨c0, c1, c2, ⟨Aa, ca, c3, a1, a2⟩, ⟨Au, cu, c4, u1, u2⟩⟩ := hat
  have HD := Lib.hid hd
  have H := Lib.hid h
  have HA := Lib.hid a2
  have HS := Lib.hid hs
  have hso1 := hso.2.1
  have hso2 := hso.1
  clear h hd a2 hs u1 u2 hso
  have hi0 : (0 : Int) ≤ (i : Int) := by omega
  have hi1 : (i : Int) ≤ (cap : Int) := by omega
  have hi2 : (i : Int) < (l.length : Int) := by omega
  go_enter Try.func40, Try.ntmps40
  go_wp2_with fail
  ((with_reducible refine (isName_any o.name _ (by omega)).mono ?_); rintro e w1 ⟨rfl, rfl⟩)
  cases hnm : nameOk o.name.data.toList with
  | false =>
    have HE := Lib.hid (oneErr_name HD.out hnm)
    clear hnm
    go_wp2
    go_ret
    exact ⟨ret_int HE.out.symm, (Below.refl _ _).alloc (Nat.le_refl _) _⟩
  | true =>
    have HN := Lib.hid hnm
    clear hnm
    have HZ := Lib.hid (opNew w o Aa Au ca cu 38)
    go_wp2_with fail
    revert HZ
    generalize w.alloc (.cells #[.string o.name, .int .i64 o.mach, .int .i64 o.mins, .slice Aa o.after.length ca, .slice Au o.uses.length cu] 38) = w0
    intro HZ
    obtain ⟨z0, z1, z2, z3, z4, hz0, hbw⟩ := HZ.out
    have HBW := Lib.hid hbw
    have HZ0 := Lib.hid z0
    have HZ1 := Lib.hid z1
    have HZ2 := Lib.hid z2
    have HZ3 := Lib.hid z3
    clear hbw z0 z1 z2 z3 z4 HZ c0 c1 c2 c3 c4
    go_loopw [9, 22] (fun _ j wr => ∃ k : Nat, k ≤ i ∧ j = .int .i64 k ∧ (l.take k).any (sameName o) = false ∧ Below (w.heap.size + 1) w0 wr) (fun _ j _ => i - (intOf j).toNat)
    case atStart => exact ⟨0, Nat.zero_le _, rfl, rfl, Below.refl _ _⟩
    case round =>
      obtain ⟨k, hk, rfl, hu, hb⟩ := hrel
      have HU := Lib.hid hu
      have hsz := hb.size
      have hsz' : w.heap.size < wr.heap.size := by omega
      have hsz1 : w.heap.size + 1 ≤ wr.heap.size := by omega
      have z0 := (hb.cell (p := ⟨w.heap.size, 0, none⟩) (by simp)).trans HZ0.out
      have z1 := (hb.cell (p := ⟨w.heap.size, 1, none⟩) (by simp)).trans HZ1.out
      have z2 := (hb.cell (p := ⟨w.heap.size, 2, none⟩) (by simp)).trans HZ2.out
      have z3 := (hb.cell (p := ⟨w.heap.size, 3, none⟩) (by simp)).trans HZ3.out
      have HB := Lib.hid hb
      have hbw2 : Below w.heap.size w wr := HBW.out.trans (hb.mono (by omega))
      have HBW2 := Lib.hid hbw2
      clear hu hb hbw2
      by_cases hlt : k < i
      · obtain ⟨b', off', p, e', hB', hp, hpat⟩ := H.out.at_ HBW2.out (show k < l.length by omega)
        cases e'
        obtain ⟨c0, c1, c2, ⟨Ap, cp, c3, p1, p2⟩, ⟨Aq, cq, c4, q1, q2⟩⟩ := hpat
        have HPD := Lib.hid hp
        clear hp p1 p2 q1 q2 z1 z2 z3 hB'
        have hk0 : (0 : Int) ≤ (k : Int) := by omega
        have hk1 : (k : Int) < (i : Int) := by omega
        cases hsn : sameName o p with
        | true =>
          have HE := Lib.hid (oneErr_dup HD.out HN.out (k := k) (by rw [List.getElem?_take, if_pos hlt]; exact HPD.out) hsn)
          have hsb : (p.name.toList == o.name.toList) = true := by rw [← same_toList]; exact hsn
          clear hsn
          go_wp2
          go_ret
          exact ⟨ret_int HE.out.symm, HBW2.out.alloc (by omega) _⟩
        | false =>
          have HE := Lib.hid (any_take_succ HPD.out HU.out hsn)
          have hsb : (p.name.toList == o.name.toList) = false := by rw [← same_toList]; exact hsn
          clear hsn
          go_wp2
          go_roundw
          case rel => exact ⟨k + 1, by omega, by go_num, HE.out, HB.out.alloc hsz1 _⟩
          case measure => simp [intOf]; omega
      · have hki : k = i := by omega
        subst hki
        by_cases hr : o.mach < 0 ∨ 8 ≤ o.mach ∨ o.mins < 1 ∨ 10000 < o.mins
        · have HE := Lib.hid (oneErr_range HD.out HN.out HU.out (rangeBad_num hr))
          go_wp2
          all_goals
            go_ret
            exact ⟨ret_int HE.out.symm, HBW2.out⟩
        · have r1 : 0 ≤ o.mach := by omega
          have r2 : o.mach < 8 := by omega
          have r3 : 1 ≤ o.mins := by omega
          have r4 : o.mins ≤ 10000 := by omega
          have HI := Lib.hid ((HA.out.below HBW2.out).more (show w.heap.size ≤ wr.heap.size by omega))
          clear hr
          go_wp2_with fail
          ((with_reducible refine (areIndices_any Aa ca o.after l.length _ HI.out (by omega)).mono ?_); rintro e w2 ⟨rfl, rfl⟩)
          cases hix : idxOk o.after l.length with
          | false =>
            have HE := Lib.hid (oneErr_range HD.out HN.out HU.out (rangeBad_idx hix))
            clear hix
            go_wp2
            go_ret
            exact ⟨ret_int HE.out.symm, HBW2.out⟩
          | true =>
            have HR := Lib.hid (rangeBad_false r1 r2 r3 r4 hix)
            have HX : Hid (∀ x ∈ o.after, -9223372036854775808 ≤ x ∧ x ≤ 9223372036854775807) := fun x hx => by have := idxOk_mem hix hx; omega
            clear hix
            go_wp2_with fail
            ((with_reducible refine (repeats_any Aa ca o.after _ HI.out (by omega) HX.out).mono ?_); rintro e w2 ⟨rfl, hb2⟩)
            have HB2 := Lib.hid (HBW2.out.trans (hb2.mono (by omega)))
            clear hb2
            cases hdp : dup o.after with
            | true =>
              have HE := Lib.hid (oneErr_twice HD.out HN.out HU.out HR.out hdp)
              clear hdp
              go_wp2
              go_ret
              exact ⟨ret_int HE.out.symm, HB2.out⟩
            | false =>
              have HE := Lib.hid (oneErr_ok HD.out HN.out HU.out HR.out hdp)
              clear hdp
              go_wp2
              go_ret
              exact ⟨ret_int HE.out.symm, HB2.out⟩
end Go.Proofs.Ytlbkfphepneflaa
