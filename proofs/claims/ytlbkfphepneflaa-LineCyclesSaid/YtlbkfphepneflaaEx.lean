/- The examples of the chapter: the walk of exampleHolds. -/
import Derived.Test.YtlbkfphepneflaaExPlain
namespace Go.Proofs.Ytlbkfphepneflaa
open Go.RowKit

set_option maxHeartbeats 1000000 in
theorem op_any (nm : ByteArray) (m : Int) (A : Option Addr) (n c : Nat) (w : World) :
    Calls Try.prog 23 #[.string nm, .int .i64 m, .slice A n c] w fun e w' => e = .returned (.agg #[.string nm, .int .i64 0, .int .i64 m, .slice A n c, .slice none 0 0]) ∧ Below w.heap.size w w' := by
  go_enter Try.func23, Try.ntmps23
  go_wp2
  exact bodyPost_ret (v := .agg #[.string nm, .int .i64 0, .int .i64 m, .slice A n c, .slice none 0 0]) (by simp [results, Try.results23, go_sem]) rfl ⟨rfl, (Below.refl _ _).alloc (Nat.le_refl _) _⟩

theorem ORd.go {w w' : World} {A : Option Addr} {l : List Opn} (h : ORd w w.heap.size A l) (hb : Below w.heap.size w w') : ORd w' w'.heap.size A l := (h.below hb).more hb.size
theorem SRd.go {w w' : World} {A : Option Addr} {l : List (List Int)} (h : SRd w w.heap.size A l) (hb : Below w.heap.size w w') : SRd w' w'.heap.size A l := (h.below hb).more hb.size
theorem IRd.go {w w' : World} {A : Option Addr} {l : List Int} (h : IRd w w.heap.size A l) (hb : Below w.heap.size w w') : IRd w' w'.heap.size A l := (h.below hb).more hb.size
theorem below_new (w : World) (o : Obj) : Below w.heap.size w (w.alloc o) := (Below.refl _ _).alloc (Nat.le_refl _) _
theorem ird_new (w : World) (q : List Int) : IRd (w.alloc (.cells (intCells q) 3)) (w.alloc (.cells (intCells q) 3)).heap.size (some ⟨w.heap.size, 0, none⟩) q := (Row.new w q).ird (Row.new w q).lt
/-- Three operations in a new block. -/
theorem ord3 (w : World) (n1 n2 n3 : UInt8) (m1 m2 m3 : Int) (A1 A2 A3 : Option Addr) (q1 q2 q3 : List Int) (k1 k2 k3 : Nat) (l1 : q1.length = k1) (l2 : q2.length = k2) (l3 : q3.length = k3)
    (h1 : IRd w w.heap.size A1 q1) (h2 : IRd w w.heap.size A2 q2) (h3 : IRd w w.heap.size A3 q3) :
    ORd (w.alloc (.cells #[.string ⟨#[n1]⟩, .int .i64 0, .int .i64 m1, .slice A1 k1 k1, .slice none 0 0, .string ⟨#[n2]⟩, .int .i64 0, .int .i64 m2, .slice A2 k2 k2, .slice none 0 0, .string ⟨#[n3]⟩, .int .i64 0, .int .i64 m3, .slice A3 k3 k3, .slice none 0 0] 38))
      (w.alloc (.cells #[.string ⟨#[n1]⟩, .int .i64 0, .int .i64 m1, .slice A1 k1 k1, .slice none 0 0, .string ⟨#[n2]⟩, .int .i64 0, .int .i64 m2, .slice A2 k2 k2, .slice none 0 0, .string ⟨#[n3]⟩, .int .i64 0, .int .i64 m3, .slice A3 k3 k3, .slice none 0 0] 38)).heap.size
      (some ⟨w.heap.size, 0, none⟩) [mkOp n1 m1 q1, mkOp n2 m2 q2, mkOp n3 m3 q3] := by
  subst l1; subst l2; subst l3
  intro _
  refine ⟨w.heap.size, 0, rfl, by simp, fun i o ho => ?_⟩
  have hb := below_new w (.cells #[.string ⟨#[n1]⟩, .int .i64 0, .int .i64 m1, .slice A1 q1.length q1.length, .slice none 0 0, .string ⟨#[n2]⟩, .int .i64 0, .int .i64 m2, .slice A2 q2.length q2.length, .slice none 0 0, .string ⟨#[n3]⟩, .int .i64 0, .int .i64 m3, .slice A3 q3.length q3.length, .slice none 0 0] 38)
  match i, ho with
  | 0, ho =>
    cases ho
    exact ⟨by simp [go_sem, mkOp], by simp [go_sem, mkOp], by simp [go_sem, mkOp], ⟨A1, q1.length, by simp [go_sem, mkOp], Nat.le_refl _, h1.go hb⟩, ⟨none, 0, by simp [go_sem, mkOp], Nat.le_refl _, ird_nil _ _ _⟩⟩
  | 1, ho =>
    cases ho
    exact ⟨by simp [go_sem, mkOp], by simp [go_sem, mkOp], by simp [go_sem, mkOp], ⟨A2, q2.length, by simp [go_sem, mkOp], Nat.le_refl _, h2.go hb⟩, ⟨none, 0, by simp [go_sem, mkOp], Nat.le_refl _, ird_nil _ _ _⟩⟩
  | 2, ho =>
    cases ho
    exact ⟨by simp [go_sem, mkOp], by simp [go_sem, mkOp], by simp [go_sem, mkOp], ⟨A3, q3.length, by simp [go_sem, mkOp], Nat.le_refl _, h3.go hb⟩, ⟨none, 0, by simp [go_sem, mkOp], Nat.le_refl _, ird_nil _ _ _⟩⟩
  | i + 3, ho => simp at ho
theorem osmall3 (n1 n2 n3 : UInt8) (m1 m2 m3 : Int) (q1 q2 q3 : List Int) (l1 : q1.length ≤ 1) (l2 : q2.length ≤ 1) (l3 : q3.length ≤ 1) : OSmall [mkOp n1 m1 q1, mkOp n2 m2 q2, mkOp n3 m3 q3] := by
  intro o ho
  simp at ho
  rcases ho with rfl | rfl | rfl
  · exact ⟨by show 1 ≤ 50; omega, by show q1.length ≤ 20; omega, by show 0 ≤ 20; omega⟩
  · exact ⟨by show 1 ≤ 50; omega, by show q2.length ≤ 20; omega, by show 0 ≤ 20; omega⟩
  · exact ⟨by show 1 ≤ 50; omega, by show q3.length ≤ 20; omega, by show 0 ≤ 20; omega⟩
/-- Two lists in new blocks. -/
def two (w : World) (q1 q2 : List Int) (k1 k2 : Nat) : World :=
  ((w.alloc (.cells (intCells q1) 3)).alloc (.cells (intCells q2) 3)).alloc (.cells #[.slice (some ⟨w.heap.size, 0, none⟩) k1 k1, .slice (some ⟨w.heap.size + 1, 0, none⟩) k2 k2] 35)
theorem srd2 (w : World) (q1 q2 : List Int) (k1 k2 : Nat) (l1 : q1.length = k1) (l2 : q2.length = k2) :
    SRd (two w q1 q2 k1 k2) (two w q1 q2 k1 k2).heap.size (some ⟨w.heap.size + 1 + 1, 0, none⟩) [q1, q2] ∧ Below w.heap.size w (two w q1 q2 k1 k2) := by
  subst l1; subst l2
  have b1 := below_new w (.cells (intCells q1) 3)
  have i1 := ird_new w q1
  have b2 := below_new (w.alloc (.cells (intCells q1) 3)) (.cells (intCells q2) 3)
  have i2 := ird_new (w.alloc (.cells (intCells q1) 3)) q2
  have b3 := below_new ((w.alloc (.cells (intCells q1) 3)).alloc (.cells (intCells q2) 3)) (.cells #[.slice (some ⟨w.heap.size, 0, none⟩) q1.length q1.length, .slice (some ⟨w.heap.size + 1, 0, none⟩) q2.length q2.length] 35)
  have s1 : (w.alloc (.cells (intCells q1) 3)).heap.size = w.heap.size + 1 := by simp
  have s2 : ((w.alloc (.cells (intCells q1) 3)).alloc (.cells (intCells q2) 3)).heap.size = w.heap.size + 1 + 1 := by simp
  have j1 := (i1.go b2).go b3
  have j2 := i2.go b3
  rw [s1] at j2
  refine ⟨?_, b1.trans ((b2.trans (b3.mono b2.size)).mono b1.size)⟩
  intro _
  refine ⟨w.heap.size + 1 + 1, 0, rfl, by unfold two; simp, fun i q hq => ?_⟩
  match i, hq with
  | 0, hq => cases hq; exact ⟨_, q1.length, by unfold two; simp [go_sem], Nat.le_refl _, j1⟩
  | 1, hq => cases hq; exact ⟨_, q2.length, by unfold two; simp [go_sem], Nat.le_refl _, j2⟩
  | i + 2, hq => simp at hq
def three (w : World) (q1 q2 q3 : List Int) (k1 k2 k3 : Nat) : World :=
  (((w.alloc (.cells (intCells q1) 3)).alloc (.cells (intCells q2) 3)).alloc (.cells (intCells q3) 3)).alloc (.cells #[.slice (some ⟨w.heap.size, 0, none⟩) k1 k1, .slice (some ⟨w.heap.size + 1, 0, none⟩) k2 k2, .slice (some ⟨w.heap.size + 1 + 1, 0, none⟩) k3 k3] 35)
theorem srd3 (w : World) (q1 q2 q3 : List Int) (k1 k2 k3 : Nat) (l1 : q1.length = k1) (l2 : q2.length = k2) (l3 : q3.length = k3) :
    SRd (three w q1 q2 q3 k1 k2 k3) (three w q1 q2 q3 k1 k2 k3).heap.size (some ⟨w.heap.size + 1 + 1 + 1, 0, none⟩) [q1, q2, q3] ∧ Below w.heap.size w (three w q1 q2 q3 k1 k2 k3) := by
  subst l1; subst l2; subst l3
  have b1 := below_new w (.cells (intCells q1) 3)
  have i1 := ird_new w q1
  have b2 := below_new (w.alloc (.cells (intCells q1) 3)) (.cells (intCells q2) 3)
  have i2 := ird_new (w.alloc (.cells (intCells q1) 3)) q2
  have b3 := below_new ((w.alloc (.cells (intCells q1) 3)).alloc (.cells (intCells q2) 3)) (.cells (intCells q3) 3)
  have i3 := ird_new ((w.alloc (.cells (intCells q1) 3)).alloc (.cells (intCells q2) 3)) q3
  have b4 := below_new (((w.alloc (.cells (intCells q1) 3)).alloc (.cells (intCells q2) 3)).alloc (.cells (intCells q3) 3)) (.cells #[.slice (some ⟨w.heap.size, 0, none⟩) q1.length q1.length, .slice (some ⟨w.heap.size + 1, 0, none⟩) q2.length q2.length, .slice (some ⟨w.heap.size + 1 + 1, 0, none⟩) q3.length q3.length] 35)
  have s1 : (w.alloc (.cells (intCells q1) 3)).heap.size = w.heap.size + 1 := by simp
  have s2 : ((w.alloc (.cells (intCells q1) 3)).alloc (.cells (intCells q2) 3)).heap.size = w.heap.size + 1 + 1 := by simp
  have j1 := ((i1.go b2).go b3).go b4
  have j2 := (i2.go b3).go b4
  have j3 := i3.go b4
  rw [s1] at j2
  rw [s2] at j3
  refine ⟨?_, b1.trans ((b2.trans ((b3.trans (b4.mono b3.size)).mono b2.size)).mono b1.size)⟩
  intro _
  refine ⟨w.heap.size + 1 + 1 + 1, 0, rfl, by unfold three; simp, fun i q hq => ?_⟩
  match i, hq with
  | 0, hq => cases hq; exact ⟨_, q1.length, by unfold three; simp [go_sem], Nat.le_refl _, j1⟩
  | 1, hq => cases hq; exact ⟨_, q2.length, by unfold three; simp [go_sem], Nat.le_refl _, j2⟩
  | 2, hq => cases hq; exact ⟨_, q3.length, by unfold three; simp [go_sem], Nat.le_refl _, j3⟩
  | i + 3, hq => simp at hq
theorem balSt_len (l : List Opn) (c : Int) : (balSt l c).length = nSt l c := by unfold balSt; simp
theorem bal_ex {l : List Opn} {c : Int} {ss : List (List Int)} {n : Nat} {e : Ending} {w' : World} (h : BalPost l c e w') (h0 : bndErr l c = 0) (hs : balSt l c = ss) (hn : ss.length = n) :
    ∃ A cap, e = .returned (.tuple #[.slice A n cap, .int .i64 0]) ∧ SRd w' w'.heap.size A ss := by
  obtain ⟨A, n', cap, rfl, _, h2⟩ := h
  obtain ⟨h3, h4, h5⟩ := h2 h0
  rw [h0]
  rw [hs] at h5
  refine ⟨A, cap, ?_, h5⟩
  rw [h3, ← balSt_len, hs, hn]

set_option maxRecDepth 100000 in
set_option maxHeartbeats 4000000 in
theorem ex_any (w : World) : Calls Try.prog 12 #[] w fun e w' => e = .returned (.bool true) ∧ Below w.heap.size w w' := by
  go_enter Try.func12, Try.ntmps12
  go_wp2_with fail
  ((with_reducible refine (op_any _ _ _ _ _ _).mono ?_); rintro e w1 ⟨rfl, hb1⟩)
  have HB1 := Lib.hid hb1
  clear hb1
  go_wp2_with fail
  have HI1 := Lib.hid (ird_new w1 [0])
  have HB2 := Lib.hid (HB1.out.alloc HB1.out.size (.cells (intCells [0]) 3))
  change Calls _ _ _ (w1.alloc (.cells (intCells [0]) 3)) _
  revert HI1 HB2
  generalize w1.alloc (.cells (intCells [0]) 3) = w2
  intro HI1 HB2
  ((with_reducible refine (op_any _ _ _ _ _ _).mono ?_); rintro e w3 ⟨rfl, hb3⟩)
  have HB3 := Lib.hid (HB2.out.trans (hb3.mono HB2.out.size))
  have HI3 := Lib.hid (HI1.out.go hb3)
  clear hb3
  go_wp2_with fail
  have HI4 := Lib.hid (HI3.out.go (below_new w3 (.cells (intCells [1]) 3)))
  have HJ4 := Lib.hid (ird_new w3 [1])
  have HB4 := Lib.hid (HB3.out.alloc HB3.out.size (.cells (intCells [1]) 3))
  change Calls _ _ _ (w3.alloc (.cells (intCells [1]) 3)) _
  revert HI4 HJ4 HB4
  generalize w3.alloc (.cells (intCells [1]) 3) = w4
  intro HI4 HJ4 HB4
  ((with_reducible refine (op_any _ _ _ _ _ _).mono ?_); rintro e w5 ⟨rfl, hb5⟩)
  have HB5 := Lib.hid (HB4.out.trans (hb5.mono HB4.out.size))
  have HI5 := Lib.hid (HI4.out.go hb5)
  have HJ5 := Lib.hid (HJ4.out.go hb5)
  clear hb5
  go_wp2_with fail
  have HL6 := Lib.hid (ord3 w5 97 98 99 5 3 4 none (some ⟨w1.heap.size, 0, none⟩) (some ⟨w3.heap.size, 0, none⟩) [] [0] [1] 0 1 1 rfl rfl rfl (ird_nil _ _ _) HI5.out HJ5.out)
  have HB6 := Lib.hid (HB5.out.alloc HB5.out.size (.cells #[.string ⟨#[97]⟩, .int .i64 0, .int .i64 5, .slice none 0 0, .slice none 0 0, .string ⟨#[98]⟩, .int .i64 0, .int .i64 3, .slice (some ⟨w1.heap.size, 0, none⟩) 1 1, .slice none 0 0, .string ⟨#[99]⟩, .int .i64 0, .int .i64 4, .slice (some ⟨w3.heap.size, 0, none⟩) 1 1, .slice none 0 0] 38))
  revert HL6 HB6
  generalize w5.alloc (.cells #[.string ⟨#[97]⟩, .int .i64 0, .int .i64 5, .slice none 0 0, .slice none 0 0, .string ⟨#[98]⟩, .int .i64 0, .int .i64 3, .slice (some ⟨w1.heap.size, 0, none⟩) 1 1, .slice none 0 0, .string ⟨#[99]⟩, .int .i64 0, .int .i64 4, .slice (some ⟨w3.heap.size, 0, none⟩) 1 1, .slice none 0 0] 38) = w6
  intro HL6 HB6
  have HOS : Hid (OSmall exL) := osmall3 97 98 99 5 3 4 [] [0] [1] (by decide) (by decide) (by decide)
  have hk := balance_any (some ⟨w5.heap.size, 0, none⟩) 3 exL 8 w6 HL6.out (by decide) (by decide) HOS.out
  rw [show exL.length = 3 from rfl] at hk
  ((with_reducible refine hk.mono ?_); rintro e w7 ⟨hp, hb⟩)
  clear hk
  obtain ⟨AX, cX, rfl, hX⟩ := bal_ex hp ex1 ex7 (n := 2) rfl
  have HX7 := Lib.hid hX
  have HL7 := Lib.hid (HL6.out.go hb)
  have HB7 := Lib.hid (HB6.out.trans (hb.mono HB6.out.size))
  clear hp hb hX
  go_wp2_with fail
  have hk := balance_any (some ⟨w5.heap.size, 0, none⟩) 3 exL 7 w7 HL7.out (by decide) (by decide) HOS.out
  rw [show exL.length = 3 from rfl] at hk
  ((with_reducible refine hk.mono ?_); rintro e w8 ⟨hp, hb⟩)
  clear hk
  obtain ⟨AY, cY, rfl, hY⟩ := bal_ex hp ex2 ex8 (n := 2) rfl
  have HY8 := Lib.hid hY
  have HX8 := Lib.hid (HX7.out.go hb)
  have HL8 := Lib.hid (HL7.out.go hb)
  have HB8 := Lib.hid (HB7.out.trans (hb.mono HB7.out.size))
  clear hp hb hY
  go_wp2_with fail
  have hk := balance_any (some ⟨w5.heap.size, 0, none⟩) 3 exL 4 w8 HL8.out (by decide) (by decide) HOS.out
  rw [show exL.length = 3 from rfl] at hk
  ((with_reducible refine hk.mono ?_); rintro e w9 ⟨⟨A9, n9, c9, rfl, h91, h92⟩, hb⟩)
  clear hk h91 h92
  rw [ex3]
  have HY9 := Lib.hid (HY8.out.go hb)
  have HX9 := Lib.hid (HX8.out.go hb)
  have HL9 := Lib.hid (HL8.out.go hb)
  have HB9 := Lib.hid (HB8.out.trans (hb.mono HB8.out.size))
  clear hb
  go_wp2_with fail
  ((with_reducible refine (op_any _ _ _ _ _ _).mono ?_); rintro e w10 ⟨rfl, hb⟩)
  have HK10 := Lib.hid hb
  clear hb
  go_wp2_with fail
  ((with_reducible refine (op_any _ _ _ _ _ _).mono ?_); rintro e w11 ⟨rfl, hb⟩)
  have HK11 := Lib.hid (HK10.out.trans (hb.mono HK10.out.size))
  clear hb
  go_wp2_with fail
  ((with_reducible refine (op_any _ _ _ _ _ _).mono ?_); rintro e w12 ⟨rfl, hb⟩)
  have HK12 := Lib.hid (HK11.out.trans (hb.mono HK11.out.size))
  clear hb
  go_wp2_with fail
  have HM := Lib.hid (ord3 w12 97 98 99 4 4 4 none none none [] [] [] 0 0 0 rfl rfl rfl (ird_nil _ _ _) (ird_nil _ _ _) (ird_nil _ _ _))
  have HK := Lib.hid (HK12.out.alloc HK12.out.size (.cells #[.string ⟨#[97]⟩, .int .i64 0, .int .i64 4, .slice none 0 0, .slice none 0 0, .string ⟨#[98]⟩, .int .i64 0, .int .i64 4, .slice none 0 0, .slice none 0 0, .string ⟨#[99]⟩, .int .i64 0, .int .i64 4, .slice none 0 0, .slice none 0 0] 38))
  revert HM HK
  generalize w12.alloc (.cells #[.string ⟨#[97]⟩, .int .i64 0, .int .i64 4, .slice none 0 0, .slice none 0 0, .string ⟨#[98]⟩, .int .i64 0, .int .i64 4, .slice none 0 0, .slice none 0 0, .string ⟨#[99]⟩, .int .i64 0, .int .i64 4, .slice none 0 0, .slice none 0 0] 38) = w13'
  intro HM HK
  have HOM : Hid (OSmall exM) := osmall3 97 98 99 4 4 4 [] [] [] (by decide) (by decide) (by decide)
  have hk := bound_any (some ⟨w12.heap.size, 0, none⟩) 3 exM 6 w13' HM.out (by decide) (by decide) HOM.out
  rw [show exM.length = 3 from rfl] at hk
  ((with_reducible refine hk.mono ?_); rintro e w13 ⟨hp, hb⟩)
  clear hk
  unfold BndPost at hp
  rw [bndV_ok ex4, ex5, ex4] at hp
  subst hp
  have HK13 := Lib.hid (HK.out.trans (hb.mono HK.out.size))
  have HY13 := Lib.hid (HY9.out.go HK13.out)
  have HX13 := Lib.hid (HX9.out.go HK13.out)
  have HL13 := Lib.hid (HL9.out.go HK13.out)
  have HB13 := Lib.hid (HB9.out.trans (HK13.out.mono HB9.out.size))
  clear hb
  go_wp2_with fail
  have HI14 := Lib.hid (ird_new w13 [2])
  have HK14 := Lib.hid (below_new w13 (.cells (intCells [2]) 3))
  change Calls _ _ _ (w13.alloc (.cells (intCells [2]) 3)) _
  revert HI14 HK14
  generalize w13.alloc (.cells (intCells [2]) 3) = w14
  intro HI14 HK14
  ((with_reducible refine (op_any _ _ _ _ _ _).mono ?_); rintro e w15 ⟨rfl, hb⟩)
  have HI15 := Lib.hid (HI14.out.go hb)
  have HK15 := Lib.hid (HK14.out.trans (hb.mono HK14.out.size))
  clear hb
  go_wp2_with fail
  ((with_reducible refine (op_any _ _ _ _ _ _).mono ?_); rintro e w16 ⟨rfl, hb⟩)
  have HI16 := Lib.hid (HI15.out.go hb)
  have HK16 := Lib.hid (HK15.out.trans (hb.mono HK15.out.size))
  clear hb
  go_wp2_with fail
  ((with_reducible refine (op_any _ _ _ _ _ _).mono ?_); rintro e w17 ⟨rfl, hb⟩)
  have HI17 := Lib.hid (HI16.out.go hb)
  have HK17 := Lib.hid (HK16.out.trans (hb.mono HK16.out.size))
  clear hb
  go_wp2_with fail
  have HN := Lib.hid (ord3 w17 97 98 99 3 3 2 (some ⟨w13.heap.size, 0, none⟩) none none [2] [] [] 1 0 0 rfl rfl rfl HI17.out (ird_nil _ _ _) (ird_nil _ _ _))
  have HK18 := Lib.hid (HK17.out.alloc HK17.out.size (.cells #[.string ⟨#[97]⟩, .int .i64 0, .int .i64 3, .slice (some ⟨w13.heap.size, 0, none⟩) 1 1, .slice none 0 0, .string ⟨#[98]⟩, .int .i64 0, .int .i64 3, .slice none 0 0, .slice none 0 0, .string ⟨#[99]⟩, .int .i64 0, .int .i64 2, .slice none 0 0, .slice none 0 0] 38))
  revert HN HK18
  generalize w17.alloc (.cells #[.string ⟨#[97]⟩, .int .i64 0, .int .i64 3, .slice (some ⟨w13.heap.size, 0, none⟩) 1 1, .slice none 0 0, .string ⟨#[98]⟩, .int .i64 0, .int .i64 3, .slice none 0 0, .slice none 0 0, .string ⟨#[99]⟩, .int .i64 0, .int .i64 2, .slice none 0 0, .slice none 0 0] 38) = w18
  intro HN HK18
  have HON : Hid (OSmall exN) := osmall3 97 98 99 3 3 2 [2] [] [] (by decide) (by decide) (by decide)
  have hk := balance_any (some ⟨w17.heap.size, 0, none⟩) 3 exN 4 w18 HN.out (by decide) (by decide) HON.out
  rw [show exN.length = 3 from rfl] at hk
  ((with_reducible refine hk.mono ?_); rintro e w19 ⟨hp, hb⟩)
  clear hk
  obtain ⟨AZ, cZ, rfl, hZ⟩ := bal_ex hp ex6 ex9 (n := 3) rfl
  have HK19 := Lib.hid (HK18.out.trans (hb.mono HK18.out.size))
  have HZ19 := Lib.hid hZ
  have HY19 := Lib.hid (HY13.out.go HK19.out)
  have HX19 := Lib.hid (HX13.out.go HK19.out)
  have HL19 := Lib.hid (HL13.out.go HK19.out)
  have HB19 := Lib.hid (HB13.out.trans (HK19.out.mono HB13.out.size))
  clear hp hb hZ
  go_wp2_with fail
  have hS := srd2 w19 [0, 1] [2] 2 1 rfl rfl
  have HC20 := Lib.hid hS.1
  have HK20 := Lib.hid hS.2
  clear hS
  change Calls _ _ _ (two w19 [0, 1] [2] 2 1) _
  revert HC20 HK20
  generalize two w19 [0, 1] [2] 2 1 = w20
  intro HC20 HK20
  have hk := same_any AX (some ⟨w19.heap.size + 1 + 1, 0, none⟩) cX 2 [[0, 1], [2]] [[0, 1], [2]] w20 (HX19.out.go HK20.out) HC20.out (by unfold SSmall; decide) (by unfold SSmall; decide)
  rw [show sameSS [[0, 1], [2]] [[0, 1], [2]] = true from by decide] at hk
  ((with_reducible refine (show Calls Try.prog 17 #[.slice AX 2 cX, .slice (some ⟨w19.heap.size + 1 + 1, 0, none⟩) 2 2] w20 _ from hk).mono ?_); rintro e w21 ⟨rfl, hb⟩)
  clear hk
  have HK21 := Lib.hid (HK20.out.trans (hb.mono HK20.out.size))
  clear hb HC20 HK20
  go_wp2_with fail
  have hS := srd2 w21 [0] [1, 2] 1 2 rfl rfl
  have HC22 := Lib.hid hS.1
  have HK22 := Lib.hid (HK21.out.trans (hS.2.mono HK21.out.size))
  clear hS
  change Calls _ _ _ (two w21 [0] [1, 2] 1 2) _
  revert HC22 HK22
  generalize two w21 [0] [1, 2] 1 2 = w22
  intro HC22 HK22
  have hk := same_any AY (some ⟨w21.heap.size + 1 + 1, 0, none⟩) cY 2 [[0], [1, 2]] [[0], [1, 2]] w22 (HY19.out.go HK22.out) HC22.out (by unfold SSmall; decide) (by unfold SSmall; decide)
  rw [show sameSS [[0], [1, 2]] [[0], [1, 2]] = true from by decide] at hk
  ((with_reducible refine (show Calls Try.prog 17 #[.slice AY 2 cY, .slice (some ⟨w21.heap.size + 1 + 1, 0, none⟩) 2 2] w22 _ from hk).mono ?_); rintro e w23 ⟨rfl, hb⟩)
  clear hk
  have HK23 := Lib.hid (HK22.out.trans (hb.mono HK22.out.size))
  clear hb HC22 HK22
  go_wp2_with fail
  have hS := srd3 w23 [2] [0] [1] 1 1 1 rfl rfl rfl
  have HC24 := Lib.hid hS.1
  have HK24 := Lib.hid (HK23.out.trans (hS.2.mono HK23.out.size))
  clear hS
  change Calls _ _ _ (three w23 [2] [0] [1] 1 1 1) _
  revert HC24 HK24
  generalize three w23 [2] [0] [1] 1 1 1 = w24
  intro HC24 HK24
  have hk := same_any AZ (some ⟨w23.heap.size + 1 + 1 + 1, 0, none⟩) cZ 3 [[2], [0], [1]] [[2], [0], [1]] w24 (HZ19.out.go HK24.out) HC24.out (by unfold SSmall; decide) (by unfold SSmall; decide)
  rw [show sameSS [[2], [0], [1]] [[2], [0], [1]] = true from by decide] at hk
  ((with_reducible refine (show Calls Try.prog 17 #[.slice AZ 3 cZ, .slice (some ⟨w23.heap.size + 1 + 1 + 1, 0, none⟩) 3 3] w24 _ from hk).mono ?_); rintro e w25 ⟨rfl, hb⟩)
  clear hk
  have HK25 := Lib.hid (HK24.out.trans (hb.mono HK24.out.size))
  clear hb HC24 HK24
  go_wp2_with fail
  have hS := srd2 w25 [1, 2] [0] 2 1 rfl rfl
  have HC26 := Lib.hid hS.1
  have HK26 := Lib.hid (HK25.out.trans (hS.2.mono HK25.out.size))
  clear hS
  change Calls _ _ _ (two w25 [1, 2] [0] 2 1) _
  revert HC26 HK26
  generalize two w25 [1, 2] [0] 2 1 = w26
  intro HC26 HK26
  have hk := check_any (some ⟨w5.heap.size, 0, none⟩) 3 exL 7 (some ⟨w25.heap.size + 1 + 1, 0, none⟩) 2 [[1, 2], [0]] w26 (HL19.out.go HK26.out) (by decide) (by decide) HOS.out HC26.out (by unfold SSmall; decide)
  rw [ex10, show exL.length = 3 from rfl] at hk
  ((with_reducible refine (show Calls Try.prog 19 #[.slice (some ⟨w5.heap.size, 0, none⟩) 3 3, .int .i64 7, .slice (some ⟨w25.heap.size + 1 + 1, 0, none⟩) 2 2] w26 _ from hk).mono ?_); rintro e w27 ⟨rfl, hb⟩)
  clear hk
  have HK27 := Lib.hid (HK26.out.trans (hb.mono HK26.out.size))
  clear hb HC26 HK26
  go_wp2_with fail
  have hk := check_any (some ⟨w5.heap.size, 0, none⟩) 3 exL 7 AY cY [[0], [1, 2]] w27 (HL19.out.go HK27.out) (by decide) (by decide) HOS.out (HY19.out.go HK27.out) (by unfold SSmall; decide)
  rw [ex11, show exL.length = 3 from rfl] at hk
  ((with_reducible refine (show Calls Try.prog 19 #[.slice (some ⟨w5.heap.size, 0, none⟩) 3 3, .int .i64 7, .slice AY 2 cY] w27 _ from hk).mono ?_); rintro e w28 ⟨rfl, hb⟩)
  clear hk
  have HK28 := Lib.hid (HK27.out.trans (hb.mono HK27.out.size))
  clear hb
  go_wp2_with fail
  have hS := srd2 w28 [0, 1] [1] 2 1 rfl rfl
  have HC29 := Lib.hid hS.1
  have HK29 := Lib.hid (HK28.out.trans (hS.2.mono HK28.out.size))
  clear hS
  change Calls _ _ _ (two w28 [0, 1] [1] 2 1) _
  revert HC29 HK29
  generalize two w28 [0, 1] [1] 2 1 = w29
  intro HC29 HK29
  have hk := check_any (some ⟨w5.heap.size, 0, none⟩) 3 exL 7 (some ⟨w28.heap.size + 1 + 1, 0, none⟩) 2 [[0, 1], [1]] w29 (HL19.out.go HK29.out) (by decide) (by decide) HOS.out HC29.out (by unfold SSmall; decide)
  rw [ex12, show exL.length = 3 from rfl] at hk
  ((with_reducible refine (show Calls Try.prog 19 #[.slice (some ⟨w5.heap.size, 0, none⟩) 3 3, .int .i64 7, .slice (some ⟨w28.heap.size + 1 + 1, 0, none⟩) 2 2] w29 _ from hk).mono ?_); rintro e w30 ⟨rfl, hb⟩)
  clear hk
  have HK30 := Lib.hid (HK29.out.trans (hb.mono HK29.out.size))
  clear hb HC29 HK29
  go_wp2
  go_ret
  exact ⟨rfl, HB19.out.trans (HK30.out.mono HB19.out.size)⟩
end Go.Proofs.Ytlbkfphepneflaa
