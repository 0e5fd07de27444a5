/- The walks of slices.Clone and of convex.hull: it returns the hull of the list, and whether there is one. -/
import Derived.Test.YtopmolpnmpchoaaCvBorder
import Derived.Lib.SliceRun
namespace Go.Proofs.Ytopmolpnmpchoaa
open Go.RowKit

/-- A slice of spots that came in or was handed back. -/
structure PSl (w : World) (A : Option Addr) (c : Nat) (l : List Pt) : Prop where
  rd : PRd w w.heap.size A l
  nil : A = none → c = 0
  cap : l.length ≤ c
theorem PSl.keep {w w' : World} {A : Option Addr} {c : Nat} {l : List Pt} (h : PSl w A c l) (hb : Below w.heap.size w w') : PSl w' A c l := ⟨h.rd.keep hb hb.size, h.nil, h.cap⟩
theorem PSl.of_own {w : World} {base e : Nat} {l : List Pt} {A : Option Addr} {n c : Nat} (h : w.ownsRow base e 2 (.slice A n c) l.length (pCells l)) : PSl w A c l := by
  obtain ⟨A', c', e, h1, h2⟩ := own_slice h
  cases e
  exact ⟨PRd.of_own h, h2, h1⟩
theorem PSl.none (w : World) : PSl w none 0 [] := ⟨PRd.nil _ _ _, fun _ => rfl, Nat.le_refl _⟩

set_option maxRecDepth 100000 in
set_option maxHeartbeats 1000000 in
theorem clone_any (A : Option Addr) (cap : Nat) (l : List Pt) (w : World) (h : PRd w w.heap.size A l) (hnil : A = none → cap = 0) (hn : l.length ≤ 1000000) :
    Calls Try.prog 41 #[.slice A l.length cap] w fun e w' => (∃ A' c', e = .returned (.slice A' l.length c') ∧ w'.ownsRow w.heap.size 31 2 (.slice A' l.length c') l.length (pCells l)) ∧ Below w.heap.size w w' := by
  have H := hid h
  have HNIL := hid hnil
  obtain ⟨i0, hi0, hz0, hz1, hz2⟩ := info_parts infoPt
  cases hA : A with
  | none =>
    have hl : l = [] := List.eq_nil_of_length_eq_zero (h.none_len hA)
    have hc := hnil hA
    subst hl hc
    clear h hnil HNIL H hA
    have qT : ∀ (w : World) (a : Option Addr) (n c n' c' : Nat), (binOp .eql 22 (.slice a n c) (.slice none n' c')).run Try.prog w = .ok (.bool a.isNone) w := fun w a n c n' c' => Lib.run_eql_slice_nil w _ _ a n c n' c' Try.underlying22
    go_enter Try.func41, Try.ntmps41
    go_wp2
    go_ret
    exact ⟨⟨none, 0, rfl, World.ownsRow_nil _ _ _ _⟩, Below.refl _ _⟩
  | some ad =>
    subst hA
    clear h hnil
    have qT : ∀ (w : World) (a : Option Addr) (n c n' c' : Nat), (binOp .eql 22 (.slice a n c) (.slice none n' c')).run Try.prog w = .ok (.bool a.isNone) w := fun w a n c n' c' => Lib.run_eql_slice_nil w _ _ a n c n' c' Try.underlying22
    have HOW : Hid ((w.alloc (.cells #[] 31)).ownsRow w.heap.size 31 2 (.slice (some ⟨w.heap.size, 0, none⟩) 0 0) 0 []) := World.ownsRow_made w #[] 0 (Nat.le_refl _) (Nat.zero_le _) rfl
    go_enter Try.func41, Try.ntmps41
    go_wp2_with (at_builtin; refine wpList_append_rd (by rfl) (.tmp 5) (.tmp 6) 22 rfl w.heap.size 31 i0 _ 2 16 Try.underlying22 hi0 hz0 hz1 hz2 rfl (by decide) (.slice (some ⟨w.heap.size, 0, none⟩) 0 0) 0 [] rfl HOW.out (some ad) l.length cap (pCells l) rfl (pCells_len l) ?m2 ?m3 (pCells_one l) ?m5 ?m6 ?m7 ?_)
    case m2 => exact fun e => (by cases e)
    case m3 => exact (H.out.below (below1 w (.cells #[] 31))).news
    case m5 => unfold maxLen; omega
    case m6 => omega
    case m7 => simp
    intro v1 w1 hown1 hgrow1
    have HB1 : Hid (Below w.heap.size w w1) := (below1 w (.cells #[] 31)).grown hgrow1 (by simp) (fun g hg => by simp [Value.ownBlock] at hg; omega)
    have HO1 : Hid (w1.ownsRow w.heap.size 31 2 v1 l.length (pCells l)) := by
      show World.ownsRow _ _ _ _ _ _ _
      exact hown1
    obtain ⟨A1, c1, rfl, _, _⟩ := own_slice HO1.out
    clear hown1 hgrow1 qT
    go_wp2
    go_ret
    exact ⟨⟨A1, c1, rfl, HO1.out⟩, HB1.out⟩

def bor (l : List Pt) : List Pt := (chain l).tail.reverse
theorem hullP_bor (l : List Pt) : hullP l = bor l ++ bor l.reverse := rfl
theorem bor_len (l : List Pt) : (bor l).length ≤ l.length := by
  have := chain_len l
  unfold bor; simp; omega
theorem border_bor (A : Option Addr) (cap : Nat) (l : List Pt) (w : World) (h : PRd w w.heap.size A l) (hb : Bd l) (hn : l.length ≤ 1000000) (hl : 0 < l.length) :
    Calls Try.prog 45 #[.slice A l.length cap] w fun e w' => (∃ A' c', e = .returned (.slice A' (bor l).length c') ∧ w'.ownsRow w.heap.size 31 2 (.slice A' (bor l).length c') (bor l).length (pCells (bor l))) ∧ Below w.heap.size w w' := by
  have e : (bor l).length = (chain l).tail.length := by unfold bor; rw [List.length_reverse]
  rw [e]
  exact border_any A cap l w h hb hn hl
set_option maxRecDepth 100000 in
set_option maxHeartbeats 4000000 in
theorem hull_any (A : Option Addr) (cap : Nat) (l : List Pt) (w : World) (h : PSl w A cap l) (hb : Bd l) (hn : l.length ≤ 1000000) :
    Calls Try.prog 33 #[.slice A l.length cap] w fun e w' => (∃ A' c', e = .returned (.tuple #[.slice A' (hull1 l).length c', .bool (decide (0 < (hull1 l).length))]) ∧ PSl w' A' c' (hull1 l)) ∧ Below w.heap.size w w' := by
  have H := hid h
  have HBd := hid hb
  clear h hb
  obtain ⟨i0, hi0, hz0, hz1, hz2⟩ := info_parts infoPt
  go_enter Try.func33, Try.ntmps33
  go_wp2_with fail
  ((with_reducible refine (clone_any A cap l _ H.out.rd H.out.nil hn).mono ?_); rintro e w1 ⟨⟨A1, c1, rfl, ho1⟩, hb1⟩)
  have HO1 := hid ho1
  have HB1 := hid hb1
  clear ho1 hb1
  go_wp2_with fail
  ((with_reducible refine (sort_any w.heap.size l A1 c1 _ HO1.out hn).mono ?_); rintro e w2 ⟨rfl, ⟨l', hperm, hsort, ho2⟩, hb2⟩)
  have hl' : l'.length = l.length := hperm.length_eq
  have HS := hid (uq_asc _ l' rfl (HBd.out.same fun q => hperm.symm.mem_iff) hsort)
  have HM : Hid (∀ q, q ∈ uq l' ↔ q ∈ l) := fun q => (uq_mem _ l' rfl q).trans hperm.mem_iff
  have HQ := hid (hull1_prog HBd.out HS.out HM.out)
  have HCM : Hid (Calls Try.prog 44 #[.slice A1 l.length c1] w2 fun e w' => e = .returned (.slice A1 (uq l').length c1) ∧ w'.ownsRow w.heap.size 31 2 (.slice A1 (uq l').length c1) (uq l').length (pCells (uq l')) ∧ Below w.heap.size w2 w') := by
    have := compact_any w.heap.size l' A1 c1 w2 (by rw [hl']; exact ho2) (by omega)
    rw [hl'] at this
    exact this
  have hul := uq_len _ l' rfl
  rw [hl'] at hul
  have HB2 := hid (HB1.out.trans (hb2.mono (Nat.le_refl _)))
  clear hperm hsort ho2 hb2 hl'
  go_wp2_with fail
  ((with_reducible refine HCM.out.mono ?_); rintro e w3 ⟨rfl, ho3, hb3⟩)
  have HBS : Hid (Bd (uq l')) := HBd.out.same fun q => (HM.out q).symm
  clear HCM
  generalize uq l' = S at *
  have HO3 := hid ho3
  have HB3 := hid (HB2.out.trans hb3)
  clear ho3 hb3
  by_cases h3 : S.length < 3
  · have HE : Hid (hull1 l = []) := by show _ = _; rw [HQ.out, if_pos (.inl h3)]
    go_wp2
    go_ret2
    rw [HE.out]
    exact ⟨⟨none, 0, rfl, PSl.none _⟩, HB3.out⟩
  · have HP3 := hid (PRd.of_own HO3.out)
    have hlenr : S.reverse.length = S.length := List.length_reverse
    go_wp2_with fail
    ((with_reducible refine (border_bor A1 c1 S _ HP3.out HBS.out (by omega) (by omega)).mono ?_); rintro e w4 ⟨⟨A4, c4, rfl, ho4⟩, hb4⟩)
    have HO4 := hid (own_belowT HO3.out hb4)
    have HR4 := hid ho4
    have HB4 := hid (HB3.out.trans (hb4.mono HB3.out.size))
    have hs4 := hb4.size
    have HLT := hid (HO3.out.lt)
    clear ho4 hb4
    go_wp2_with fail
    ((with_reducible refine (reverse_any w.heap.size S A1 c1 _ HO4.out (by omega) (by omega)).mono ?_); rintro e w5 ⟨rfl, ho5, hb5, hg5⟩)
    have HO5 : Hid (w5.ownsRow w.heap.size 31 2 (.slice A1 S.reverse.length c1) S.reverse.length (pCells S.reverse)) := by rw [hlenr]; exact ho5
    have HR5 : Hid (w5.ownsRow w3.heap.size 31 2 (.slice A4 (bor S).length c4) (bor S).length (pCells (bor S))) := by
      refine HR4.out.kept hg5 ?_
      by_cases e : (Value.slice A4 (bor S).length c4).ownBlock = none
      · exact .inl e
      · right
        intro e2
        obtain ⟨kb, hkb⟩ : ∃ kb, (Value.slice A4 (bor S).length c4).ownBlock = some kb := by
          cases hx : (Value.slice A4 (bor S).length c4).ownBlock with
          | none => exact absurd hx e
          | some kb => exact ⟨kb, rfl⟩
        have h1 := (HR4.out.lt kb hkb).1
        have h2 := (HLT.out kb (e2.symm.trans hkb)).2
        omega
    have HB5 := hid (HB4.out.trans hb5)
    have hs5 := hb5.size
    have HP5 := hid (PRd.of_own HO5.out)
    have HBS2 : Hid (Bd S.reverse) := fun q hq => HBS.out q (List.mem_reverse.1 hq)
    have HC2 := hid (border_bor A1 c1 S.reverse w5 HP5.out HBS2.out (by omega) (by omega))
    rw [hlenr] at HC2
    clear ho5 hb5 hg5
    have hl1 := bor_len S
    have hl2 := bor_len S.reverse
    rw [hlenr] at hl2
    have HQ2 := HQ.out
    rw [hullP_bor] at HQ2
    have HQ3 := hid HQ2
    clear HQ HQ2
    go_wp2_with fail
    ((with_reducible refine HC2.out.mono ?_); rintro e w6 ⟨⟨A6, c6, rfl, ho6⟩, hb6⟩)
    clear HC2
    generalize bor S.reverse = R2 at *
    generalize bor S = R1 at *
    have HR6 := hid (own_belowT HR5.out hb6)
    have HT6 := hid (PSl.of_own ho6)
    have HB6 := hid (HB5.out.trans (hb6.mono HB5.out.size))
    have hs6 := hb6.size
    clear ho6 hb6
    go_wp2_with (at_builtin; refine wpList_append_rd (by rfl) (.tmp 18) (.tmp 20) 22 rfl w3.heap.size 31 i0 _ 2 16 Try.underlying22 hi0 hz0 hz1 hz2 rfl (by decide) (.slice A4 R1.length c4) R1.length (pCells R1) rfl HR6.out A6 R2.length c6 (pCells R2) rfl (pCells_len R2) ?m2 ?m3 (pCells_one R2) ?m5 ?m6 ?m7 ?_)
    case m2 => exact fun e => ⟨HT6.out.rd.none_len e, HT6.out.nil e⟩
    case m3 => exact HT6.out.rd.news
    case m5 => unfold maxLen; omega
    case m6 => omega
    case m7 => omega
    intro v7 w7 hown7 hgrow7
    have HB7 : Hid (Below w.heap.size w w7) := own_grow_below HR6.out HB6.out (by have := HB3.out.size; omega) (by have := HB3.out.size; omega) hgrow7
    have HO7 : Hid (w7.ownsRow w3.heap.size 31 2 v7 (R1 ++ R2).length (pCells (R1 ++ R2))) := by
      show World.ownsRow _ _ _ _ _ _ _
      rw [pCells_app, List.length_append]
      exact hown7
    obtain ⟨A7, c7, rfl, _, _⟩ := own_slice HO7.out
    clear hown7 hgrow7
    by_cases h7 : (R1 ++ R2).length < 3
    · have HE : Hid (hull1 l = []) := by show _ = _; rw [HQ3.out, if_pos (.inr h7)]
      clear HQ3
      generalize R1 ++ R2 = R at *
      go_wp2
      go_ret2
      rw [HE.out]
      exact ⟨⟨none, 0, rfl, PSl.none _⟩, HB7.out⟩
    · have HE : Hid (hull1 l = R1 ++ R2) := by show _ = _; rw [HQ3.out, if_neg (by omega)]
      have HD : Hid (decide (0 < (R1 ++ R2).length) = true) := decide_eq_true (by omega)
      clear HQ3
      generalize R1 ++ R2 = R at *
      go_wp2
      go_ret2
      rw [HE.out, HD.out]
      exact ⟨⟨A7, c7, rfl, PSl.of_own HO7.out⟩, HB7.out⟩
end Go.Proofs.Ytopmolpnmpchoaa
