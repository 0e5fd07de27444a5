/- The reference's search: the plain function and the walk. -/
import Derived.Test.YtlbkfphepneflaaFits
namespace Go.Proofs.Ytlbkfphepneflaa
open Go.RowKit

/-- The first station below m from s on that goes on, and how. -/
def srch (l : List Opn) (c : Int) (m : Nat) : Nat → List Int → Option (List Int)
  | 0, at_ => some at_
  | f + 1, at_ => (List.range m).findSome? fun (s : Nat) => if fitB l c at_ at_.length s = true then srch l c m f (at_ ++ [(s : Int)]) else none
def SrchPost (r : Option (List Int)) (e : Ending) (w' : World) : Prop :=
  (r = none → e = .returned (.tuple #[.slice none 0 0, .bool false])) ∧ ∀ q, r = some q → ∃ A c, e = .returned (.tuple #[.slice A q.length c, .bool true]) ∧ IRd w' w'.heap.size A q
theorem IRd.news {w : World} {B : Nat} {A : Option Addr} {q : List Int} (h : IRd w B A q) : ∀ ad, A = some ad → ∀ j u, (cellsL q)[j]? = some u → w.cell? (ad.add j) = some u := by
  intro ad hA j u hu
  have hj : j < q.length := by
    have := (List.getElem?_eq_some_iff.1 hu).1; unfold cellsL at this; simpa using this
  obtain ⟨b, off, e, _, hc⟩ := h (by intro e; subst e; simp at hj)
  rw [hA] at e
  cases e
  unfold cellsL at hu
  rw [List.getElem?_map, List.getElem?_eq_getElem hj] at hu
  cases hu
  rw [add_plain]
  exact hc j _ (List.getElem?_eq_getElem hj)
theorem IRd.none_len {w : World} {B : Nat} {A : Option Addr} {q : List Int} (h : IRd w B A q) (e : A = none) : q.length = 0 := by
  by_cases hl : q = []
  · simp [hl]
  · obtain ⟨b, off, e', _⟩ := h hl
    rw [e] at e'
    cases e'
theorem IRd.of_own {w : World} {base e : Nat} {q : List Int} {A : Option Addr} {n c : Nat} (h : w.ownsRow base e 1 (.slice A n c) q.length (cellsL q)) : IRd w w.heap.size A q := by
  intro hl
  obtain ⟨g, cap, hv, _, hlt⟩ := h.form (List.length_pos_iff.2 hl)
  have hA : A = some ⟨g, 0, none⟩ := by injection hv
  subst hA
  refine ⟨g, 0, rfl, hlt, fun j y hy => ?_⟩
  have := h.cells (g := g) rfl j (.int .i64 y) (by unfold cellsL; rw [List.getElem?_map, hy]; rfl)
  rw [add_plain] at this
  exact this
theorem cellsL_one (q : List Int) : ∀ u ∈ cellsL q, u.oneCell' = true := by
  intro u hu
  unfold cellsL at hu
  obtain ⟨x, _, rfl⟩ := List.mem_map.1 hu
  rfl
theorem findSome_hit {α : Type} {p : Nat → Option α} {m k : Nat} {x : α} (hk : k < m) (h : p k = some x) (hb : ∀ j, j < k → p j = none) : (List.range m).findSome? p = some x := by
  rw [List.findSome?_eq_some_iff]
  refine ⟨List.range k, k, (List.range (m - (k + 1))).map (k + 1 + ·), ?_, h, fun a ha => hb a (List.mem_range.1 ha)⟩
  have : List.range m = List.range (k + 1) ++ (List.range (m - (k + 1))).map (k + 1 + ·) := by
    rw [← List.range_add, show k + 1 + (m - (k + 1)) = m from by omega]
  rw [this, List.range_succ, List.append_assoc]
  rfl
theorem findSome_miss {α : Type} {p : Nat → Option α} {m : Nat} (hb : ∀ j, j < m → p j = none) : (List.range m).findSome? p = none := by
  rw [List.findSome?_eq_none_iff]
  exact fun x hx => hb x (List.mem_range.1 hx)
theorem upto_none {α : Type} {p : Nat → Option α} {q : Nat} (h : ∀ i, i < q → p i = none) (hq : p q = none) : ∀ i, i < q + 1 → p i = none := by
  intro i hi
  by_cases e : i = q
  · subst e; exact hq
  · exact h i (by omega)

set_option maxRecDepth 100000 in
set_option maxHeartbeats 4000000 in
theorem search_any (A : Option Addr) (cap : Nat) (l : List Opn) (c : Int) (m : Nat) (hm : m ≤ 1000) (hs : OSmall l) (hsd : Sound l) : ∀ (f : Nat) (At : Option Addr) (capA : Nat) (at_ : List Int) (w : World), ORd w w.heap.size A l → IRd w w.heap.size At at_ →
    (At = none → capA = 0) → at_.length + f = l.length →
    Calls Try.prog 29 #[.slice A l.length cap, .int .i64 c, .int .i64 m, .slice At at_.length capA] w fun e w' => SrchPost (srch l c m f at_) e w' ∧ Below w.heap.size w w' := by
  have HS := Lib.hid hs
  have HSD := Lib.hid hsd
  have hn : l.length ≤ 16 := hsd.len
  clear hs hsd
  obtain ⟨i0, hi0, hz0, hz1, hz2⟩ := info_parts infoInt
  intro f
  induction f with
  | zero =>
    intro At capA at_ w h hat hnil hlen
    have HAT := Lib.hid hat
    have hl0 : at_.length = l.length := by omega
    have hlb : ((at_.length : Int) == (l.length : Int)) = true := by simp; omega
    clear h hat hnil hlen hl0
    go_enter Try.func29, Try.ntmps29
    go_wp2
    go_ret2
    exact ⟨⟨fun h => (by cases h), fun q hq => by cases hq; exact ⟨_, _, rfl, HAT.out⟩⟩, Below.refl _ _⟩
  | succ f ih =>
    intro At capA at_ w h hat hnil hlen
    have IH := Lib.hid ih
    have H := Lib.hid h
    have HAT := Lib.hid hat
    have HNIL := Lib.hid hnil
    have hlt : at_.length < l.length := by omega
    have hlb : ((at_.length : Int) == (l.length : Int)) = false := by simp; omega
    have HLEN := Lib.hid hlen
    clear h hat hnil hlen ih
    obtain ⟨p, HP⟩ : ∃ p : Nat → Option (List Int), Hid (p = fun (s : Nat) => if fitB l c at_ at_.length s = true then srch l c m f (at_ ++ [(s : Int)]) else none) := ⟨_, rfl⟩
    have HSR : Hid (srch l c m (f + 1) at_ = (List.range m).findSome? p) := by rw [HP.out]; rfl
    go_enter Try.func29, Try.ntmps29
    go_wp2_with fail
    go_loopw [11, 12, 13, 14] (fun j _ _ _ wr => ∃ s : Nat, s ≤ m ∧ j = .int .i64 s ∧ (∀ q, q < s → p q = none) ∧ Below w.heap.size w wr) (fun j _ _ _ _ => m - (intOf j).toNat)
    case atStart => exact ⟨0, Nat.zero_le _, rfl, fun q hq => absurd hq (by omega), Below.refl _ _⟩
    case round =>
      obtain ⟨s, hs, rfl, hno, hb⟩ := hrel
      have HNO := Lib.hid hno
      have HB := Lib.hid hb
      have hsz := hb.size
      clear hno hb
      by_cases hsm : s < m
      · have HO := Lib.hid ((H.out.below HB.out).more hsz)
        have HA := Lib.hid ((HAT.out.below HB.out).more hsz)
        go_wp2_with fail
        ((with_reducible refine (fits_any A cap l c At capA at_ at_.length s _ HO.out HS.out HSD.out HA.out rfl hlt).mono ?_); rintro e w1 ⟨rfl, rfl⟩)
        cases hfit : fitB l c at_ at_.length s with
        | false =>
          have HNO' := Lib.hid (upto_none HNO.out (show p s = none by rw [HP.out]; simp only [hfit]; rfl))
          clear hfit
          go_wp2
          go_roundw
          case rel => exact ⟨s + 1, by omega, by go_num, HNO'.out, HB.out⟩
          case measure => simp [intOf]; omega
        | true =>
          have HPS : Hid (p s = srch l c m f (at_ ++ [(s : Int)])) := by show _ = _; rw [HP.out]; simp only [hfit]; rfl
          clear hfit
          go_wp2_with (first
            | (at_builtin; refine wpList_append_rd (by rfl) (.const (.slice none 0 0)) (.tmp 34) 35 rfl w.heap.size 3 i0 _ 1 8 Try.underlying35 hi0 hz0 hz1 hz2 rfl (by decide) (.slice none 0 0) 0 [] rfl (World.ownsRow_nil _ _ _ _) At at_.length capA (cellsL at_) rfl ?m1 ?m2 ?m3 ?m4 ?m5 ?m6 ?m7 ?_))
          case m1 => unfold cellsL; simp
          case m2 => exact fun e => ⟨HA.out.none_len e, HNIL.out e⟩
          case m3 => exact HA.out.news
          case m4 => exact cellsL_one at_
          case m5 => unfold maxLen; omega
          case m6 => omega
          case m7 => exact hsz
          intro v1 w1 hown1 hgrow1
          have hbw1 : Below w.heap.size w w1 := HB.out.grown hgrow1 hsz (by simp [Value.ownBlock])
          have HO1 : Hid (w1.ownsRow w.heap.size 3 1 v1 at_.length (cellsL at_)) := by
            show World.ownsRow _ _ _ _ _ _ _
            exact hown1
          have HBW1 := Lib.hid hbw1
          have hsz1 := hbw1.size
          clear hown1 hgrow1 hbw1
          go_wp2_with (first
            | (at_builtin; refine wpList_append_own _ rfl (.tmp 35) (.tmp 37) 35 rfl w.heap.size 3 i0 _ 1 8 Try.underlying35 hi0 hz0 hz1 hz2 rfl (by decide) v1 at_.length (cellsL at_) rfl (HO1.out.alloc _) ⟨w1.heap.size, 0, none⟩ 1 1 [.int .i64 (s : Int)] rfl rfl ?n1 ?n2 ?n3 ?n4 ?n5 ?_))
          case n1 => exact World.news_of_block (cs := #[.int .i64 (s : Int)]) (t := 3) (fr := (0, 0)) (heap_alloc_new w1 _)
          case n2 => first | rfl | (intro u hu; simp at hu; subst hu; rfl)
          case n3 => unfold maxLen; omega
          case n4 => omega
          case n5 => first | omega | (simp; omega)
          intro v2 w2 hown2 hgrow2 hiff2
          have HBW2 : Hid (Below w.heap.size w w2) := (HBW1.out.alloc hsz1 _).grown hgrow2 (by simp; omega) (fun g hg => (HO1.out.lt g hg).1)
          have HO2 : Hid (w2.ownsRow w.heap.size 3 1 v2 (at_ ++ [(s : Int)]).length (cellsL (at_ ++ [(s : Int)]))) := by
            show World.ownsRow _ _ _ _ _ _ _
            rw [List.length_append]; unfold cellsL; rw [List.map_append]; exact hown2
          obtain ⟨A2, c2, rfl⟩ := own_any HO2.out
          have HN2 : Hid (A2 = none → c2 = 0) := fun e => by
            rcases HO2.out.2 with ⟨e', _⟩ | ⟨g, cp, cur, e', _⟩
            · injection e' with _ _ h3
            · rw [e] at e'; cases e'
          have hsz2 := HBW2.out.size
          have HI2 := Lib.hid (IRd.of_own HO2.out)
          have HO3 := Lib.hid ((H.out.below HBW2.out).more hsz2)
          clear hown2 hgrow2 hiff2
          go_wp2_with fail
          have hk := IH.out A2 c2 (at_ ++ [(s : Int)]) w2 HO3.out HI2.out HN2.out (by have := HLEN.out; rw [List.length_append]; simp; omega)
          rw [show (at_ ++ [(s : Int)]).length = at_.length + 1 from by simp] at hk
          ((with_reducible refine hk.mono ?_); rintro e w3 ⟨hp3, hb3⟩)
          clear hk
          have HBW3 := Lib.hid (HBW2.out.trans (hb3.mono hsz2))
          clear hb3
          rw [← HPS.out] at hp3
          cases hr : p s with
          | none =>
            have HNO' := Lib.hid (upto_none HNO.out hr)
            obtain rfl := hp3.1 hr
            clear hp3 hr
            go_wp2
            go_roundw
            case rel => exact ⟨s + 1, by omega, by go_num, HNO'.out, HBW3.out⟩
            case measure => simp [intOf]; omega
          | some q =>
            have HFS := Lib.hid (findSome_hit hsm hr HNO.out)
            obtain ⟨A4, c4, rfl, hi4⟩ := hp3.2 q hr
            have HI4 := Lib.hid hi4
            clear hp3 hr hi4
            go_wp2
            go_ret2
            refine ⟨⟨fun h => ?_, fun q' hq' => ?_⟩, HBW3.out⟩
            · rw [HSR.out, HFS.out] at h; cases h
            · rw [HSR.out, HFS.out] at hq'; cases hq'; exact ⟨A4, c4, rfl, HI4.out⟩
      · obtain rfl : m = s := by omega
        have HFS := Lib.hid (findSome_miss HNO.out)
        go_wp2
        go_ret2
        refine ⟨⟨fun h => rfl, fun q' hq' => ?_⟩, HB.out⟩
        rw [HSR.out, HFS.out] at hq'; cases hq'
end Go.Proofs.Ytlbkfphepneflaa
