/- slices.Clone and slices.SortFunc as flow.Simulate calls them: the bundles in the order of their tickets. -/
import Derived.Test.YtelgkangojmhdaaFlow3
import Derived.Test.YtelgkangojmhdaaG6
import Derived.Test.YtelgkangojmhdaaAppend
namespace Go.Proofs.Ytelgkangojmhdaa
open Go.RowKit Go.Shelf Go.Sort

def encBn (x : Bn) : List Value := [.int .i64 x.tk, .int .i64 x.gm, .int .i64 x.sz, .int .i64 x.lot, .int .i64 x.fr, .int .i64 x.tp]
def bnCells (l : List Bn) : List Value := l.flatMap encBn
theorem bnCells_cons (l : List Bn) (x : Bn) : bnCells (x :: l) = encBn x ++ bnCells l := rfl
theorem bnCells_len (l : List Bn) : (bnCells l).length = l.length * 6 := by
  induction l with
  | nil => rfl
  | cons s l ih => rw [bnCells_cons, List.length_append, ih]; simp [encBn]; omega
theorem bnCells_at (l : List Bn) : ∀ (i : Nat) (x : Bn) (j : Nat), l[i]? = some x → j < 6 → (bnCells l)[i * 6 + j]? = (encBn x)[j]? := by
  induction l with
  | nil => intro i x j h; simp at h
  | cons y l ih =>
    intro i x j h hj
    rw [bnCells_cons]
    cases i with
    | zero =>
      simp at h; subst h
      rw [Nat.zero_mul, Nat.zero_add, List.getElem?_append_left (by simp [encBn]; omega)]
    | succ i =>
      rw [List.getElem?_append_right (by simp [encBn]; omega)]
      have := ih i x j (by simpa using h) hj
      rw [← this]
      congr 1
      simp [encBn]
      omega
theorem bnCells_one (l : List Bn) : ∀ u ∈ bnCells l, u.oneCell' = true := by
  intro u hu
  simp only [bnCells, List.mem_flatMap, encBn] at hu
  obtain ⟨s, _, hu⟩ := hu
  simp at hu
  rcases hu with rfl | rfl | rfl | rfl | rfl | rfl <;> rfl
theorem BRd.of_own {w : World} {base e : Nat} {l : List Bn} {A : Option Addr} {n c : Nat} (h : w.ownsRow base e 6 (.slice A n c) l.length (bnCells l)) : BRd w w.heap.size A l := by
  intro hl
  obtain ⟨g, cap, hv, _, hlt⟩ := h.form (List.length_pos_iff.2 hl)
  have hA : A = some ⟨g, 0, none⟩ := by injection hv
  subst hA
  have hc : ∀ j u, (bnCells l)[j]? = some u → w.cell? ((⟨g, 0, none⟩ : Addr).add j) = some u := h.cells (g := g) rfl
  refine ⟨g, 0, rfl, hlt, fun i x hx => ?_⟩
  have key : ∀ j v, j < 6 → (encBn x)[j]? = some v → w.cell? ⟨g, 0 + i * 6 + j, none⟩ = some v := by
    intro j v hj hv
    have := hc (i * 6 + j) v (by rw [bnCells_at l i x j hx hj]; exact hv)
    rw [add_plain] at this
    rw [show 0 + i * 6 + j = 0 + (i * 6 + j) from by omega]; exact this
  exact ⟨key 0 _ (by omega) rfl, key 1 _ (by omega) rfl, key 2 _ (by omega) rfl, key 3 _ (by omega) rfl, key 4 _ (by omega) rfl, key 5 _ (by omega) rfl⟩
theorem BRd.news {w : World} {B : Nat} {A : Option Addr} {l : List Bn} (h : BRd w B A l) : ∀ ad, A = some ad → ∀ j u, (bnCells l)[j]? = some u → w.cell? (ad.add j) = some u := by
  intro ad hA j u hu
  have hj : j < l.length * 6 := by
    have := (List.getElem?_eq_some_iff.1 hu).1; rwa [bnCells_len] at this
  have hq : j / 6 < l.length := by omega
  obtain ⟨b, off, e, _, hc⟩ := h (by intro e; subst e; simp at hq)
  rw [hA] at e
  cases e
  have hget : l[j / 6]? = some l[j / 6] := List.getElem?_eq_getElem hq
  have hat := hc (j / 6) _ hget
  have hcell := bnCells_at l (j / 6) _ (j % 6) hget (by omega)
  rw [show j / 6 * 6 + j % 6 = j from by omega, hu] at hcell
  rw [add_plain]
  obtain ⟨c0, c1, c2, c3, c4, c5⟩ := hat
  have hm : j % 6 = 0 ∨ j % 6 = 1 ∨ j % 6 = 2 ∨ j % 6 = 3 ∨ j % 6 = 4 ∨ j % 6 = 5 := by omega
  rcases hm with hm | hm | hm | hm | hm | hm
  · rw [hm] at hcell; simp only [encBn] at hcell; cases hcell; rw [show off + j = off + j / 6 * 6 from by omega]; exact c0
  · rw [hm] at hcell; simp only [encBn] at hcell; cases hcell; rw [show off + j = off + j / 6 * 6 + 1 from by omega]; exact c1
  · rw [hm] at hcell; simp only [encBn] at hcell; cases hcell; rw [show off + j = off + j / 6 * 6 + 2 from by omega]; exact c2
  · rw [hm] at hcell; simp only [encBn] at hcell; cases hcell; rw [show off + j = off + j / 6 * 6 + 3 from by omega]; exact c3
  · rw [hm] at hcell; simp only [encBn] at hcell; cases hcell; rw [show off + j = off + j / 6 * 6 + 4 from by omega]; exact c4
  · rw [hm] at hcell; simp only [encBn] at hcell; cases hcell; rw [show off + j = off + j / 6 * 6 + 5 from by omega]; exact c5
theorem BRd.none_len {w : World} {B : Nat} {A : Option Addr} {l : List Bn} (h : BRd w B A l) (e : A = none) : l.length = 0 := by
  by_cases hl : l = []
  · simp [hl]
  · obtain ⟨b, off, e', _⟩ := h hl
    rw [e] at e'
    cases e'
theorem infoBn : (Try.prog.info? 42).map (fun i => (i.zero, i.size, i.bytes)) = some (some (.agg #[.int .i64 0, .int .i64 0, .int .i64 0, .int .i64 0, .int .i64 0, .int .i64 0]), 6, 48) := by kernel_rfl

set_option maxRecDepth 100000 in
set_option maxHeartbeats 1000000 in
theorem clone_any (A : Option Addr) (cap : Nat) (l : List Bn) (w : World) (h : BRd w w.heap.size A l) (hnil : A = none → cap = 0) (hn : l.length ≤ 1000) :
    Calls Try.prog 44 #[.slice A l.length cap] w fun e w' => (∃ A' c', e = .returned (.slice A' l.length c') ∧ w'.ownsRow w.heap.size 42 6 (.slice A' l.length c') l.length (bnCells l)) ∧ Below w.heap.size w w' := by
  have H := Lib.hid h
  have HNIL := Lib.hid hnil
  obtain ⟨i0, hi0, hz0, hz1, hz2⟩ := info_parts infoBn
  cases hA : A with
  | none =>
    have hl : l = [] := List.eq_nil_of_length_eq_zero (h.none_len hA)
    have hc := hnil hA
    subst hl hc
    clear h hnil HNIL H hA
    have qT : ∀ (w : World) (a : Option Addr) (n c n' c' : Nat), (binOp .eql 24 (.slice a n c) (.slice none n' c')).run Try.prog w = .ok (.bool a.isNone) w := fun w a n c n' c' => Lib.run_eql_slice_nil w _ _ a n c n' c' Try.underlying24
    go_enter Try.func44, Try.ntmps44
    go_wp2
    go_ret
    exact ⟨⟨none, 0, rfl, World.ownsRow_nil _ _ _ _⟩, Below.refl _ _⟩
  | some ad =>
    subst hA
    clear h hnil
    have qT : ∀ (w : World) (a : Option Addr) (n c n' c' : Nat), (binOp .eql 24 (.slice a n c) (.slice none n' c')).run Try.prog w = .ok (.bool a.isNone) w := fun w a n c n' c' => Lib.run_eql_slice_nil w _ _ a n c n' c' Try.underlying24
    have HOW : Hid ((w.alloc (.cells #[] 42)).ownsRow w.heap.size 42 6 (.slice (some ⟨w.heap.size, 0, none⟩) 0 0) 0 []) := World.ownsRow_made w #[] 0 (Nat.le_refl _) (Nat.zero_le _) rfl
    go_enter Try.func44, Try.ntmps44
    go_wp2_with (at_builtin; refine wpList_append_rd (by rfl) (.tmp 5) (.tmp 6) 24 rfl w.heap.size 42 i0 _ 6 48 Try.underlying24 hi0 hz0 hz1 hz2 rfl (by decide) (.slice (some ⟨w.heap.size, 0, none⟩) 0 0) 0 [] rfl HOW.out (some ad) l.length cap (bnCells l) rfl (bnCells_len l) ?m2 ?m3 (bnCells_one l) ?m5 ?m6 ?m7 ?_)
    case m2 => exact fun e => (by cases e)
    case m3 => exact (H.out.below (below_new w (.cells #[] 42))).news
    case m5 => unfold maxLen; omega
    case m6 => omega
    case m7 => simp
    intro v1 w1 hown1 hgrow1
    have HB1 : Hid (Below w.heap.size w w1) := (below_new w (.cells #[] 42)).grown hgrow1 (by simp) (fun g hg => by simp [Value.ownBlock] at hg; omega)
    have HO1 : Hid (w1.ownsRow w.heap.size 42 6 v1 l.length (bnCells l)) := by
      show World.ownsRow _ _ _ _ _ _ _
      exact hown1
    obtain ⟨A1, c1, rfl⟩ := own_any HO1.out
    clear hown1 hgrow1 qT
    go_wp2
    go_ret
    exact ⟨⟨A1, c1, rfl, HO1.out⟩, HB1.out⟩

set_option maxHeartbeats 1000000 in
theorem bnClosure (x y : Bn) (W : World) : Calls Try.prog 46 #[.agg #[.int .i64 x.tk, .int .i64 x.gm, .int .i64 x.sz, .int .i64 x.lot, .int .i64 x.fr, .int .i64 x.tp], .agg #[.int .i64 y.tk, .int .i64 y.gm, .int .i64 y.sz, .int .i64 y.lot, .int .i64 y.fr, .int .i64 y.tp]] W fun e w' => e = .returned (.int .i64 (M.cmpI x.tk y.tk)) ∧ ∃ q os', w' = grow (W.drewN q) os' := by
  go_enter Try.func46, Try.ntmps46
  go_wp2_with (go_at_call 47; refine (M.cmpCompare_any _ _ _).mono ?_; rintro e w' ⟨rfl, rfl⟩)
  go_ret
  exact ⟨rfl, 0, _, by rw [alloc_eq_grow, alloc_eq_grow, grow_grow]; rfl⟩
def cfBn (x y : Bn) : Int := M.cmpI x.tk y.tk
theorem ltBn (x y : Bn) : ltOf cfBn x y = decide (x.tk < y.tk) := by
  unfold ltOf cfBn M.cmpI
  by_cases h1 : x.tk < y.tk
  · simp [h1]
  · by_cases h2 : y.tk < x.tk <;> simp [h1, h2]
theorem swoBn : SWO (ltOf cfBn) :=
  ⟨fun x => by rw [ltBn]; simp, fun x y z h1 h2 => by rw [ltBn] at *; simp at *; omega, fun x y z h1 h2 => by rw [ltBn] at *; simp at *; omega⟩
instance : Inhabited Bn := ⟨bn0⟩
theorem bn_holds {w : World} {base e g cap : Nat} {l : List Bn} (h : w.ownsRow base e 6 (.slice (some ⟨g, 0, none⟩) l.length cap) l.length (bnCells l)) : HoldsK encBn 6 w g 0 l.toArray := by
  intro j hj
  rw [size_flatK] at hj
  have hj' : j < l.length * 6 := by simpa using hj
  rw [get_flatK _ _ _ _ hj]
  have hq : j / 6 < l.length := by omega
  have hget : l[j / 6]? = some l[j / 6] := List.getElem?_eq_getElem hq
  have h1 := bnCells_at l (j / 6) _ (j % 6) hget (by omega)
  have hx : l.toArray[j / 6]! = l[j / 6] := by simp [hq]
  rw [hx, Nat.zero_add]
  refine ⟨?_, h.frozenAt j⟩
  rw [h.cellAt j hj']
  rw [show j / 6 * 6 + j % 6 = j from by omega] at h1
  rw [h1]
  have hm : j % 6 = 0 ∨ j % 6 = 1 ∨ j % 6 = 2 ∨ j % 6 = 3 ∨ j % 6 = 4 ∨ j % 6 = 5 := by omega
  rcases hm with hm | hm | hm | hm | hm | hm <;> rw [hm] <;> rfl
theorem bn_perm {d d' : Array Bn} (h : PermIn 0 d.size d d') : d'.toList.Perm d.toList := by
  obtain ⟨h1, _, h3⟩ := h
  rw [← h1] at h3
  have e1 : d'.extract 0 d'.size = d' := by simp
  have e2 : d.extract 0 d'.size = d := by rw [h1]; simp
  rwa [e1, e2] at h3
theorem bn_sorted {d : Array Bn} {n : Nat} (hn : d.size = n) (h : SortedIn (ltOf cfBn) 0 n d) : d.toList.Pairwise fun x y => x.tk ≤ y.tk := by
  subst hn
  rw [List.pairwise_iff_getElem]
  intro i j hi hj hij
  have hi' : i < d.size := by simpa using hi
  have hj' : j < d.size := by simpa using hj
  have := h i j (Nat.zero_le _) hij hj'
  rw [ltBn] at this
  simp only [getElem!_pos d i hi', getElem!_pos d j hj'] at this
  simp only [Array.getElem_toList]
  have := of_decide_eq_false this
  omega
theorem bn_below {B : Nat} {w : World} {blk off n : Nat} {d : Array Bn} {os : Array Obj} (hB : B ≤ blk) (hblk : blk < w.heap.size) : Below B w (sortWorldK encBn 6 w blk off n d os) := by
  unfold sortWorldK putRowK putRow
  refine ⟨rfl, rfl, rfl, ?_, fun i hi => ?_⟩
  · simp [grow, mapBlock, Sort.ahead]
  · simp only [grow, mapBlock, Sort.ahead]
    rw [Array.getElem?_append_left (by simp; omega), Array.getElem?_modify, if_neg (by omega)]
set_option maxRecDepth 100000 in
theorem bnSort_any (base : Nat) (l : List Bn) (A : Option Addr) (cap : Nat) (w : World) (hown : w.ownsRow base 42 6 (.slice A l.length cap) l.length (bnCells l)) (hn : l.length ≤ 1000) :
    Calls Try.prog 45 #[.slice A l.length cap, .func (.func 46) #[] #[]] w fun e w' => e = .returned (.tuple #[]) ∧ (∃ l' : List Bn, l'.Perm l ∧ l'.Pairwise (fun x y => x.tk ≤ y.tk) ∧ BRd w' w'.heap.size A l') ∧ Below base w w' := by
  by_cases hl : l = []
  · subst hl
    refine (AnyF.slices_SortFunc_none Try.sortBn A cap _ w).mono ?_
    rintro e w' ⟨rfl, rfl⟩
    exact ⟨rfl, ⟨[], List.Perm.refl _, List.Pairwise.nil, fun h => absurd rfl h⟩, Below.refl _ _⟩
  · have hpos : 0 < l.length := List.length_pos_iff.2 hl
    obtain ⟨g, cap', hv, hbase, hlt⟩ := hown.form hpos
    have hA : A = some ⟨g, 0, none⟩ := by injection hv
    subst hA
    have hH := bn_holds hown
    have eg : ∀ args w, (callFunc 46 args).run Try.prog w = .ok (.enter 46 args) w := enters_of Try.func46 (by kernel_rfl) rfl
    have hcon := AnyQ.slices_SortFunc Try.sortBn 6 Try.isAgg42 Try.sizeOf42 encBn (fun _ => rfl) (fun x v hv => by simp [encBn] at hv; rcases hv with rfl | rfl | rfl | rfl | rfl | rfl <;> rfl) cfBn swoBn 46 #[] g 0 cap l.toArray w eg
      (fun _ _ _ _ x y => bnClosure x y _) hH hlt (by simp; omega)
    simp only [List.size_toArray] at hcon
    refine Calls.mono hcon ?_
    rintro e w' ⟨rfl, d', n, os, hp, hs, rfl⟩
    have hsz : d'.size = l.length := by have := hp.1; simpa using this
    refine ⟨rfl, ⟨d'.toList, by simpa using bn_perm (d := l.toArray) (by simpa using hp), bn_sorted hsz hs, ?_⟩, bn_below hbase hlt⟩
    intro _
    have hK : HoldsK encBn 6 (sortWorldK encBn 6 w g 0 n d' os) g 0 d' := by
      unfold sortWorldK
      have hlt' : g < (putRowK encBn 6 (Sort.ahead w n) g 0 d').heap.size := by
        unfold putRowK; rw [size_putRow]; exact hlt
      refine holdsK_grow _ _ _ _ _ _ _ hlt' ?_
      exact holdsK_putRowK _ _ _ _ _ l.toArray d' (holdsK_ahead _ _ _ _ _ _ _ hH) (by simpa using hsz)
    refine ⟨g, 0, rfl, ?_, fun i x hx => ?_⟩
    · unfold sortWorldK; simp [grow, putRowK, putRow, mapBlock, Sort.ahead]; omega
    · have hi : i < d'.size := by
        have := (List.getElem?_eq_some_iff.1 hx).1; simpa using this
      have hsv : d'[i]! = x := by
        rw [getElem!_pos d' i hi]; have := (List.getElem?_eq_some_iff.1 hx).2; simpa using this
      have h0 := (hK.cell hi (c := 0) (by omega)).1
      have h1 := (hK.cell hi (c := 1) (by omega)).1
      have h2 := (hK.cell hi (c := 2) (by omega)).1
      have h3 := (hK.cell hi (c := 3) (by omega)).1
      have h4 := (hK.cell hi (c := 4) (by omega)).1
      have h5 := (hK.cell hi (c := 5) (by omega)).1
      rw [hsv] at h0 h1 h2 h3 h4 h5
      exact ⟨h0, h1, h2, h3, h4, h5⟩
end Go.Proofs.Ytelgkangojmhdaa
