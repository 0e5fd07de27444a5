/- Several texts as one: MachSort, MachStops, Mach3. -/
import Derived.Test.YtelgkangojmhdaaG5
import Derived.Test.YtelgkangojmhdaaShelf
import Derived.Shelf.SlSortCmp.NoneTotal
import Derived.WalkSmall
import Derived.Deep.AppendLies
import Derived.Deep.QuietTactic
import Derived.BigQuiet
import Derived.RegionTactic
import Derived.BigRegion
/- slices.SortFunc as machine.stops calls it: the row of spans is permuted and sorted by its beginnings; nothing else that lay in memory is changed. -/
namespace Go.Proofs.Ytelgkangojmhdaa.M
open Go.RowKit Go.Shelf Go.Sort

def encSp (s : Sp) : List Value := [.int .i64 s.a, .int .i64 s.b]
def spCells (l : List Sp) : List Value := l.flatMap encSp
set_option maxRecDepth 100000 in
theorem spCells_snoc (l : List Sp) (s : Sp) : spCells (l ++ [s]) = spCells l ++ [.int .i64 s.a, .int .i64 s.b] := by simp [spCells, encSp]
set_option maxRecDepth 100000 in
theorem spCells_cons (l : List Sp) (s : Sp) : spCells (s :: l) = [.int .i64 s.a, .int .i64 s.b] ++ spCells l := rfl
set_option maxRecDepth 100000 in
theorem spCells_len (l : List Sp) : (spCells l).length = l.length * 2 := by
  induction l with
  | nil => rfl
  | cons s l ih => rw [spCells_cons, List.length_append, ih]; simp; omega
set_option maxRecDepth 100000 in
theorem spCells_at (l : List Sp) : ∀ (i : Nat) (s : Sp), l[i]? = some s → (spCells l)[i * 2]? = some (.int .i64 s.a) ∧ (spCells l)[i * 2 + 1]? = some (.int .i64 s.b) := by
  induction l with
  | nil => intro i s h; simp at h
  | cons x l ih =>
    intro i s h
    cases i with
    | zero => simp at h; subst h; simp [spCells_cons]
    | succ i =>
      obtain ⟨h1, h2⟩ := ih i s (by simpa using h)
      rw [spCells_cons]
      refine ⟨?_, ?_⟩
      · rw [List.getElem?_append_right (by simp; omega)]; simpa [show (i + 1) * 2 - 2 = i * 2 from by omega] using h1
      · rw [List.getElem?_append_right (by simp; omega)]; simpa [show (i + 1) * 2 + 1 - 2 = i * 2 + 1 from by omega] using h2
set_option maxRecDepth 100000 in
theorem spCells_one (l : List Sp) : ∀ u ∈ spCells l, u.oneCell' = true := by
  intro u hu
  simp only [spCells, List.mem_flatMap, encSp] at hu
  obtain ⟨s, _, hu⟩ := hu
  simp at hu
  rcases hu with rfl | rfl <;> rfl

set_option maxRecDepth 100000 in
theorem add_plain (g o j : Nat) : (⟨g, o, none⟩ : Addr).add j = ⟨g, o + j, none⟩ := by
  unfold Addr.add; split
  · rename_i h; subst h; rfl
  · rfl
/-- The slice at A reads as the spans l; it lies below block B. -/
def SRd (w : World) (B : Nat) (A : Option Addr) (l : List Sp) : Prop :=
  l ≠ [] → ∃ b off, A = some ⟨b, off, none⟩ ∧ b < B ∧ ∀ i s, l[i]? = some s →
    w.cell? ⟨b, off + i * 2, none⟩ = some (.int .i64 s.a) ∧ w.cell? ⟨b, off + i * 2 + 1, none⟩ = some (.int .i64 s.b)
set_option maxRecDepth 100000 in
theorem SRd.below {w w' : World} {B : Nat} {A : Option Addr} {l : List Sp} (h : SRd w B A l) (hb : Below B w w') : SRd w' B A l := by
  intro hl
  obtain ⟨b, off, e, hB, hc⟩ := h hl
  refine ⟨b, off, e, hB, fun i d hd => ?_⟩
  obtain ⟨c0, c1⟩ := hc i d hd
  exact ⟨(hb.cell (p := ⟨b, _, none⟩) hB).trans c0, (hb.cell (p := ⟨b, _, none⟩) hB).trans c1⟩
set_option maxRecDepth 100000 in
theorem SRd.more {w : World} {B B' : Nat} {A : Option Addr} {l : List Sp} (h : SRd w B A l) (hB : B ≤ B') : SRd w B' A l := by
  intro hl
  obtain ⟨b, off, e, hb, hc⟩ := h hl
  exact ⟨b, off, e, by omega, hc⟩
set_option maxRecDepth 100000 in
theorem SRd.at_ {w w' : World} {B : Nat} {A : Option Addr} {l : List Sp} (h : SRd w B A l) (hb : Below B w w') {k : Nat} (hk : k < l.length) :
    ∃ b off s, A = some ⟨b, off, none⟩ ∧ b < B ∧ l[k]? = some s ∧ w'.cell? ⟨b, off + k * 2, none⟩ = some (.int .i64 s.a) ∧ w'.cell? ⟨b, off + k * 2 + 1, none⟩ = some (.int .i64 s.b) := by
  obtain ⟨b, off, e, hB, hc⟩ := (h.below hb) (by intro e; subst e; simp at hk)
  have hd : l[k]? = some l[k] := List.getElem?_eq_getElem hk
  obtain ⟨c0, c1⟩ := hc k _ hd
  exact ⟨b, off, l[k], e, hB, hd, c0, c1⟩
set_option maxRecDepth 100000 in
theorem SRd.of_own {w : World} {base e : Nat} {l : List Sp} {A : Option Addr} {n c : Nat} (h : w.ownsRow base e 2 (.slice A n c) l.length (spCells l)) : SRd w w.heap.size A l := by
  intro hl
  have hpos : 0 < l.length := List.length_pos_iff.2 hl
  obtain ⟨g, cap, hv, _, hlt⟩ := h.form hpos
  have hA : A = some ⟨g, 0, none⟩ := by injection hv
  subst hA
  obtain ⟨hc⟩ : Nonempty (∀ j u, (spCells l)[j]? = some u → w.cell? ((⟨g, 0, none⟩ : Addr).add j) = some u) := ⟨h.cells (g := g) rfl⟩
  refine ⟨g, 0, rfl, hlt, fun i s hs => ?_⟩
  obtain ⟨h1, h2⟩ := spCells_at l i s hs
  have a1 := hc _ _ h1
  have a2 := hc _ _ h2
  rw [add_plain] at a1 a2
  exact ⟨a1, a2⟩

def cmpI (x y : Int) : Int := if x < y then -1 else if y < x then 1 else 0
set_option maxHeartbeats 1000000 in
set_option maxRecDepth 100000 in
theorem cmpCompare_any (x y : Int) (W : World) : Calls Try.prog 47 #[.int .i64 x, .int .i64 y] W fun e w' => e = .returned (.int .i64 (cmpI x y)) ∧ W = w' := by
  rcases Int.lt_trichotomy x y with h | h | h
  · have H := Lib.hid (show cmpI x y = -1 from by unfold cmpI; rw [if_pos h])
    go_enter Try.func47, Try.ntmps47
    go_wp2
    go_ret
    exact ⟨ret_int H.out.symm, rfl⟩
  · subst h
    have H := Lib.hid (show cmpI x x = 0 from by unfold cmpI; rw [if_neg (by omega), if_neg (by omega)])
    go_enter Try.func47, Try.ntmps47
    go_wp2
    go_ret
    exact ⟨ret_int H.out.symm, rfl⟩
  · have H := Lib.hid (show cmpI x y = 1 from by unfold cmpI; rw [if_neg (by omega), if_pos h])
    have h' : ¬ x < y := by omega
    go_enter Try.func47, Try.ntmps47
    go_wp2
    go_ret
    exact ⟨ret_int H.out.symm, rfl⟩

set_option maxHeartbeats 1000000 in
set_option maxRecDepth 100000 in
theorem spClosure (x y : Sp) (W : World) : Calls Try.prog 55 #[.agg #[.int .i64 x.a, .int .i64 x.b], .agg #[.int .i64 y.a, .int .i64 y.b]] W fun e w' => e = .returned (.int .i64 (cmpI x.a y.a)) ∧ ∃ q os', w' = grow (W.drewN q) os' := by
  go_enter Try.func55, Try.ntmps55
  go_wp2_with (go_at_call 47; refine (cmpCompare_any _ _ _).mono ?_; rintro e w' ⟨rfl, rfl⟩)
  go_ret
  exact ⟨rfl, 0, _, by rw [alloc_eq_grow, alloc_eq_grow, grow_grow]; rfl⟩
def cfSp (x y : Sp) : Int := cmpI x.a y.a
set_option maxRecDepth 100000 in
theorem ltSp (x y : Sp) : ltOf cfSp x y = decide (x.a < y.a) := by
  unfold ltOf cfSp cmpI
  by_cases h1 : x.a < y.a
  · simp [h1]
  · by_cases h2 : y.a < x.a <;> simp [h1, h2]
set_option maxRecDepth 100000 in
theorem swoSp : SWO (ltOf cfSp) :=
  ⟨fun x => by rw [ltSp]; simp, fun x y z h1 h2 => by rw [ltSp] at *; simp at *; omega, fun x y z h1 h2 => by rw [ltSp] at *; simp at *; omega⟩

instance : Inhabited Sp := ⟨sp0⟩

set_option maxRecDepth 100000 in
theorem holds_of_own {w : World} {base e g cap : Nat} {l : List Sp} (h : w.ownsRow base e 2 (.slice (some ⟨g, 0, none⟩) l.length cap) l.length (spCells l)) : HoldsK encSp 2 w g 0 l.toArray := by
  intro j hj
  rw [size_flatK] at hj
  have hj' : j < l.length * 2 := by simpa using hj
  rw [get_flatK _ _ _ _ hj]
  have hq : j / 2 < l.length := by omega
  have hget : l[j / 2]? = some l[j / 2] := List.getElem?_eq_getElem hq
  obtain ⟨h1, h2⟩ := spCells_at l (j / 2) _ hget
  have hx : l.toArray[j / 2]! = l[j / 2] := by simp [hq]
  rw [hx, Nat.zero_add]
  refine ⟨?_, h.frozenAt j⟩
  rw [h.cellAt j hj']
  rcases Nat.mod_two_eq_zero_or_one j with hm | hm
  · rw [hm]; rw [show j / 2 * 2 = j from by omega] at h1; rw [h1]; rfl
  · rw [hm]; rw [show j / 2 * 2 + 1 = j from by omega] at h2; rw [h2]; rfl

set_option maxRecDepth 100000 in
theorem perm_of_permIn {d d' : Array Sp} (h : PermIn 0 d.size d d') : d'.toList.Perm d.toList := by
  obtain ⟨h1, _, h3⟩ := h
  rw [← h1] at h3
  have e1 : d'.extract 0 d'.size = d' := by simp
  have e2 : d.extract 0 d'.size = d := by rw [h1]; simp
  rwa [e1, e2] at h3
set_option maxRecDepth 100000 in
theorem sorted_of_sortedIn {d : Array Sp} {n : Nat} (hn : d.size = n) (h : SortedIn (ltOf cfSp) 0 n d) : d.toList.Pairwise fun x y => x.a ≤ y.a := by
  subst hn
  rw [List.pairwise_iff_getElem]
  intro i j hi hj hij
  have hi' : i < d.size := by simpa using hi
  have hj' : j < d.size := by simpa using hj
  have := h i j (Nat.zero_le _) hij hj'
  rw [ltSp] at this
  simp only [getElem!_pos d i hi', getElem!_pos d j hj'] at this
  simp only [Array.getElem_toList]
  have := of_decide_eq_false this
  omega

set_option maxRecDepth 100000 in
theorem below_sortWorld {B : Nat} {w : World} {blk off n : Nat} {d : Array Sp} {os : Array Obj} (hB : B ≤ blk) (hblk : blk < w.heap.size) : Below B w (sortWorldK encSp 2 w blk off n d os) := by
  unfold sortWorldK putRowK putRow
  refine ⟨rfl, rfl, rfl, ?_, fun i hi => ?_⟩
  · simp [grow, mapBlock, Sort.ahead]
  · simp only [grow, mapBlock, Sort.ahead]
    rw [Array.getElem?_append_left (by simp; omega), Array.getElem?_modify, if_neg (by omega)]

set_option maxRecDepth 100000 in
theorem sort_any (base : Nat) (l : List Sp) (A : Option Addr) (cap : Nat) (w : World) (hown : w.ownsRow base 68 2 (.slice A l.length cap) l.length (spCells l)) (hn : l.length ≤ 1000) :
    Calls Try.prog 54 #[.slice A l.length cap, .func (.func 55) #[] #[]] w fun e w' => e = .returned (.tuple #[]) ∧ (∃ l' : List Sp, l'.Perm l ∧ l'.Pairwise (fun x y => x.a ≤ y.a) ∧ SRd w' w'.heap.size A l') ∧ Below base w w' := by
  by_cases hl : l = []
  · subst hl
    refine (AnyF.slices_SortFunc_none Try.sortSp A cap _ w).mono ?_
    rintro e w' ⟨rfl, rfl⟩
    exact ⟨rfl, ⟨[], List.Perm.refl _, List.Pairwise.nil, fun h => absurd rfl h⟩, Below.refl _ _⟩
  · have hpos : 0 < l.length := List.length_pos_iff.2 hl
    obtain ⟨g, cap', hv, hbase, hlt⟩ := hown.form hpos
    have hA : A = some ⟨g, 0, none⟩ := by injection hv
    subst hA
    have hH := holds_of_own hown
    have eg : ∀ args w, (callFunc 55 args).run Try.prog w = .ok (.enter 55 args) w := enters_of Try.func55 (by kernel_rfl) rfl
    have hcon := AnyQ.slices_SortFunc Try.sortSp 2 Try.isAgg68 Try.sizeOf68 encSp (fun _ => rfl) (fun x v hv => by simp [encSp] at hv; rcases hv with rfl | rfl <;> rfl) cfSp swoSp 55 #[] g 0 cap l.toArray w eg
      (fun _ _ _ _ x y => spClosure x y _) hH hlt (by simp; omega)
    simp only [List.size_toArray] at hcon
    refine Calls.mono hcon ?_
    rintro e w' ⟨rfl, d', n, os, hp, hs, rfl⟩
    have hsz : d'.size = l.length := by have := hp.1; simpa using this
    refine ⟨rfl, ⟨d'.toList, by simpa using perm_of_permIn (d := l.toArray) (by simpa using hp), sorted_of_sortedIn hsz hs, ?_⟩, below_sortWorld hbase hlt⟩
    intro _
    have hK : HoldsK encSp 2 (sortWorldK encSp 2 w g 0 n d' os) g 0 d' := by
      unfold sortWorldK
      have hlt' : g < (putRowK encSp 2 (Sort.ahead w n) g 0 d').heap.size := by
        unfold putRowK; rw [size_putRow]; exact hlt
      refine holdsK_grow _ _ _ _ _ _ _ hlt' ?_
      exact holdsK_putRowK _ _ _ _ _ l.toArray d' (holdsK_ahead _ _ _ _ _ _ _ hH) (by simpa using hsz)
    refine ⟨g, 0, rfl, ?_, fun i s hs => ?_⟩
    · unfold sortWorldK; simp [grow, putRowK, putRow, mapBlock, Sort.ahead]; omega
    · have hi : i < d'.size := by
        have := (List.getElem?_eq_some_iff.1 hs).1; simpa using this
      have hsv : d'[i]! = s := by
        rw [getElem!_pos d' i hi]; have := (List.getElem?_eq_some_iff.1 hs).2; simpa using this
      have h0 := (hK.cell hi (c := 0) (by omega)).1
      have h1 := (hK.cell hi (c := 1) (by omega)).1
      rw [hsv] at h0 h1
      exact ⟨h0, h1⟩
end Go.Proofs.Ytelgkangojmhdaa.M
/- The walk of machine.stops: it returns the times at which the machine is down, joined; nothing that lay in memory is changed. -/
namespace Go.Proofs.Ytelgkangojmhdaa.M
open Go.RowKit
set_option maxRecDepth 100000 in
theorem infoSpan : (Try.prog.info? 68).map (fun i => (i.zero, i.size, i.bytes)) = some (some (.agg #[.int .i64 0, .int .i64 0]), 2, 16) := by kernel_rfl
set_option maxRecDepth 100000 in
theorem clip_take_succ {l : List Dn} {k : Nat} {d : Dn} (h : l[k]? = some d) (m lo hi : Int) : clip (l.take (k + 1)) m lo hi = clip (l.take k) m lo hi ++ (clip1 m lo hi d).toList := by
  unfold clip; rw [List.take_add_one, h, List.filterMap_append]; cases hc : clip1 m lo hi d <;> simp [hc]
set_option maxRecDepth 100000 in
theorem clip_len (l : List Dn) (m lo hi : Int) : (clip l m lo hi).length ≤ l.length := List.length_filterMap_le _ _
set_option maxRecDepth 100000 in
theorem clip_yes {l : List Dn} {k : Nat} {d : Dn} (h : l[k]? = some d) {m lo hi x y : Int} (hm : d.m = m) (hx : x = max d.f lo) (hy : y = min d.t hi) (hlt : x < y) : clip (l.take (k + 1)) m lo hi = clip (l.take k) m lo hi ++ [⟨x, y⟩] := by
  rw [clip_take_succ h]; unfold clip1; rw [if_pos ⟨hm, by omega⟩, hx, hy]; rfl
set_option maxRecDepth 100000 in
theorem clip_no {l : List Dn} {k : Nat} {d : Dn} (h : l[k]? = some d) {m lo hi x y : Int} (hx : x = max d.f lo) (hy : y = min d.t hi) (hlt : ¬ (d.m = m ∧ x < y)) : clip (l.take (k + 1)) m lo hi = clip (l.take k) m lo hi := by
  rw [clip_take_succ h]; unfold clip1; rw [if_neg (by omega)]; simp
set_option maxRecDepth 100000 in
theorem own_grow_below {B : Nat} {w w0 w' : World} {v : Value} {base e size n : Nat} {xs : List Value} (hown : w.ownsRow base e size v n xs) (hb : Below B w0 w) (hB : B ≤ base) (hBw : B ≤ w.heap.size) (hg : w.grownBy w' v.ownBlock) : Below B w0 w' := by
  refine hb.grown hg hBw (fun k hk => ?_)
  have := (hown.lt k hk).1
  omega

set_option maxRecDepth 100000 in
theorem own_last {w : World} {base e g cap q : Nat} {J : List Sp} {x : Sp} (h : w.ownsRow base e 2 (.slice (some ⟨g, 0, none⟩) J.length cap) J.length (spCells J)) (hx : J.getLast? = some x) (hq : J.length = q + 1) :
    w.cell? ⟨g, q * 2, none⟩ = some (.int .i64 x.a) ∧ w.cell? ⟨g, q * 2 + 1, none⟩ = some (.int .i64 x.b) ∧ w.frozen? ⟨g, q * 2 + 1, none⟩ = false := by
  have hi : J[q]? = some x := by rw [List.getLast?_eq_getElem?, hq] at hx; exact hx
  obtain ⟨h1, h2⟩ := spCells_at J q x hi
  exact ⟨(h.cellAt _ (by omega)).trans h1, (h.cellAt _ (by omega)).trans h2, h.frozenAt _⟩
set_option maxRecDepth 100000 in
theorem join_take_succ {D : List Sp} {k : Nat} {s : Sp} (h : D[k]? = some s) : join (D.take (k + 1)) = joinStep (join (D.take k)) s := by
  unfold join; rw [List.take_add_one, h]; simp [List.foldl_append]
set_option maxRecDepth 100000 in
theorem World.ownsRow.drewN {w : World} {base e size n : Nat} {v : Value} {xs : List Value} (h : w.ownsRow base e size v n xs) (k : Nat) : (w.drewN k).ownsRow base e size v n xs := h
set_option maxRecDepth 100000 in
theorem spCells_set {J : List Sp} {x : Sp} {q : Nat} (hx : J.getLast? = some x) (hq : J.length = q + 1) (y : Int) : (spCells J).set (q * 2 + 1) (.int .i64 y) = spCells (J.dropLast ++ [(⟨x.a, y⟩ : Sp)]) := by
  have hs := getLast_split hx
  have hl : J.dropLast.length = q := by rw [List.length_dropLast]; omega
  generalize J.dropLast = I at *
  subst hs
  rw [spCells_snoc, spCells_snoc, List.set_append_right _ _ (by rw [spCells_len]; omega), spCells_len, hl, show q * 2 + 1 - q * 2 = 1 from by omega]
  rfl
set_option maxRecDepth 100000 in
theorem own_store {w : World} {base e g cap q : Nat} {J : List Sp} {x : Sp} (h : w.ownsRow base e 2 (.slice (some ⟨g, 0, none⟩) J.length cap) J.length (spCells J)) (hx : J.getLast? = some x) (hq : J.length = q + 1) (n : Nat) (o : Obj) (y : Int) :
    (((w.alloc o).drewN n).setCell ⟨g, q * 2 + 1, none⟩ (.int .i64 y)).ownsRow base e 2 (.slice (some ⟨g, 0, none⟩) (q + 1) cap) (J.dropLast ++ [(⟨x.a, y⟩ : Sp)]).length (spCells (J.dropLast ++ [(⟨x.a, y⟩ : Sp)])) := by
  have h1 := (World.ownsRow.stored (w := (w.alloc o).drewN n) (World.ownsRow.drewN (h.alloc o) n) (q * 2 + 1) (.int .i64 y)).1
  rw [spCells_set hx hq, hq] at h1
  rw [show (J.dropLast ++ [(⟨x.a, y⟩ : Sp)]).length = q + 1 from by simp [hq]]
  exact h1
set_option maxRecDepth 100000 in
theorem below_drewN {B : Nat} {a w : World} (h : Below B a w) (n : Nat) : Below B a (w.drewN n) := ⟨h.os, h.tape, h.output, h.size, h.block⟩
set_option maxRecDepth 100000 in
theorem below_store {B g j n : Nat} {w0 w : World} (h : Below B w0 w) (hB : B ≤ w.heap.size) (hg : B ≤ g) (o : Obj) (u : Value) : Below B w0 (((w.alloc o).drewN n).setCell ⟨g, j, none⟩ u) :=
  (below_drewN (h.alloc hB o) n).setCell hg u
set_option maxRecDepth 100000 in
theorem own_slice {w : World} {base e size n : Nat} {v : Value} {xs : List Value} (h : w.ownsRow base e size v n xs) : ∃ A c, v = .slice A n c := by
  rcases h.2 with ⟨rfl, rfl⟩ | ⟨g, cap, cur, rfl, _⟩
  · exact ⟨_, _, rfl⟩
  · exact ⟨_, _, rfl⟩
set_option maxHeartbeats 1000000 in
set_option maxRecDepth 100000 in
theorem stops_any (A : Option Addr) (cap : Nat) (l : List Dn) (m lo hi : Int) (w : World) (h : DRd w w.heap.size A l) (hn : l.length ≤ 1000) :
    Calls Try.prog 33 #[.slice A l.length cap, .int .i64 m, .agg #[.int .i64 lo, .int .i64 hi]] w fun e w' => (∃ A' cap' J, Stops (isUp l m) lo hi J ∧ J.length ≤ l.length ∧ e = .returned (.slice A' J.length cap') ∧ SRd w' w'.heap.size A' J) ∧ Below w.heap.size w w' := by
  have H := Lib.hid h
  clear h
  obtain ⟨i0, hi0, hz0, hz1, hz2⟩ := info_parts infoSpan
  go_enter Try.func33, Try.ntmps33
  go_wp2
  go_loopw [7, 9, 10, 17] (fun v _ _ i wr => ∃ k : Nat, k ≤ l.length ∧ i = .int .i64 k ∧ wr.ownsRow (w.heap.size + 1) 68 2 v (clip (l.take k) m lo hi).length (spCells (clip (l.take k) m lo hi)) ∧ Below (w.heap.size + 1) (w.alloc (.cells #[.int .i64 lo, .int .i64 hi] 68)) wr) (fun _ _ _ i _ => l.length - (intOf i).toNat)
  case atStart => exact ⟨0, Nat.zero_le _, rfl, ⟨by simp [clip, spCells], .inl ⟨rfl, rfl⟩⟩, Below.refl _ _⟩
  case round =>
    obtain ⟨k, hk, rfl, hown, hb⟩ := hrel
    have hsz := hb.size
    rw [World.size_alloc] at hsz
    have hsz' : w.heap.size < wr.heap.size := by omega
    have hb' : Below w.heap.size w wr := ((Below.refl _ _).alloc (Nat.le_refl _) _).trans (hb.mono (by omega))
    have hcl := clip_len (l.take k) m lo hi
    have htk : (l.take k).length ≤ k := List.length_take_le _ _
    by_cases hlt : k < l.length
    · obtain ⟨b, off, d, rfl, hB, hd, c0, c1, c2⟩ := H.out.at_ hb' hlt
      have e0 : wr.cell? ⟨w.heap.size, 0, none⟩ = some (.int .i64 lo) := (hb.cell (p := ⟨w.heap.size, 0, none⟩) (by simp)).trans (by simp [go_sem])
      have e1 : wr.cell? ⟨w.heap.size, 1, none⟩ = some (.int .i64 hi) := (hb.cell (p := ⟨w.heap.size, 1, none⟩) (by simp)).trans (by simp [go_sem])
      obtain ⟨x, hx⟩ : ∃ x, x = max d.f lo := ⟨_, rfl⟩
      obtain ⟨y, hy⟩ : ∃ y, y = min d.t hi := ⟨_, rfl⟩
      have ex : max d.f lo = x := hx.symm
      have ey : min d.t hi = y := hy.symm
      have HOWN := Lib.hid hown
      have HB := Lib.hid hb
      clear hown hb
      by_cases hc : d.m = m ∧ x < y
      · have HC := Lib.hid (clip_yes hd hc.1 hx hy hc.2)
        have hmb : (d.m == m) = true := by simp [hc.1]
        have hxy := hc.2
        clear hc hd hx hy
        go_wp2_with (at_builtin; refine wpList_append_own _ rfl (.tmp 43) (.tmp 45) 65 rfl (w.heap.size + 1) 68 i0 _ 2 16 Try.underlying65 hi0 hz0 hz1 hz2 rfl (by decide) _ _ _ rfl (((HOWN.out.alloc _).alloc _).alloc _) ⟨wr.heap.size + 1 + 1, 0, none⟩ 1 1 [.int .i64 x, .int .i64 y] rfl rfl ?c1 ?c2 ?c3 ?c4 ?c5 ?_)
        case c1 => have := cell_two_new ((wr.alloc (.cells #[.int .i64 d.m, .int .i64 d.f, .int .i64 d.t] 62)).alloc (.cells #[.int .i64 x, .int .i64 y] 68)) (.int .i64 x) (.int .i64 y) 68; simpa using this
        case c2 => intro u hu; simp at hu; rcases hu with rfl | rfl <;> rfl
        case c3 => unfold maxLen; omega
        case c4 => omega
        case c5 => simp; omega
        intro v' w' hown' hgrow _
        have HO' : Hid (w'.ownsRow (w.heap.size + 1) 68 2 v' (clip (l.take (k + 1)) m lo hi).length (spCells (clip (l.take (k + 1)) m lo hi))) := by
          show World.ownsRow _ _ _ _ _ _ _
          rw [HC.out, spCells_snoc, List.length_append]; exact hown'
        have HB' : Hid (Below (w.heap.size + 1) (w.alloc (.cells #[.int .i64 lo, .int .i64 hi] 68)) w') :=
          own_grow_below (((HOWN.out.alloc _).alloc _).alloc _) (((HB.out.alloc (by omega) _).alloc (by simp; omega) _).alloc (by simp; omega) _) (Nat.le_refl _) (by simp; omega) hgrow
        clear hown' hgrow
        go_wp2
        go_roundw
        case rel => exact ⟨k + 1, by omega, by go_num, HO'.out, HB'.out⟩
        case measure => simp [intOf]; omega
      · have HC := Lib.hid (clip_no hd hx hy hc)
        have HB2 := Lib.hid ((HB.out.alloc hsz (.cells #[.int .i64 d.m, .int .i64 d.f, .int .i64 d.t] 62)).alloc (by simp; omega) (.cells #[.int .i64 x, .int .i64 y] 68))
        have HO2 : Hid (((wr.alloc (.cells #[.int .i64 d.m, .int .i64 d.f, .int .i64 d.t] 62)).alloc (.cells #[.int .i64 x, .int .i64 y] 68)).ownsRow (w.heap.size + 1) 68 2 u7 (clip (l.take (k + 1)) m lo hi).length (spCells (clip (l.take (k + 1)) m lo hi))) := by
          show World.ownsRow _ _ _ _ _ _ _
          rw [HC.out]; exact (HOWN.out.alloc _).alloc _
        by_cases hm : d.m = m
        · have hmb : (d.m == m) = true := by simp [hm]
          have hxy : ¬ x < y := fun h => hc ⟨hm, h⟩
          have HM := Lib.hid hm
          clear hc hd hx hy hm
          go_wp2
          go_roundw
          case rel => exact ⟨k + 1, by omega, by go_num, HO2.out, HB2.out⟩
          case measure => simp [intOf]; omega
        · have hmb : (d.m == m) = false := by simp [hm]
          clear hc hd hx hy hm
          go_wp2
          go_roundw
          case rel => exact ⟨k + 1, by omega, by go_num, HO2.out, HB2.out⟩
          case measure => simp [intOf]; omega
    · have hkl : k = l.length := by omega
      subst hkl
      rw [List.take_length] at hown hcl
      obtain ⟨A1, cap1, rfl⟩ := own_slice hown
      have HL := Lib.hid (clip_len l m lo hi)
      go_wp2_with fail
      ((with_reducible refine (sort_any (w.heap.size + 1) (clip l m lo hi) A1 cap1 _ hown (by omega)).mono ?_); rintro e w2 ⟨rfl, ⟨D, hperm, hso, hrd⟩, hb2⟩)
      have hDl : D.length ≤ l.length := by have := hperm.length_eq; omega
      have HDL := Lib.hid hperm.length_eq
      rw [← HDL.out]
      have hbw : Below w.heap.size w w2 := hb'.trans (hb2.mono (by omega))
      have hszw := hbw.size
      have HST := Lib.hid (stops_ok hperm hso)
      have HR := Lib.hid hrd
      clear hperm hso hrd hown hb hb2 hcl hb' htk
      go_wp2_with fail
      go_loopw [11, 13, 14, 52] (fun v _ _ i wr => ∃ k : Nat, k ≤ D.length ∧ i = .int .i64 k ∧ wr.ownsRow w2.heap.size 68 2 v (join (D.take k)).length (spCells (join (D.take k))) ∧ (join (D.take k)).length ≤ k ∧ Below w2.heap.size w2 wr) (fun _ _ _ i _ => D.length - (intOf i).toNat)
      case atStart => exact ⟨0, Nat.zero_le _, rfl, ⟨by simp [join, spCells], .inl ⟨rfl, rfl⟩⟩, by simp [join], Below.refl _ _⟩
      case round =>
        obtain ⟨k, hk, rfl, hown, hJk, hb⟩ := hrel
        have hsz := hb.size
        by_cases hlt : k < D.length
        · obtain ⟨b, off, s, rfl, hB, hd, c0, c1⟩ := HR.out.at_ hb hlt
          have HJ := Lib.hid (join_take_succ hd)
          have HB := Lib.hid hb
          clear hd hb
          generalize join (D.take k) = J at *
          cases hJ : J.getLast? with
          | none =>
            have hJe : J = [] := List.getLast?_eq_none_iff.1 hJ
            subst hJe
            have HJ' : Hid (join (D.take (k + 1)) = [s]) := HJ
            obtain ⟨A2, cap2, rfl⟩ := own_slice hown
            have HOWN := Lib.hid hown
            have hz : decide ((0 : Int) < 0) = false := by decide
            clear hown hJ HJ
            go_wp2
            go_quiet (fail)
            go_wp2_with (at_builtin; refine wpList_append_own _ rfl (.tmp 85) (.tmp 87) 65 rfl w2.heap.size 68 i0 _ 2 16 Try.underlying65 hi0 hz0 hz1 hz2 rfl (by decide) _ _ _ rfl ((World.ownsRow.drewN (HOWN.out.alloc _) _).alloc _) ⟨wr.heap.size + 1, 0, none⟩ 1 1 [.int .i64 s.a, .int .i64 s.b] rfl rfl ?d1 ?d2 ?d3 ?d4 ?d5 ?_)
            case d1 => have := cell_two_new ((wr.alloc (.cells #[.int .i64 s.a, .int .i64 s.b] 68)).drewN nq) (.int .i64 s.a) (.int .i64 s.b) 68; simpa using this
            case d2 => intro u hu; simp at hu; rcases hu with rfl | rfl <;> rfl
            case d3 => unfold maxLen; simp
            case d4 => simp
            case d5 => simp; omega
            intro v' w' hown' hgrow _
            have HB' : Hid (Below w2.heap.size w2 w') :=
              own_grow_below ((World.ownsRow.drewN (HOWN.out.alloc _) _).alloc _) ((below_drewN (HB.out.alloc (by omega) _) _).alloc (by simp; omega) _) (Nat.le_refl _) (by simp; omega) hgrow
            have HO' : Hid (w'.ownsRow w2.heap.size 68 2 v' (join (D.take (k + 1))).length (spCells (join (D.take (k + 1))))) := by
              show World.ownsRow _ _ _ _ _ _ _
              rw [HJ'.out]; exact hown'
            clear hown' hgrow
            go_wp2
            go_roundw
            case rel => exact ⟨k + 1, by omega, by go_num, HO'.out, by rw [HJ'.out]; simp, HB'.out⟩
            case measure => simp [intOf]; omega
          | some x =>
            have hJs := getLast_split hJ
            obtain ⟨q, hq⟩ : ∃ q, J.dropLast.length = q := ⟨_, rfl⟩
            have hJl : J.length = q + 1 := by rw [hJs]; simp [hq]
            obtain ⟨g, cap2, rfl, hg1, hg2⟩ := hown.form (by omega)
            have hc := own_last hown hJ hJl
            have HOWN0 := Lib.hid hown
            rw [hJl] at hown ⊢ hJk
            have HOWN := Lib.hid hown
            have HJl := Lib.hid hJl
            have HJL := Lib.hid hJ
            obtain ⟨ca, cb, cf⟩ := hc
            clear hown hJ hJs hJl hq
            have hq0 : (0 : Int) ≤ q := by omega
            have hq1 : (0 : Int) < (q : Int) + 1 := by omega
            have hw1 : IntKind.i64.wrap ((q : Int) + 1 - 1) = q := by rw [IntWalk.i64_in _ (by omega)]; omega
            obtain ⟨y, hy⟩ : ∃ y, y = max x.b s.b := ⟨_, rfl⟩
            have ey : max x.b s.b = y := hy.symm
            by_cases hle : s.a ≤ x.b
            · have HJ' : Hid (join (D.take (k + 1)) = J.dropLast ++ [⟨x.a, y⟩]) := by
                have := HJ.out; unfold joinStep at this; rw [HJL.out] at this; simp only [if_pos hle] at this; rw [hy]; exact this
              clear hy HJ
              go_wp2
              go_quiet (fail)
              go_wp2
              go_region
              go_wp2
              go_roundw
              case rel =>
                refine ⟨k + 1, by omega, by go_num, ?_, ?_, ?_⟩
                · rw [HJ'.out]; exact own_store HOWN0.out HJL.out HJl.out (nq + 1) _ y
                · rw [HJ'.out]; simp [HJl.out]; omega
                · exact below_store HB.out (by omega) hg1 _ _
              case measure => simp [intOf]; omega
            · have HJ' : Hid (join (D.take (k + 1)) = J ++ [s]) := by
                have := HJ.out; unfold joinStep at this; rw [HJL.out] at this; simp only [if_neg hle] at this; exact this
              clear hy ey HJ
              go_wp2
              go_quiet (fail)
              go_wp2_with (at_builtin; refine wpList_append_own _ rfl (.tmp 85) (.tmp 87) 65 rfl w2.heap.size 68 i0 _ 2 16 Try.underlying65 hi0 hz0 hz1 hz2 rfl (by decide) _ _ _ rfl ((World.ownsRow.drewN (HOWN.out.alloc _) _).alloc _) ⟨wr.heap.size + 1, 0, none⟩ 1 1 [.int .i64 s.a, .int .i64 s.b] rfl rfl ?e1 ?e2 ?e3 ?e4 ?e5 ?_)
              case e1 => have := cell_two_new ((wr.alloc (.cells #[.int .i64 s.a, .int .i64 s.b] 68)).drewN nq) (.int .i64 s.a) (.int .i64 s.b) 68; simpa using this
              case e2 => intro u hu; simp at hu; rcases hu with rfl | rfl <;> rfl
              case e3 => unfold maxLen; omega
              case e4 => omega
              case e5 => simp; omega
              intro v' w' hown' hgrow _
              have HB' : Hid (Below w2.heap.size w2 w') :=
                own_grow_below ((World.ownsRow.drewN (HOWN.out.alloc _) _).alloc _) ((below_drewN (HB.out.alloc (by omega) _) _).alloc (by simp; omega) _) (Nat.le_refl _) (by simp; omega) hgrow
              have HO' : Hid (w'.ownsRow w2.heap.size 68 2 v' (join (D.take (k + 1))).length (spCells (join (D.take (k + 1))))) := by
                show World.ownsRow _ _ _ _ _ _ _
                rw [HJ'.out]; rw [spCells_snoc, List.length_append, HJl.out]; exact hown'
              clear hown' hgrow
              go_wp2
              go_roundw
              case rel => exact ⟨k + 1, by omega, by go_num, HO'.out, by rw [HJ'.out]; simp [HJl.out]; omega, HB'.out⟩
              case measure => simp [intOf]; omega
        · have hkl : k = D.length := by omega
          subst hkl
          rw [List.take_length] at hown hJk
          obtain ⟨A2, cap2, rfl⟩ := own_slice hown
          go_wp2
          go_ret
          exact ⟨⟨A2, cap2, join D, HST.out, by omega, rfl, SRd.of_own hown⟩, hbw.trans (hb.mono (by omega))⟩
end Go.Proofs.Ytelgkangojmhdaa.M
/- Walks of machine.Lost and machine.Finish: each computes its plain function; nothing that lay in memory is changed. -/
namespace Go.Proofs.Ytelgkangojmhdaa.M
open Go.RowKit

set_option maxRecDepth 100000 in
theorem lens_take_succ {J : List Sp} {k : Nat} {s : Sp} (h : J[k]? = some s) : lens (J.take (k + 1)) = lens (J.take k) + (s.b - s.a) := by
  unfold lens; rw [List.take_add_one, h]; simp
set_option maxRecDepth 100000 in
theorem lens_bd {p : Int → Bool} {lo hi : Int} {J : List Sp} (h : Stops p lo hi J) (h0 : 0 ≤ lo) (h1 : hi ≤ 1073741824) (k : Nat) : 0 ≤ lens (J.take k) ∧ lens (J.take k) ≤ (J.take k).length * 1073741824 := by
  have hs := stops_len h
  have : ∀ l : List Sp, (∀ s ∈ l, lo ≤ s.a ∧ s.a < s.b ∧ s.b ≤ hi) → 0 ≤ lens l ∧ lens l ≤ l.length * 1073741824 := by
    intro l
    induction l with
    | nil => intro _; exact ⟨Int.le_refl _, Int.le_refl _⟩
    | cons s l ih =>
      intro hl
      have h1 := hl s (by simp)
      have h2 := ih fun x hx => hl x (by simp [hx])
      have e : lens (s :: l) = (s.b - s.a) + lens l := rfl
      rw [e]; simp only [List.length_cons]; omega
  exact this _ fun s hs' => hs s (List.mem_of_mem_take hs')
set_option maxRecDepth 100000 in
theorem lens_all {l : List Dn} {m lo hi : Int} {J : List Sp} (h : Stops (isUp l m) lo hi J) : lens (J.take J.length) = down (isUp l m) lo hi := by
  rw [List.take_length]; exact lens_ok J lo h

set_option maxRecDepth 100000 in
theorem work_take {J : List Sp} {k : Nat} {s : Sp} (h : J[k]? = some s) (at_ left : Int) : work (J.drop k) at_ left = if left ≤ s.a - at_ then at_ + left else work (J.drop (k + 1)) s.b (left - (s.a - at_)) := by
  have hk := (List.getElem?_eq_some_iff.1 h).1
  have e : J.drop k = s :: J.drop (k + 1) := by
    rw [List.drop_eq_getElem_cons hk]; rw [(List.getElem?_eq_some_iff.1 h).2]
  rw [e]; rfl

set_option maxHeartbeats 1000000 in
set_option maxRecDepth 100000 in
theorem finish_any (A : Option Addr) (cap : Nat) (l : List Dn) (m s n : Int) (w : World) (h : DRd w w.heap.size A l) (hn : l.length ≤ 1000) :
    Calls Try.prog 19 #[.slice A l.length cap, .int .i64 m, .int .i64 s, .int .i64 n] w fun e w' => e = .returned (.tuple #[.int .i64 (finT l m s n), .int .i64 (finErr l s n)]) ∧ Below w.heap.size w w' := by
  have H := Lib.hid h
  clear h
  by_cases hc : chk l = 0
  · by_cases hr : s < 0 ∨ 1073741824 < s ∨ n < 0 ∨ 1073741824 < n
    · have HE := Lib.hid (finErr_range hc hr)
      have HT := Lib.hid (finT_bad (m := m) (show finErr l s n ≠ 0 from by rw [HE.out]; omega))
      have HC := Lib.hid hc
      clear hc
      go_enter Try.func19, Try.ntmps19
      go_wp2_with fail
      ((with_reducible refine (check_any A cap l _ H.out hn).mono ?_); rintro e w1 ⟨rfl, hb1⟩)
      rw [HC.out]
      by_cases h1 : s < 0 ∨ 1073741824 < s
      · go_wp2
        all_goals
          go_ret2
          exact ⟨ret_two HT.out.symm HE.out.symm, hb1⟩
      · have h2 : 0 ≤ s := by omega
        have h3 : s ≤ 1073741824 := by omega
        clear h1
        go_wp2
        all_goals
          go_ret2
          exact ⟨ret_two HT.out.symm HE.out.symm, hb1⟩
    · have HE := Lib.hid (finErr_mk (n := n) (s := s) hc (by omega) (by omega) (by omega) (by omega))
      have HL := Lib.hid (chk_zero hc).2
      have HC := Lib.hid hc
      clear hc
      have r1 : 0 ≤ s := by omega
      have r2 : s ≤ 1073741824 := by omega
      have r3 : 0 ≤ n := by omega
      have r4 : n ≤ 1073741824 := by omega
      clear hr
      go_enter Try.func19, Try.ntmps19
      go_wp2_with fail
      ((with_reducible refine (check_any A cap l _ H.out hn).mono ?_); rintro e w1 ⟨rfl, hb1⟩)
      have hsz1 := hb1.size
      have HR1 := Lib.hid ((H.out.below hb1).more hsz1)
      rw [HC.out]
      go_wp2_with fail
      ((with_reducible refine (stops_any A cap l m s 1073741824 _ HR1.out hn).mono ?_); rintro e w2 ⟨⟨A1, cap1, J, hST, hJl, rfl, hrd⟩, hb2⟩)
      have HR := Lib.hid hrd
      have HF := Lib.hid (finT_eq HE.out (work_ok (fun t ht => up_late HL.out m t ht) J s n r3 hST))
      have HS := Lib.hid (stops_len hST)
      have hb3 : Below w.heap.size w w2 := hb1.trans (hb2.mono (by omega))
      have hsz3 := hb3.size
      clear hrd hST
      go_wp2_with fail
      go_loopw [11, 12, 14, 40] (fun t x _ i wr => ∃ (k : Nat) (u left : Int), k ≤ J.length ∧ i = .int .i64 k ∧ t = .int .i64 u ∧ x = .int .i64 left ∧ 0 ≤ u ∧ u ≤ 1073741824 ∧ 0 ≤ left ∧ left ≤ 1073741824 + k * 1073741824 ∧ work (J.drop k) u left = finT l m s n ∧ Below w2.heap.size w2 wr) (fun _ _ _ i _ => J.length - (intOf i).toNat)
      case atStart => exact ⟨0, s, n, Nat.zero_le _, rfl, rfl, rfl, r1, r2, r3, by omega, HF.out, Below.refl _ _⟩
      case round =>
        obtain ⟨k, u, left, hk, rfl, rfl, rfl, g1, g2, g3, g4, hW, hb⟩ := hrel
        have hsz := hb.size
        have HW := Lib.hid hW
        clear hW
        by_cases hlt : k < J.length
        · obtain ⟨b, off, x, rfl, hB, hd, c0, c1⟩ := HR.out.at_ hb hlt
          have hs := HS.out x (List.mem_of_getElem? hd)
          have HT := Lib.hid (work_take hd u left)
          clear hd
          by_cases hle : left ≤ x.a - u
          · have HT' : Hid (u + left = finT l m s n) := by have := HT.out; rw [if_pos hle, HW.out] at this; exact this.symm
            go_wp2
            go_ret2
            exact ⟨ret_two HT'.out HE.out.symm, hb3.trans ((hb.alloc hsz _).mono (by omega))⟩
          · have HT' : Hid (work (J.drop (k + 1)) x.b (left - (x.a - u)) = finT l m s n) := by have := HT.out; rw [if_neg hle, HW.out] at this; exact this.symm
            go_wp2
            go_roundw
            case rel => exact ⟨k + 1, x.b, _, by omega, by go_num, rfl, rfl, by omega, by omega, by omega, by omega, HT'.out, hb.alloc hsz _⟩
            case measure => simp [intOf]; omega
        · have HT' : Hid (u + left = finT l m s n) := by have := HW.out; rw [List.drop_eq_nil_of_le (by omega)] at this; exact this
          go_wp2
          go_ret2
          exact ⟨ret_two HT'.out HE.out.symm, hb3.trans (hb.mono (by omega))⟩
  · have HE := Lib.hid (finErr_chk (s := s) (n := n) hc)
    have HT := Lib.hid (finT_bad (m := m) (show finErr l s n ≠ 0 from by rw [HE.out]; exact hc))
    have hcb : (chk l != 0) = true := by simpa using hc
    clear hc
    go_enter Try.func19, Try.ntmps19
    go_wp2_with fail
    ((with_reducible refine (check_any A cap l _ H.out hn).mono ?_); rintro e w1 ⟨rfl, hb1⟩)
    go_wp2
    go_ret2
    exact ⟨ret_two HT.out.symm HE.out.symm, hb1⟩
end Go.Proofs.Ytelgkangojmhdaa.M
