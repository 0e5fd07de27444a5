/- slices.SortFunc as machine.stops calls it: the row of spans is permuted and sorted by its beginnings; nothing else that lay in memory is changed. -/
import Derived.Test.YtoacjdfhmoljpaaMach1
import Derived.Test.YtoacjdfhmoljpaaShelf
import Derived.Shelf.SlSortCmp.NoneTotal
import Derived.WalkSmall
import Derived.Deep.AppendLies
namespace Go.Proofs.Ytoacjdfhmoljpaa
open Go.RowKit Go.Shelf Go.Sort

def encSp (s : Sp) : List Value := [.int .i64 s.a, .int .i64 s.b]
def spCells (l : List Sp) : List Value := l.flatMap encSp
theorem spCells_snoc (l : List Sp) (s : Sp) : spCells (l ++ [s]) = spCells l ++ [.int .i64 s.a, .int .i64 s.b] := by simp [spCells, encSp]
theorem spCells_cons (l : List Sp) (s : Sp) : spCells (s :: l) = [.int .i64 s.a, .int .i64 s.b] ++ spCells l := rfl
theorem spCells_len (l : List Sp) : (spCells l).length = l.length * 2 := by
  induction l with
  | nil => rfl
  | cons s l ih => rw [spCells_cons, List.length_append, ih]; simp; omega
theorem spCells_at (l : List Sp) : ∀ (i : Nat) (s : Sp), l[i]? = some s → (spCells l)[i * 2]? = some (.int .i64 s.a) ∧ (spCells l)[i * 2 + 1]? = some (.int .i64 s.b) := by
  induction l with
  | nil => intro i s h; simp at h
  | cons x l ih =>
    intro i s h
    cases i with
    | zero => simp at h; subst h; simp [spCells_cons]
    | succ i =>
      obtain ⟨h1, h2⟩ := ih i s (by simpa using h)
      rw [spCells_cons]
      refine ⟨?_, ?_⟩
      · rw [List.getElem?_append_right (by simp; omega)]; simpa [show (i + 1) * 2 - 2 = i * 2 from by omega] using h1
      · rw [List.getElem?_append_right (by simp; omega)]; simpa [show (i + 1) * 2 + 1 - 2 = i * 2 + 1 from by omega] using h2
theorem spCells_one (l : List Sp) : ∀ u ∈ spCells l, u.oneCell' = true := by
  intro u hu
  simp only [spCells, List.mem_flatMap, encSp] at hu
  obtain ⟨s, _, hu⟩ := hu
  simp at hu
  rcases hu with rfl | rfl <;> rfl

theorem add_plain (g o j : Nat) : (⟨g, o, none⟩ : Addr).add j = ⟨g, o + j, none⟩ := by
  unfold Addr.add; split
  · rename_i h; subst h; rfl
  · rfl
/-- The slice at A reads as the spans l; it lies below block B. -/
def SRd (w : World) (B : Nat) (A : Option Addr) (l : List Sp) : Prop :=
  l ≠ [] → ∃ b off, A = some ⟨b, off, none⟩ ∧ b < B ∧ ∀ i s, l[i]? = some s →
    w.cell? ⟨b, off + i * 2, none⟩ = some (.int .i64 s.a) ∧ w.cell? ⟨b, off + i * 2 + 1, none⟩ = some (.int .i64 s.b)
theorem SRd.below {w w' : World} {B : Nat} {A : Option Addr} {l : List Sp} (h : SRd w B A l) (hb : Below B w w') : SRd w' B A l := by
  intro hl
  obtain ⟨b, off, e, hB, hc⟩ := h hl
  refine ⟨b, off, e, hB, fun i d hd => ?_⟩
  obtain ⟨c0, c1⟩ := hc i d hd
  exact ⟨(hb.cell (p := ⟨b, _, none⟩) hB).trans c0, (hb.cell (p := ⟨b, _, none⟩) hB).trans c1⟩
theorem SRd.more {w : World} {B B' : Nat} {A : Option Addr} {l : List Sp} (h : SRd w B A l) (hB : B ≤ B') : SRd w B' A l := by
  intro hl
  obtain ⟨b, off, e, hb, hc⟩ := h hl
  exact ⟨b, off, e, by omega, hc⟩
theorem SRd.at_ {w w' : World} {B : Nat} {A : Option Addr} {l : List Sp} (h : SRd w B A l) (hb : Below B w w') {k : Nat} (hk : k < l.length) :
    ∃ b off s, A = some ⟨b, off, none⟩ ∧ b < B ∧ l[k]? = some s ∧ w'.cell? ⟨b, off + k * 2, none⟩ = some (.int .i64 s.a) ∧ w'.cell? ⟨b, off + k * 2 + 1, none⟩ = some (.int .i64 s.b) := by
  obtain ⟨b, off, e, hB, hc⟩ := (h.below hb) (by intro e; subst e; simp at hk)
  have hd : l[k]? = some l[k] := List.getElem?_eq_getElem hk
  obtain ⟨c0, c1⟩ := hc k _ hd
  exact ⟨b, off, l[k], e, hB, hd, c0, c1⟩
theorem SRd.of_own {w : World} {base e : Nat} {l : List Sp} {A : Option Addr} {n c : Nat} (h : w.ownsRow base e 2 (.slice A n c) l.length (spCells l)) : SRd w w.heap.size A l := by
  intro hl
  have hpos : 0 < l.length := List.length_pos_iff.2 hl
  obtain ⟨g, cap, hv, _, hlt⟩ := h.form hpos
  have hA : A = some ⟨g, 0, none⟩ := by injection hv
  subst hA
  obtain ⟨hc⟩ : Nonempty (∀ j u, (spCells l)[j]? = some u → w.cell? ((⟨g, 0, none⟩ : Addr).add j) = some u) := ⟨h.cells (g := g) rfl⟩
  refine ⟨g, 0, rfl, hlt, fun i s hs => ?_⟩
  obtain ⟨h1, h2⟩ := spCells_at l i s hs
  have a1 := hc _ _ h1
  have a2 := hc _ _ h2
  rw [add_plain] at a1 a2
  exact ⟨a1, a2⟩

def cmpI (x y : Int) : Int := if x < y then -1 else if y < x then 1 else 0
set_option maxHeartbeats 1000000 in
theorem cmpCompare_any (x y : Int) (W : World) : Calls Try.prog 26 #[.int .i64 x, .int .i64 y] W fun e w' => e = .returned (.int .i64 (cmpI x y)) ∧ W = w' := by
  rcases Int.lt_trichotomy x y with h | h | h
  · have H := Lib.hid (show cmpI x y = -1 from by unfold cmpI; rw [if_pos h])
    go_enter Try.func26, Try.ntmps26
    go_wp2
    go_ret
    exact ⟨ret_int H.out.symm, rfl⟩
  · subst h
    have H := Lib.hid (show cmpI x x = 0 from by unfold cmpI; rw [if_neg (by omega), if_neg (by omega)])
    go_enter Try.func26, Try.ntmps26
    go_wp2
    go_ret
    exact ⟨ret_int H.out.symm, rfl⟩
  · have H := Lib.hid (show cmpI x y = 1 from by unfold cmpI; rw [if_neg (by omega), if_pos h])
    have h' : ¬ x < y := by omega
    go_enter Try.func26, Try.ntmps26
    go_wp2
    go_ret
    exact ⟨ret_int H.out.symm, rfl⟩

set_option maxHeartbeats 1000000 in
theorem spClosure (x y : Sp) (W : World) : Calls Try.prog 25 #[.agg #[.int .i64 x.a, .int .i64 x.b], .agg #[.int .i64 y.a, .int .i64 y.b]] W fun e w' => e = .returned (.int .i64 (cmpI x.a y.a)) ∧ ∃ q os', w' = grow (W.drewN q) os' := by
  go_enter Try.func25, Try.ntmps25
  go_wp2_with (go_at_call 26; refine (cmpCompare_any _ _ _).mono ?_; rintro e w' ⟨rfl, rfl⟩)
  go_ret
  exact ⟨rfl, 0, _, by rw [alloc_eq_grow, alloc_eq_grow, grow_grow]; rfl⟩
def cfSp (x y : Sp) : Int := cmpI x.a y.a
theorem ltSp (x y : Sp) : ltOf cfSp x y = decide (x.a < y.a) := by
  unfold ltOf cfSp cmpI
  by_cases h1 : x.a < y.a
  · simp [h1]
  · by_cases h2 : y.a < x.a <;> simp [h1, h2]
theorem swoSp : SWO (ltOf cfSp) :=
  ⟨fun x => by rw [ltSp]; simp, fun x y z h1 h2 => by rw [ltSp] at *; simp at *; omega, fun x y z h1 h2 => by rw [ltSp] at *; simp at *; omega⟩

instance : Inhabited Sp := ⟨sp0⟩

theorem holds_of_own {w : World} {base e g cap : Nat} {l : List Sp} (h : w.ownsRow base e 2 (.slice (some ⟨g, 0, none⟩) l.length cap) l.length (spCells l)) : HoldsK encSp 2 w g 0 l.toArray := by
  intro j hj
  rw [size_flatK] at hj
  have hj' : j < l.length * 2 := by simpa using hj
  rw [get_flatK _ _ _ _ hj]
  have hq : j / 2 < l.length := by omega
  have hget : l[j / 2]? = some l[j / 2] := List.getElem?_eq_getElem hq
  obtain ⟨h1, h2⟩ := spCells_at l (j / 2) _ hget
  have hx : l.toArray[j / 2]! = l[j / 2] := by simp [hq]
  rw [hx, Nat.zero_add]
  refine ⟨?_, h.frozenAt j⟩
  rw [h.cellAt j hj']
  rcases Nat.mod_two_eq_zero_or_one j with hm | hm
  · rw [hm]; rw [show j / 2 * 2 = j from by omega] at h1; rw [h1]; rfl
  · rw [hm]; rw [show j / 2 * 2 + 1 = j from by omega] at h2; rw [h2]; rfl

theorem perm_of_permIn {d d' : Array Sp} (h : PermIn 0 d.size d d') : d'.toList.Perm d.toList := by
  obtain ⟨h1, _, h3⟩ := h
  rw [← h1] at h3
  have e1 : d'.extract 0 d'.size = d' := by simp
  have e2 : d.extract 0 d'.size = d := by rw [h1]; simp
  rwa [e1, e2] at h3
theorem sorted_of_sortedIn {d : Array Sp} {n : Nat} (hn : d.size = n) (h : SortedIn (ltOf cfSp) 0 n d) : d.toList.Pairwise fun x y => x.a ≤ y.a := by
  subst hn
  rw [List.pairwise_iff_getElem]
  intro i j hi hj hij
  have hi' : i < d.size := by simpa using hi
  have hj' : j < d.size := by simpa using hj
  have := h i j (Nat.zero_le _) hij hj'
  rw [ltSp] at this
  simp only [getElem!_pos d i hi', getElem!_pos d j hj'] at this
  simp only [Array.getElem_toList]
  have := of_decide_eq_false this
  omega

theorem below_sortWorld {B : Nat} {w : World} {blk off n : Nat} {d : Array Sp} {os : Array Obj} (hB : B ≤ blk) (hblk : blk < w.heap.size) : Below B w (sortWorldK encSp 2 w blk off n d os) := by
  unfold sortWorldK putRowK putRow
  refine ⟨rfl, rfl, rfl, ?_, fun i hi => ?_⟩
  · simp [grow, mapBlock, Sort.ahead]
  · simp only [grow, mapBlock, Sort.ahead]
    rw [Array.getElem?_append_left (by simp; omega), Array.getElem?_modify, if_neg (by omega)]

theorem sort_any (base : Nat) (l : List Sp) (A : Option Addr) (cap : Nat) (w : World) (hown : w.ownsRow base 42 2 (.slice A l.length cap) l.length (spCells l)) (hn : l.length ≤ 1000) :
    Calls Try.prog 24 #[.slice A l.length cap, .func (.func 25) #[] #[]] w fun e w' => e = .returned (.tuple #[]) ∧ (∃ l' : List Sp, l'.Perm l ∧ l'.Pairwise (fun x y => x.a ≤ y.a) ∧ SRd w' w'.heap.size A l') ∧ Below base w w' := by
  by_cases hl : l = []
  · subst hl
    refine (AnyF.slices_SortFunc_none Try.sortSp A cap _ w).mono ?_
    rintro e w' ⟨rfl, rfl⟩
    exact ⟨rfl, ⟨[], List.Perm.refl _, List.Pairwise.nil, fun h => absurd rfl h⟩, Below.refl _ _⟩
  · have hpos : 0 < l.length := List.length_pos_iff.2 hl
    obtain ⟨g, cap', hv, hbase, hlt⟩ := hown.form hpos
    have hA : A = some ⟨g, 0, none⟩ := by injection hv
    subst hA
    have hH := holds_of_own hown
    have eg : ∀ args w, (callFunc 25 args).run Try.prog w = .ok (.enter 25 args) w := enters_of Try.func25 (by kernel_rfl) rfl
    have hcon := AnyQ.slices_SortFunc Try.sortSp 2 Try.isAgg42 Try.sizeOf42 encSp (fun _ => rfl) (fun x v hv => by simp [encSp] at hv; rcases hv with rfl | rfl <;> rfl) cfSp swoSp 25 #[] g 0 cap l.toArray w eg
      (fun _ _ _ _ x y => spClosure x y _) hH hlt (by simp; omega)
    simp only [List.size_toArray] at hcon
    refine Calls.mono hcon ?_
    rintro e w' ⟨rfl, d', n, os, hp, hs, rfl⟩
    have hsz : d'.size = l.length := by have := hp.1; simpa using this
    refine ⟨rfl, ⟨d'.toList, by simpa using perm_of_permIn (d := l.toArray) (by simpa using hp), sorted_of_sortedIn hsz hs, ?_⟩, below_sortWorld hbase hlt⟩
    intro _
    have hK : HoldsK encSp 2 (sortWorldK encSp 2 w g 0 n d' os) g 0 d' := by
      unfold sortWorldK
      have hlt' : g < (putRowK encSp 2 (Sort.ahead w n) g 0 d').heap.size := by
        unfold putRowK; rw [size_putRow]; exact hlt
      refine holdsK_grow _ _ _ _ _ _ _ hlt' ?_
      exact holdsK_putRowK _ _ _ _ _ l.toArray d' (holdsK_ahead _ _ _ _ _ _ _ hH) (by simpa using hsz)
    refine ⟨g, 0, rfl, ?_, fun i s hs => ?_⟩
    · unfold sortWorldK; simp [grow, putRowK, putRow, mapBlock, Sort.ahead]; omega
    · have hi : i < d'.size := by
        have := (List.getElem?_eq_some_iff.1 hs).1; simpa using this
      have hsv : d'[i]! = s := by
        rw [getElem!_pos d' i hi]; have := (List.getElem?_eq_some_iff.1 hs).2; simpa using this
      have h0 := (hK.cell hi (c := 0) (by omega)).1
      have h1 := (hK.cell hi (c := 1) (by omega)).1
      rw [hsv] at h0 h1
      exact ⟨h0, h1⟩
end Go.Proofs.Ytoacjdfhmoljpaa
