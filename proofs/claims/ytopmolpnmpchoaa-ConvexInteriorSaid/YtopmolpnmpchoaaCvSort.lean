/- slices.SortFunc as convex.hull calls it: the row of spots is permuted and sorted; nothing else that lay in memory is changed. Rows of spots that a call owns. -/
import Derived.Test.YtopmolpnmpchoaaCv2
import Derived.Test.YtopmolpnmpchoaaShelf
import Derived.Shelf.SlSortCmp.NoneTotal
import Derived.WalkSmall
import Derived.Deep.AppendLies
import Derived.Laws.OwnMore
namespace Go.Proofs.Ytopmolpnmpchoaa
open Go.RowKit Go.Shelf Go.Sort

def encP (s : Pt) : List Value := [.int .i64 s.x, .int .i64 s.y]
def pCells (l : List Pt) : List Value := l.flatMap encP
theorem pCells_snoc (l : List Pt) (s : Pt) : pCells (l ++ [s]) = pCells l ++ [.int .i64 s.x, .int .i64 s.y] := by simp [pCells, encP]
theorem pCells_app (l m : List Pt) : pCells (l ++ m) = pCells l ++ pCells m := by simp [pCells]
theorem pCells_cons (l : List Pt) (s : Pt) : pCells (s :: l) = [.int .i64 s.x, .int .i64 s.y] ++ pCells l := rfl
theorem pCells_len (l : List Pt) : (pCells l).length = l.length * 2 := by
  induction l with
  | nil => rfl
  | cons s l ih => rw [pCells_cons, List.length_append, ih]; simp; omega
theorem pCells_at (l : List Pt) : ∀ (i : Nat) (s : Pt), l[i]? = some s → (pCells l)[i * 2]? = some (.int .i64 s.x) ∧ (pCells l)[i * 2 + 1]? = some (.int .i64 s.y) := by
  induction l with
  | nil => intro i s h; simp at h
  | cons x l ih =>
    intro i s h
    cases i with
    | zero => simp at h; subst h; simp [pCells_cons]
    | succ i =>
      obtain ⟨h1, h2⟩ := ih i s (by simpa using h)
      rw [pCells_cons]
      refine ⟨?_, ?_⟩
      · rw [List.getElem?_append_right (by simp; omega)]; simpa [show (i + 1) * 2 - 2 = i * 2 from by omega] using h1
      · rw [List.getElem?_append_right (by simp; omega)]; simpa [show (i + 1) * 2 + 1 - 2 = i * 2 + 1 from by omega] using h2
theorem pCells_one (l : List Pt) : ∀ u ∈ pCells l, u.oneCell' = true := by
  intro u hu
  simp only [pCells, List.mem_flatMap, encP] at hu
  obtain ⟨s, _, hu⟩ := hu
  simp at hu
  rcases hu with rfl | rfl <;> rfl
theorem pCells_get (l : List Pt) (P : Nat → Value → Prop) (h : ∀ i s, l[i]? = some s → P (i * 2) (.int .i64 s.x) ∧ P (i * 2 + 1) (.int .i64 s.y)) : ∀ j u, (pCells l)[j]? = some u → P j u := by
  intro j u hu
  have hj : j < l.length * 2 := by
    have := (List.getElem?_eq_some_iff.1 hu).1; rwa [pCells_len] at this
  have hq : j / 2 < l.length := by omega
  have hget : l[j / 2]? = some l[j / 2] := List.getElem?_eq_getElem hq
  obtain ⟨h1, h2⟩ := pCells_at l (j / 2) _ hget
  obtain ⟨k1, k2⟩ := h (j / 2) _ hget
  rcases Nat.mod_two_eq_zero_or_one j with hm | hm
  · rw [show j / 2 * 2 = j from by omega] at h1 k1; rw [h1] at hu; cases hu; exact k1
  · rw [show j / 2 * 2 + 1 = j from by omega] at h2 k2; rw [h2] at hu; cases hu; exact k2

theorem add_plain (g o j : Nat) : (⟨g, o, none⟩ : Addr).add j = ⟨g, o + j, none⟩ := by
  unfold Addr.add; split
  · rename_i h; subst h; rfl
  · rfl
theorem PRd.news {w : World} {B : Nat} {A : Option Addr} {l : List Pt} (h : PRd w B A l) : ∀ ad, A = some ad → ∀ j u, (pCells l)[j]? = some u → w.cell? (ad.add j) = some u := by
  intro ad hA
  by_cases hl : l = []
  · subst hl; intro j u hu; simp [pCells] at hu
  · obtain ⟨b, off, e, _, hc⟩ := h hl
    rw [hA] at e
    cases e
    refine pCells_get l _ fun i s hs => ?_
    obtain ⟨c0, c1⟩ := hc i s hs
    rw [add_plain, add_plain]
    exact ⟨c0, by rw [← Nat.add_assoc]; exact c1⟩
theorem PRd.none_len {w : World} {B : Nat} {A : Option Addr} {l : List Pt} (h : PRd w B A l) (e : A = none) : l.length = 0 := by
  by_cases hl : l = []
  · simp [hl]
  · obtain ⟨b, off, e', _⟩ := h hl
    rw [e] at e'
    cases e'
theorem PRd.of_own {w : World} {base e : Nat} {l : List Pt} {A : Option Addr} {n c : Nat} (h : w.ownsRow base e 2 (.slice A n c) l.length (pCells l)) : PRd w w.heap.size A l := by
  intro hl
  have hpos : 0 < l.length := List.length_pos_iff.2 hl
  obtain ⟨g, cap, hv, _, hlt⟩ := h.form hpos
  have hA : A = some ⟨g, 0, none⟩ := by injection hv
  subst hA
  obtain ⟨hc⟩ : Nonempty (∀ j u, (pCells l)[j]? = some u → w.cell? ((⟨g, 0, none⟩ : Addr).add j) = some u) := ⟨h.cells (g := g) rfl⟩
  refine ⟨g, 0, rfl, hlt, fun i s hs => ?_⟩
  obtain ⟨h1, h2⟩ := pCells_at l i s hs
  have a1 := hc _ _ h1
  have a2 := hc _ _ h2
  rw [add_plain] at a1 a2
  exact ⟨a1, a2⟩
theorem own_slice {w : World} {base e size n : Nat} {v : Value} {xs : List Value} (h : w.ownsRow base e size v n xs) : ∃ A c, v = .slice A n c ∧ n ≤ c ∧ (A = none → c = 0) := by
  rcases h.2 with ⟨rfl, rfl⟩ | ⟨g, cap, cur, rfl, _, _, hc, _⟩
  · exact ⟨_, _, rfl, Nat.le_refl _, fun _ => rfl⟩
  · exact ⟨_, _, rfl, hc, fun h => by cases h⟩
/-- A row again, after its cells have turned. -/
theorem own_again {w w' : World} {base e g n m cap : Nat} {xs ys : List Value} {cur : Array Value} (h : w.ownsRow base e 2 (.slice (some ⟨g, 0, none⟩) n cap) n xs) (hm : m ≤ n)
    (hblk : w'.heap[g]? = some (.cells cur e (0, 0))) (hsz : cur.size = cap * 2) (hys : ys.length = m * 2) (hc : ∀ j u, ys[j]? = some u → w'.cell? ⟨g, j, none⟩ = some u) :
    w'.ownsRow base e 2 (.slice (some ⟨g, 0, none⟩) m cap) m ys := by
  rcases h.2 with ⟨e1, _⟩ | ⟨g', cap', cur0, e1, hb, hg, hnc, hcm, hcs, htake⟩
  · cases e1
  · cases e1
    refine ⟨hys, .inr ⟨g, cap, cur, rfl, hb, hblk, by omega, hcm, hsz, ?_⟩⟩
    apply List.ext_getElem?
    intro j
    by_cases hj : j < m * 2
    · rw [List.getElem?_take, if_pos hj]
      have hy : ys[j]? = some ys[j] := List.getElem?_eq_getElem (by omega)
      have := hc j _ hy
      rw [hy, ← this]
      simp [World.cell?, hblk]
    · rw [List.getElem?_eq_none (by simp; omega), List.getElem?_eq_none (by omega)]
theorem own_block {w : World} {base e g n cap : Nat} {xs : List Value} (h : w.ownsRow base e 2 (.slice (some ⟨g, 0, none⟩) n cap) n xs) : ∃ cur, w.heap[g]? = some (.cells cur e (0, 0)) ∧ cur.size = cap * 2 ∧ base ≤ g ∧ n ≤ cap ∧ cap ≤ maxLen := by
  rcases h.2 with ⟨e1, _⟩ | ⟨g', cap', cur0, e1, hb, hg, hnc, hcm, hcs, htake⟩
  · cases e1
  · cases e1
    exact ⟨cur0, hg, hcs, hb, hnc, hcm⟩

theorem cfPt_lt (x y : Pt) : ltOf cfPt x y = decide (Less x y) := by
  have key : cfPt x y < 0 ↔ Less x y := by
    unfold cfPt orI cmpI Less
    rcases Int.lt_trichotomy x.x y.x with h | h | h
    · rw [if_pos h]; simp; omega
    · rw [if_neg (show ¬ x.x < y.x by omega), if_neg (show ¬ y.x < x.x by omega), if_pos rfl]
      rcases Int.lt_trichotomy x.y y.y with h' | h' | h'
      · rw [if_pos h']; simp; omega
      · rw [if_neg (show ¬ x.y < y.y by omega), if_neg (show ¬ y.y < x.y by omega)]; simp; omega
      · rw [if_neg (show ¬ x.y < y.y by omega), if_pos h']; simp; omega
    · rw [if_neg (show ¬ x.x < y.x by omega), if_pos h]; simp; omega
  unfold ltOf
  by_cases h : Less x y
  · rw [decide_eq_true h, decide_eq_true (key.2 h)]
  · rw [decide_eq_false h, decide_eq_false (fun e => h (key.1 e))]
theorem swoPt : SWO (ltOf cfPt) :=
  ⟨fun x => by rw [cfPt_lt]; simp [Less],
   fun x y z h1 h2 => by
    rw [cfPt_lt] at *
    have a := of_decide_eq_true h1
    have b := of_decide_eq_true h2
    exact decide_eq_true (by unfold Less at *; omega),
   fun x y z h1 h2 => by
    rw [cfPt_lt] at *
    have a := of_decide_eq_false h1
    have b := of_decide_eq_false h2
    exact decide_eq_false (by unfold Less at *; omega)⟩
instance : Inhabited Pt := ⟨⟨0, 0⟩⟩
theorem compare_grow (x y : Pt) (W : World) : Calls Try.prog 43 #[.agg #[.int .i64 x.x, .int .i64 x.y], .agg #[.int .i64 y.x, .int .i64 y.y]] W fun e w' => e = .returned (.int .i64 (cfPt x y)) ∧ ∃ q os', w' = grow (W.drewN q) os' := by
  refine (compare_any x y W).mono ?_
  rintro e w' ⟨rfl, a, b, c, q, rfl⟩
  exact ⟨rfl, q, #[a] ++ #[b] ++ #[c], by rw [← grow_grow, ← grow_grow, ← alloc_eq_grow, ← alloc_eq_grow, ← alloc_eq_grow]; rfl⟩
theorem holds_of_own {w : World} {base e g cap : Nat} {l : List Pt} (h : w.ownsRow base e 2 (.slice (some ⟨g, 0, none⟩) l.length cap) l.length (pCells l)) : HoldsK encP 2 w g 0 l.toArray := by
  intro j hj
  rw [size_flatK] at hj
  have hj' : j < l.length * 2 := by simpa using hj
  rw [get_flatK _ _ _ _ hj]
  have hq : j / 2 < l.length := by omega
  have hget : l[j / 2]? = some l[j / 2] := List.getElem?_eq_getElem hq
  obtain ⟨h1, h2⟩ := pCells_at l (j / 2) _ hget
  have hx : l.toArray[j / 2]! = l[j / 2] := by simp [hq]
  rw [hx, Nat.zero_add]
  refine ⟨?_, h.frozenAt j⟩
  rw [h.cellAt j hj']
  rcases Nat.mod_two_eq_zero_or_one j with hm | hm
  · rw [hm]; rw [show j / 2 * 2 = j from by omega] at h1; rw [h1]; rfl
  · rw [hm]; rw [show j / 2 * 2 + 1 = j from by omega] at h2; rw [h2]; rfl
theorem perm_of_permIn {d d' : Array Pt} (h : PermIn 0 d.size d d') : d'.toList.Perm d.toList := by
  obtain ⟨h1, _, h3⟩ := h
  rw [← h1] at h3
  have e1 : d'.extract 0 d'.size = d' := by simp
  have e2 : d.extract 0 d'.size = d := by rw [h1]; simp
  rwa [e1, e2] at h3
theorem sorted_of_sortedIn {d : Array Pt} {n : Nat} (hn : d.size = n) (h : SortedIn (ltOf cfPt) 0 n d) : d.toList.Pairwise fun x y => ¬ Less y x := by
  subst hn
  rw [List.pairwise_iff_getElem]
  intro i j hi hj hij
  have hi' : i < d.size := by simpa using hi
  have hj' : j < d.size := by simpa using hj
  have := h i j (Nat.zero_le _) hij hj'
  rw [cfPt_lt] at this
  simp only [getElem!_pos d i hi', getElem!_pos d j hj'] at this
  simp only [Array.getElem_toList]
  exact of_decide_eq_false this
theorem below_sortWorld {B : Nat} {w : World} {blk off n : Nat} {d : Array Pt} {os : Array Obj} (hB : B ≤ blk) (hblk : blk < w.heap.size) : Below B w (sortWorldK encP 2 w blk off n d os) := by
  unfold sortWorldK putRowK putRow
  refine ⟨rfl, rfl, rfl, ?_, fun i hi => ?_⟩
  · simp [grow, mapBlock, Sort.ahead]
  · simp only [grow, mapBlock, Sort.ahead]
    rw [Array.getElem?_append_left (by simp; omega), Array.getElem?_modify, if_neg (by omega)]
theorem sort_any (base : Nat) (l : List Pt) (A : Option Addr) (cap : Nat) (w : World) (hown : w.ownsRow base 31 2 (.slice A l.length cap) l.length (pCells l)) (hn : l.length ≤ 1000000) :
    Calls Try.prog 42 #[.slice A l.length cap, .func (.func 43) #[] #[]] w fun e w' => e = .returned (.tuple #[]) ∧ (∃ l' : List Pt, l'.Perm l ∧ l'.Pairwise (fun x y => ¬ Less y x) ∧ w'.ownsRow base 31 2 (.slice A l.length cap) l.length (pCells l')) ∧ Below base w w' := by
  by_cases hl : l = []
  · subst hl
    refine (AnyF.slices_SortFunc_none Try.sortPt A cap _ w).mono ?_
    rintro e w' ⟨rfl, rfl⟩
    exact ⟨rfl, ⟨[], List.Perm.refl _, List.Pairwise.nil, hown⟩, Below.refl _ _⟩
  · have hpos : 0 < l.length := List.length_pos_iff.2 hl
    obtain ⟨g, cap', hv, hbase, hlt⟩ := hown.form hpos
    have hA : A = some ⟨g, 0, none⟩ := by injection hv
    subst hA
    have hH := holds_of_own hown
    have eg : ∀ args w, (callFunc 43 args).run Try.prog w = .ok (.enter 43 args) w := enters_of Try.func43 (by kernel_rfl) rfl
    have hcon := AnyQ.slices_SortFunc Try.sortPt 2 Try.isAgg31 Try.sizeOf31 encP (fun _ => rfl) (fun x v hv => by simp [encP] at hv; rcases hv with rfl | rfl <;> rfl) cfPt swoPt 43 #[] g 0 cap l.toArray w eg
      (fun _ _ _ _ x y => compare_grow x y _) hH hlt (by simp; omega)
    simp only [List.size_toArray] at hcon
    refine Calls.mono hcon ?_
    rintro e w' ⟨rfl, d', n, os, hp, hs, rfl⟩
    have hsz : d'.size = l.length := by have := hp.1; simpa using this
    refine ⟨rfl, ⟨d'.toList, by simpa using perm_of_permIn (d := l.toArray) (by simpa using hp), sorted_of_sortedIn hsz hs, ?_⟩, below_sortWorld hbase hlt⟩
    have hK : HoldsK encP 2 (sortWorldK encP 2 w g 0 n d' os) g 0 d' := by
      unfold sortWorldK
      have hlt' : g < (putRowK encP 2 (Sort.ahead w n) g 0 d').heap.size := by
        unfold putRowK; rw [size_putRow]; exact hlt
      refine holdsK_grow _ _ _ _ _ _ _ hlt' ?_
      exact holdsK_putRowK _ _ _ _ _ l.toArray d' (holdsK_ahead _ _ _ _ _ _ _ hH) (by simpa using hsz)
    obtain ⟨cur, hg, hcs, _, hnc, _⟩ := own_block hown
    refine own_again (cur := putCells id 0 (flatK encP 2 d') cur) hown (Nat.le_refl _) ?_ ?_ (by rw [pCells_len]; simp [hsz]) ?_
    · unfold sortWorldK putRowK putRow
      simp only [grow, mapBlock, Sort.ahead]
      rw [Array.getElem?_append_left (by simp; omega), Array.getElem?_modify, if_pos rfl, hg]
      rfl
    · rw [← hcs]; simp [putCells]
    · refine pCells_get _ _ fun i s hs => ?_
      have hi : i < d'.size := by
        have := (List.getElem?_eq_some_iff.1 hs).1; simpa using this
      have hsv : d'[i]! = s := by
        rw [getElem!_pos d' i hi]; have := (List.getElem?_eq_some_iff.1 hs).2; simpa using this
      have h0 := (hK.cell hi (c := 0) (by omega)).1
      have h1 := (hK.cell hi (c := 1) (by omega)).1
      rw [hsv] at h0 h1
      simp only [Nat.zero_add] at h0 h1
      exact ⟨h0, h1⟩
end Go.Proofs.Ytopmolpnmpchoaa
