/- Stops as cells; a list of stops in front of which one is put. -/
import Derived.Test.YtoacjdfhmoljpaaMachLaw2
import Derived.Test.YtoacjdfhmoljpaaAppend
import Derived.Deep.AppendLies
namespace Go.Proofs.Ytoacjdfhmoljpaa
open Go.RowKit

def encDn (d : Dn) : List Value := [.int .i64 d.m, .int .i64 d.f, .int .i64 d.t]
def dnCells (l : List Dn) : List Value := l.flatMap encDn
theorem dnCells_cons (l : List Dn) (d : Dn) : dnCells (d :: l) = [.int .i64 d.m, .int .i64 d.f, .int .i64 d.t] ++ dnCells l := rfl
theorem dnCells_snoc (l : List Dn) (d : Dn) : dnCells (l ++ [d]) = dnCells l ++ [.int .i64 d.m, .int .i64 d.f, .int .i64 d.t] := by simp [dnCells, encDn]
theorem dnCells_len (l : List Dn) : (dnCells l).length = l.length * 3 := by
  induction l with
  | nil => rfl
  | cons s l ih => rw [dnCells_cons, List.length_append, ih]; simp; omega
theorem dnCells_at (l : List Dn) : ∀ (i : Nat) (d : Dn), l[i]? = some d → (dnCells l)[i * 3]? = some (.int .i64 d.m) ∧ (dnCells l)[i * 3 + 1]? = some (.int .i64 d.f) ∧ (dnCells l)[i * 3 + 2]? = some (.int .i64 d.t) := by
  induction l with
  | nil => intro i s h; simp at h
  | cons x l ih =>
    intro i s h
    cases i with
    | zero => simp at h; subst h; simp [dnCells_cons]
    | succ i =>
      obtain ⟨h1, h2, h3⟩ := ih i s (by simpa using h)
      rw [dnCells_cons]
      refine ⟨?_, ?_, ?_⟩
      · rw [List.getElem?_append_right (by simp; omega)]; simpa [show (i + 1) * 3 - 3 = i * 3 from by omega] using h1
      · rw [List.getElem?_append_right (by simp; omega)]; simpa [show (i + 1) * 3 + 1 - 3 = i * 3 + 1 from by omega] using h2
      · rw [List.getElem?_append_right (by simp; omega)]; simpa [show (i + 1) * 3 + 2 - 3 = i * 3 + 2 from by omega] using h3
theorem dnCells_one (l : List Dn) : ∀ u ∈ dnCells l, u.oneCell' = true := by
  intro u hu
  simp only [dnCells, List.mem_flatMap, encDn] at hu
  obtain ⟨s, _, hu⟩ := hu
  simp at hu
  rcases hu with rfl | rfl | rfl <;> rfl
theorem DRd.of_own {w : World} {base e : Nat} {l : List Dn} {A : Option Addr} {n c : Nat} (h : w.ownsRow base e 3 (.slice A n c) l.length (dnCells l)) : DRd w w.heap.size A l := by
  intro hl
  have hpos : 0 < l.length := List.length_pos_iff.2 hl
  obtain ⟨g, cap, hv, _, hlt⟩ := h.form hpos
  have hA : A = some ⟨g, 0, none⟩ := by injection hv
  subst hA
  have hc : ∀ j u, (dnCells l)[j]? = some u → w.cell? ((⟨g, 0, none⟩ : Addr).add j) = some u := h.cells (g := g) rfl
  refine ⟨g, 0, rfl, hlt, fun i s hs => ?_⟩
  obtain ⟨h1, h2, h3⟩ := dnCells_at l i s hs
  have a1 := hc _ _ h1
  have a2 := hc _ _ h2
  have a3 := hc _ _ h3
  rw [add_plain] at a1 a2 a3
  rw [Nat.zero_add] at a1 a2 a3 ⊢
  exact ⟨a1, a2, a3⟩
theorem DRd.news {w : World} {B : Nat} {A : Option Addr} {l : List Dn} (h : DRd w B A l) : ∀ ad, A = some ad → ∀ j u, (dnCells l)[j]? = some u → w.cell? (ad.add j) = some u := by
  intro ad hA j u hu
  have hj : j < l.length * 3 := by
    have := (List.getElem?_eq_some_iff.1 hu).1; rwa [dnCells_len] at this
  have hq : j / 3 < l.length := by omega
  obtain ⟨b, off, e, _, hc⟩ := h (by intro e; subst e; simp at hq)
  rw [hA] at e
  cases e
  have hget : l[j / 3]? = some l[j / 3] := List.getElem?_eq_getElem hq
  obtain ⟨c0, c1, c2⟩ := hc (j / 3) _ hget
  obtain ⟨d0, d1, d2⟩ := dnCells_at l (j / 3) _ hget
  rw [add_plain]
  have hm : j % 3 = 0 ∨ j % 3 = 1 ∨ j % 3 = 2 := by omega
  rcases hm with hm | hm | hm
  · rw [show j / 3 * 3 = j from by omega] at c0 d0; rw [hu] at d0; cases d0; exact c0
  · rw [show off + j / 3 * 3 + 1 = off + j from by omega] at c1; rw [show j / 3 * 3 + 1 = j from by omega] at d1; rw [hu] at d1; cases d1; exact c1
  · rw [show off + j / 3 * 3 + 2 = off + j from by omega] at c2; rw [show j / 3 * 3 + 2 = j from by omega] at d2; rw [hu] at d2; cases d2; exact c2
theorem DRd.none_len {w : World} {B : Nat} {A : Option Addr} {l : List Dn} (h : DRd w B A l) (e : A = none) : l.length = 0 := by
  by_cases hl : l = []
  · simp [hl]
  · obtain ⟨b, off, e', _⟩ := h hl
    rw [e] at e'
    cases e'
theorem infoDown : (Try.prog.info? 36).map (fun i => (i.zero, i.size, i.bytes)) = some (some (.agg #[.int .i64 0, .int .i64 0, .int .i64 0]), 3, 24) := by kernel_rfl
theorem own_one (w : World) (d : Dn) {base : Nat} (hb : base ≤ w.heap.size) (T : TypeId) : (w.alloc (.cells #[.int .i64 d.m, .int .i64 d.f, .int .i64 d.t] T)).ownsRow base T 3 (.slice (some ⟨w.heap.size, 0, none⟩) 1 1) 1 [.int .i64 d.m, .int .i64 d.f, .int .i64 d.t] :=
  World.ownsRow_lit w #[.int .i64 d.m, .int .i64 d.f, .int .i64 d.t] 1 hb (by unfold maxLen; omega) rfl
theorem down_slice {w : World} {base e size n : Nat} {v : Value} {xs : List Value} (h : w.ownsRow base e size v n xs) : ∃ A c, v = .slice A n c := by
  rcases h.2 with ⟨rfl, rfl⟩ | ⟨g, cap, cur, rfl, _⟩
  · exact ⟨_, _, rfl⟩
  · exact ⟨_, _, rfl⟩

theorem chk_tail {d : Dn} {l : List Dn} (h : chk (d :: l) = 0) : chk l = 0 := by
  obtain ⟨h1, h2⟩ := chk_zero h
  exact chk_mk (by simp at h1; omega) fun x hx => h2 x (by simp [hx])
theorem isUp_tail {d : Dn} {l : List Dn} {m t : Int} (h : isUp (d :: l) m t = true) : isUp l m t = true := by
  rw [isUp_true] at h ⊢
  exact fun x hx => h x (by simp [hx])
/-- What a list that was put together of one stop and the others is good for. -/
theorem app_done {W0 W1 w' : World} {B : Nat} {d : Dn} {l : List Dn} {v v' : Value} (T : TypeId) (hB : B ≤ W1.heap.size)
    (hv : W1.ownsRow B T 3 v 1 [.int .i64 d.m, .int .i64 d.f, .int .i64 d.t]) (hb : Below B W0 W1)
    (hown : w'.ownsRow B T 3 v' (1 + l.length) ([.int .i64 d.m, .int .i64 d.f, .int .i64 d.t] ++ dnCells l)) (hg : W1.grownBy w' v.ownBlock) :
    (∃ A c, v' = .slice A (d :: l).length c ∧ DRd w' w'.heap.size A (d :: l)) ∧ Below B W0 w' := by
  have e : 1 + l.length = (d :: l).length := by simp [Nat.add_comm]
  rw [e, ← dnCells_cons] at hown
  obtain ⟨A, c, rfl⟩ := down_slice hown
  exact ⟨⟨A, c, rfl, DRd.of_own hown⟩, own_grow_below hv hb (Nat.le_refl _) hB hg⟩
end Go.Proofs.Ytoacjdfhmoljpaa
