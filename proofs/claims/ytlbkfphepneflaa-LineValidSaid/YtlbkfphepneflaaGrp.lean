/- Slices of slices of ints: one that came in or goes from call to call, and one that a call makes and fills by append. -/
import Derived.Test.YtlbkfphepneflaaFirst
namespace Go.Proofs.Ytlbkfphepneflaa
open Go.RowKit

/-- The slice at A reads as the lists ll; all of it lies below block B. -/
def SRd (w : World) (B : Nat) (A : Option Addr) (ll : List (List Int)) : Prop :=
  ll ≠ [] → ∃ b off, A = some ⟨b, off, none⟩ ∧ b < B ∧ ∀ i q, ll[i]? = some q → ∃ A' c', w.cell? ⟨b, off + i, none⟩ = some (.slice A' q.length c') ∧ q.length ≤ c' ∧ IRd w B A' q
theorem SRd.below {w w' : World} {B : Nat} {A : Option Addr} {ll : List (List Int)} (h : SRd w B A ll) (hb : Below B w w') : SRd w' B A ll := by
  intro hl
  obtain ⟨b, off, e, hB, hc⟩ := h hl
  refine ⟨b, off, e, hB, fun i q hq => ?_⟩
  obtain ⟨A', c', h1, h2, h3⟩ := hc i q hq
  exact ⟨A', c', (hb.cell (p := ⟨b, _, none⟩) hB).trans h1, h2, h3.below hb⟩
theorem SRd.more {w : World} {B B' : Nat} {A : Option Addr} {ll : List (List Int)} (h : SRd w B A ll) (hB : B ≤ B') : SRd w B' A ll := by
  intro hl
  obtain ⟨b, off, e, hb, hc⟩ := h hl
  refine ⟨b, off, e, by omega, fun i q hq => ?_⟩
  obtain ⟨A', c', h1, h2, h3⟩ := hc i q hq
  exact ⟨A', c', h1, h2, h3.more hB⟩
theorem SRd.at_ {w w' : World} {B : Nat} {A : Option Addr} {ll : List (List Int)} (h : SRd w B A ll) (hb : Below B w w') {k : Nat} (hk : k < ll.length) :
    ∃ b off q A' c', A = some ⟨b, off, none⟩ ∧ b < B ∧ ll[k]? = some q ∧ w'.cell? ⟨b, off + k, none⟩ = some (.slice A' q.length c') ∧ q.length ≤ c' ∧ IRd w' B A' q := by
  obtain ⟨b, off, e, hB, hc⟩ := (h.below hb) (by intro e; subst e; simp at hk)
  have hd : ll[k]? = some ll[k] := List.getElem?_eq_getElem hk
  obtain ⟨A', c', h1, h2, h3⟩ := hc k _ hd
  exact ⟨b, off, ll[k], A', c', e, hB, hd, h1, h2, h3⟩

def cellsL (q : List Int) : List Value := q.map (Value.int .i64)
/-- Block bs is K slices; slice s owns a row that holds f s; the rows lie from block base on, apart. -/
def Grps (w : World) (base bs K : Nat) (f : Nat → List Int) : Prop :=
  ∃ vs : List Value, vs.length = K ∧ w.heap[bs]? = some (.cells vs.toArray 35 (0, 0)) ∧
    (∀ (s : Nat) (v : Value), vs[s]? = some v → w.ownsRow base 3 1 v (f s).length (cellsL (f s))) ∧
    ∀ (s t : Nat) (v u : Value), s ≠ t → vs[s]? = some v → vs[t]? = some u → v.ownBlock = none ∨ v.ownBlock ≠ u.ownBlock
theorem grownBy_drew {w w' : World} {row : Option Nat} (h : w.grownBy w' row) : w.grownBy w'.drew row := ⟨h.os, h.tape, h.output, h.size, h.block⟩
theorem Grps.lt {w : World} {base bs K : Nat} {f : Nat → List Int} (h : Grps w base bs K f) : bs < w.heap.size := by
  obtain ⟨vs, _, h2, _⟩ := h
  by_cases hb : bs < w.heap.size
  · exact hb
  · rw [Array.getElem?_eq_none (by omega)] at h2; cases h2
/-- Slice s, as it is read and written. -/
theorem Grps.at_ {w : World} {base bs K : Nat} {f : Nat → List Int} (h : Grps w base bs K f) {s : Nat} (hs : s < K) :
    ∃ v, w.cell? ⟨bs, s, none⟩ = some v ∧ w.frozen? ⟨bs, s, none⟩ = false ∧ w.ownsRow base 3 1 v (f s).length (cellsL (f s)) := by
  obtain ⟨vs, h1, h2, h3, _⟩ := h
  have hv : vs[s]? = some vs[s] := List.getElem?_eq_getElem (by omega)
  refine ⟨vs[s], ?_, by simp [World.frozen?, h2], h3 s _ hv⟩
  have : w.cell? ⟨bs, s, none⟩ = vs.toArray[s]? := by simp [World.cell?, h2]
  rw [this]; simp
theorem Grps.kept {w w' : World} {base bs K : Nat} {f : Nat → List Int} {row : Option Nat} (h : Grps w base bs K f) (_hbs : bs < base) (hg : w.grownBy w' row) (hr : ∀ k, row = some k → k < base ∧ k ≠ bs) : Grps w' base bs K f := by
  have hlt := h.lt
  obtain ⟨vs, h1, h2, h3, h4⟩ := h
  refine ⟨vs, h1, (hg.block bs hlt (fun e => (hr bs e.symm).2 rfl)).trans h2, fun s v hv => (h3 s v hv).kept hg ?_, h4⟩
  by_cases e : v.ownBlock = none
  · exact .inl e
  · refine .inr fun e' => ?_
    obtain ⟨k, hk⟩ : ∃ k, v.ownBlock = some k := by
      cases ho : v.ownBlock with
      | none => exact absurd ho e
      | some k => exact ⟨k, rfl⟩
    have := (h3 s v hv).lt k hk
    have := hr k (e'.symm.trans hk)
    omega
theorem Grps.below {w w' : World} {base bs K : Nat} {f : Nat → List Int} (h : Grps w base bs K f) (hbs : bs < base) (hb : Below w.heap.size w w') : Grps w' base bs K f :=
  h.kept (row := none) hbs ⟨hb.os, hb.tape, hb.output, hb.size, fun k hk _ => hb.block k hk⟩ (fun k hk => by cases hk)
theorem Grps.put {w : World} {base bs K b i : Nat} {f : Nat → List Int} (h : Grps w base bs K f) (hbs : bs < base) (hb : b < base) (hne : b ≠ bs) (u : Value) : Grps (w.setCell ⟨b, i, none⟩ u) base bs K f :=
  h.kept (row := some b) hbs ⟨rfl, rfl, rfl, by simp [World.setCell], fun k _ hk => Below.heap_setCell w _ u k (fun e => hk (by rw [e]))⟩ (fun k hk => by cases hk; exact ⟨hb, hne⟩)
/-- One number more in slice s. -/
theorem Grps.step {w w0 w1 : World} {base bs K s H g cap : Nat} {f : Nat → List Int} {x : Int} {v : Value} (h : Grps w base bs K f) (hbs : bs < base) (hs : s < K) (hv : w.cell? ⟨bs, s, none⟩ = some v)
    (hg0 : w.grownBy w0 none) (hH : w0.heap.size = H) (hg : w0.grownBy w1 v.ownBlock) (hown : w1.ownsRow base 3 1 (.slice (some ⟨g, 0, none⟩) ((f s).length + 1) cap) ((f s).length + 1) (cellsL (f s) ++ [.int .i64 x]))
    (hat : v.ownBlock = some g ∨ g = H) :
    Grps (w1.setCell ⟨bs, s, none⟩ (.slice (some ⟨g, 0, none⟩) ((f s).length + 1) cap)) base bs K (fun t => if t = s then f s ++ [x] else f t) := by
  have hlt := h.lt
  obtain ⟨vs, h1, h2, h3, h4⟩ := h
  have hvs : vs[s]? = some v := by
    have : w.cell? ⟨bs, s, none⟩ = vs.toArray[s]? := by simp [World.cell?, h2]
    rw [this] at hv; simpa using hv
  have hvb : ∀ k, v.ownBlock = some k → base ≤ k ∧ k < w.heap.size := (h3 s v hvs).lt
  have h2' : w1.heap[bs]? = some (.cells vs.toArray 35 (0, 0)) := by
    refine ((hg.block bs (Nat.lt_of_lt_of_le hlt hg0.size) fun e => ?_).trans (hg0.block bs hlt (by simp))).trans h2
    have := (hvb bs e.symm).1
    omega
  refine ⟨vs.set s (.slice (some ⟨g, 0, none⟩) ((f s).length + 1) cap), by rw [List.length_set]; exact h1, ?_, ?_, ?_⟩
  · have : vs.toArray.setIfInBounds s (.slice (some ⟨g, 0, none⟩) ((f s).length + 1) cap) = (vs.set s (.slice (some ⟨g, 0, none⟩) ((f s).length + 1) cap)).toArray := by simp
    simp [World.setCell, Array.getElem?_modify, h2']
  · intro t u hu
    rw [List.getElem?_set] at hu
    by_cases e : s = t
    · subst e
      rw [if_pos rfl, if_pos (by omega)] at hu
      cases hu
      simp only [if_pos]
      have := ownsRow_setCell_below (a := ⟨bs, s, none⟩) hown (by simpa using hbs) (.slice (some ⟨g, 0, none⟩) ((f s).length + 1) cap)
      rw [List.length_append]
      unfold cellsL at this ⊢
      rw [List.map_append]
      exact this
    · rw [if_neg e] at hu
      simp only [if_neg (fun e' : t = s => e e'.symm)]
      refine ownsRow_setCell_below (((h3 t u hu).kept hg0 ?_).kept hg ?_) (by simpa using hbs) _
      · exact own_none u
      · exact h4 t s u v (fun e' => e e'.symm) hu hvs
  · intro a b p q hne hp hq
    rw [List.getElem?_set] at hp hq
    by_cases ea : s = a
    · subst ea
      rw [if_pos rfl, if_pos (by omega)] at hp
      cases hp
      rw [if_neg hne] at hq
      refine .inr fun e' => ?_
      have e'' : some g = q.ownBlock := e'
      rcases hat with ha | ha
      · rcases h4 s b v q hne hvs hq with h5 | h5
        · rw [ha] at h5; cases h5
        · exact h5 (ha.trans e'')
      · have := (h3 b q hq).lt g e''.symm
        have := hg0.size
        omega
    · rw [if_neg ea] at hp
      by_cases eb : s = b
      · subst eb
        rw [if_pos rfl, if_pos (by omega)] at hq
        cases hq
        by_cases e0 : p.ownBlock = none
        · exact .inl e0
        refine .inr fun e' => ?_
        have e'' : p.ownBlock = some g := e'
        rcases hat with ha | ha
        · rcases h4 a s p v hne hp hvs with h5 | h5
          · exact e0 h5
          · exact h5 (e''.trans ha.symm)
        · have := (h3 a p hp).lt g e''
          have := hg0.size
          omega
      · rw [if_neg eb] at hq
        exact h4 a b p q hne hp hq
/-- What has been filled, read. -/
theorem Grps.srd {w : World} {base bs K : Nat} {f : Nat → List Int} (h : Grps w base bs K f) : SRd w w.heap.size (some ⟨bs, 0, none⟩) ((List.range K).map f) := by
  intro _
  refine ⟨bs, 0, rfl, h.lt, fun i q hq => ?_⟩
  have hi : i < K := by
    have := (List.getElem?_eq_some_iff.1 hq).1
    simpa using this
  rw [List.getElem?_map, List.getElem?_range hi] at hq
  cases hq
  obtain ⟨v, hv, _, hown⟩ := h.at_ hi
  obtain ⟨A', c', rfl⟩ := own_any hown
  refine ⟨A', c', by rw [Nat.zero_add]; exact hv, ?_, ?_⟩
  · rcases hown.2 with ⟨_, h0⟩ | ⟨g, cap, cur, e, _, _, hle, _⟩
    · omega
    · cases e; exact hle
  · intro hl
    obtain ⟨g, cap, e, _, hlt⟩ := hown.form (by rcases Nat.eq_zero_or_pos (f i).length with h0 | h0; exact absurd (List.eq_nil_of_length_eq_zero h0) hl; exact h0)
    have hA : A' = some ⟨g, 0, none⟩ := by injection e
    subst hA
    refine ⟨g, 0, rfl, hlt, fun j y hy => ?_⟩
    have := hown.cells (g := g) rfl j (.int .i64 y) (by unfold cellsL; rw [List.getElem?_map, hy]; rfl)
    rw [add_plain] at this
    exact this
theorem infoInts : (Try.prog.info? 35).map (fun i => (i.zero, i.size, i.bytes)) = some (some (.slice none 0 0), 1, 24) := by kernel_rfl
def nilCells (n : Nat) : Array Value := (List.replicate n (Value.slice none 0 0)).toArray
theorem madeNils (n : Nat) : madeCells (Value.cells (.slice none 0 0)) n = nilCells n := by
  have : Value.cells (.slice none 0 0) = #[.slice none 0 0] := rfl
  rw [this]
  unfold madeCells nilCells
  apply Array.ext
  · simp
  · intro i h1 h2
    simp [Nat.mod_one]
theorem mkRows (n : Nat) (h : n ≤ 1000000) (w : World) :
    (Instr.makeSlice 28 (.int .i64 (n : Int)) (.int .i64 (n : Int))).run Try.prog w = .ok (.slice (some ⟨w.heap.size, 0, none⟩) n n) (w.alloc (.cells (nilCells n) 35)) := by
  obtain ⟨i0, hi0, hz0, hz1, hz2⟩ := info_parts infoInts
  have := run_make (P := Try.prog) w 28 35 i0 _ Try.underlying28 hi0 hz0 .i64 .i64 (n : Int) (n : Int) (by omega) (by omega) (by rw [hz2]; omega) (by omega)
  rw [this, hz1, Int.toNat_natCast, Nat.mul_one, madeNils]
theorem Grps.new (w : World) (n : Nat) : Grps (w.alloc (.cells (nilCells n) 35)) (w.heap.size + 1) w.heap.size n (fun _ => []) := by
  refine ⟨List.replicate n (.slice none 0 0), by simp, ?_, ?_, ?_⟩
  · show (w.heap.push _)[w.heap.size]? = _
    simp [nilCells]
  · intro s v hv
    rw [List.getElem?_replicate] at hv
    split at hv
    · cases hv; exact World.ownsRow_nil _ _ _ _
    · cases hv
  · intro s t v u _ hv _
    rw [List.getElem?_replicate] at hv
    split at hv
    · cases hv; exact .inl rfl
    · cases hv
end Go.Proofs.Ytlbkfphepneflaa
