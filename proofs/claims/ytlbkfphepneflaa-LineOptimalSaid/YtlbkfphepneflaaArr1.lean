/- Walk of operation.arrange: it returns the least order of the operations, or false. -/
import Derived.Test.YtlbkfphepneflaaArr0
import Derived.Deep.AppendLies
namespace Go.Proofs.Ytlbkfphepneflaa
open Go.RowKit Go.Maps

/-- What is left of the After of operation i when out is done. -/
def remOf (l : List Opn) (i : Nat) (out : List Nat) : List Int := (l.getD i op0).after.reverse.filter fun a => !out.contains a.toNat
/-- The inner maps of the operations below k that are not done. -/
def Inner (w : World) (l : List Opn) (β : Nat → Nat) (B k : Nat) (out : List Nat) : Prop :=
  (∀ i, i < k → B < β i ∧ β i < w.heap.size) ∧ (∀ i j, i < j → j < k → β i < β j) ∧ ∀ i, i < k → i ∉ out → IM rBool w (β i) 1000 (setF (remOf l i out))
theorem Inner.kept {w w' : World} {l : List Opn} {β : Nat → Nat} {B k : Nat} {out : List Nat} {row : Option Nat} (h : Inner w l β B k out) (hg : w.grownBy w' row) (hr : ∀ i, i < k → i ∉ out → some (β i) ≠ row) : Inner w' l β B k out :=
  ⟨fun i hi => ⟨(h.1 i hi).1, Nat.lt_of_lt_of_le (h.1 i hi).2 hg.size⟩, h.2.1, fun i hi ho => (h.2.2 i hi ho).kept hg (hr i hi ho)⟩
theorem Inner.alloc {w : World} {l : List Opn} {β : Nat → Nat} {B k : Nat} {out : List Nat} (h : Inner w l β B k out) (o : Obj) : Inner (w.alloc o) l β B k out :=
  h.kept (World.grownBy_alloc w o none) (fun i _ _ => by simp)

theorem add_plain (g o j : Nat) : (⟨g, o, none⟩ : Addr).add j = ⟨g, o + j, none⟩ := by
  unfold Addr.add; split
  · rename_i h; subst h; rfl
  · rfl
theorem far_cell {w w' : World} {b g p : Nat} (hg : w.grownBy w' (some b)) (hlt : g < w.heap.size) (hne : g ≠ b) : w'.cell? ⟨g, p, none⟩ = w.cell? ⟨g, p, none⟩ :=
  World.cell?_of_block (hg.block g hlt fun e => hne (by injection e))
theorem afterCell (w : World) (o : Opn) (Aa Au : Option Addr) (ca cu : Nat) (T : TypeId) (ob : Obj) :
    ((w.alloc (.cells #[.string o.name, .int .i64 o.mach, .int .i64 o.mins, .slice Aa o.after.length ca, .slice Au o.uses.length cu] T)).alloc ob).cell? ⟨w.heap.size, 3, none⟩ = some (.slice Aa o.after.length ca) := by
  rw [World.cell?_alloc_lt _ _ _ (by simp)]; simp [go_sem]

theorem inner_add {w : World} {l : List Opn} {β : Nat → Nat} {B k n : Nat} {S : List Int} (h : Inner w l β B k []) (hc : ∀ i, i < k → β i < n) (hB : B < n + 1) (hlt : n + 1 < w.heap.size) (hm : IM rBool w (n + 1) 1000 (setF S)) (hS : S = remOf l k []) :
    Inner w l (fun j => if j = k then n + 1 else β j) B (k + 1) [] := by
  refine ⟨fun i hi => ?_, fun i j hij hj => ?_, fun i hi ho => ?_⟩
  · by_cases e : i = k
    · subst e; simp only [↓reduceIte]; exact ⟨hB, hlt⟩
    · simp only [if_neg e]; exact h.1 i (by omega)
  · by_cases e : j = k
    · subst e; simp only [↓reduceIte, if_neg (show i ≠ j by omega)]; have := hc i hij; omega
    · simp only [if_neg e, if_neg (show i ≠ k by omega)]; exact h.2.1 i j hij (by omega)
  · by_cases e : i = k
    · subst e; simp only [↓reduceIte]; rw [← hS]; exact hm
    · simp only [if_neg e]; exact h.2.2 i (by omega) ho

def sliceLen : Value → Nat
  | .slice _ n _ => n
  | _ => 0
theorem own_any {w : World} {base e size n : Nat} {v : Value} {xs : List Value} (h : w.ownsRow base e size v n xs) : ∃ A c, v = .slice A n c := by
  rcases h.2 with ⟨rfl, rfl⟩ | ⟨g, cap, cur, rfl, _⟩
  · exact ⟨_, _, rfl⟩
  · exact ⟨_, _, rfl⟩
def natCells (out : List Nat) : List Value := out.map fun (i : Nat) => Value.int .i64 (i : Int)
theorem Upto.all {l : List Opn} {out : List Nat} (h : Upto l out) (hl : out.length = l.length) : ((List.range l.length).filter fun i => !out.contains i) = [] := by
  rw [List.filter_eq_nil_iff]
  intro i hi
  have hs : out ⊆ List.range l.length := fun i hi => List.mem_range.2 (h.2.1 i hi)
  by_cases hc : i ∈ out
  · simp [hc]
  · exfalso
    have hn : (i :: out).Nodup := List.nodup_cons.2 ⟨hc, h.1⟩
    have hs' : (i :: out) ⊆ List.range l.length := by
      intro x hx
      rcases List.mem_cons.1 hx with rfl | hx
      · exact hi
      · exact hs hx
    have := List.Nodup.length_le_of_subset hn hs'
    simp at this
    omega
theorem Upto.notAll {l : List Opn} {out : List Nat} (h : Upto l out) (hl : out.length ≠ l.length) : ((List.range l.length).filter fun i => !out.contains i) ≠ [] := by
  intro he
  rw [List.filter_eq_nil_iff] at he
  have hs : List.range l.length ⊆ out := fun i hi => by have := he i hi; simpa using this
  have := List.Nodup.length_le_of_subset List.nodup_range hs
  have := h.le
  simp at *
  omega
theorem ird_own {w : World} {base e n c : Nat} {out : List Nat} {A : Option Addr} (h : w.ownsRow base e 1 (.slice A n c) out.length (natCells out)) : IRd w w.heap.size A (out.map Int.ofNat) := by
  intro hl
  have hpos : 0 < out.length := by
    rcases Nat.eq_zero_or_pos out.length with h0 | h0
    · exact absurd (by rw [List.eq_nil_of_length_eq_zero h0]; rfl) hl
    · exact h0
  obtain ⟨g, cap, hv, _, hlt⟩ := h.form hpos
  have hA : A = some ⟨g, 0, none⟩ := by injection hv
  subst hA
  have hc : ∀ j u, (natCells out)[j]? = some u → w.cell? ((⟨g, 0, none⟩ : Addr).add j) = some u := h.cells (g := g) rfl
  refine ⟨g, 0, rfl, hlt, fun i x hx => ?_⟩
  have hx' : (natCells out)[i]? = some (.int .i64 x) := by
    unfold natCells
    rw [List.getElem?_map] at hx ⊢
    cases ho : out[i]? with
    | none => rw [ho] at hx; cases hx
    | some y => rw [ho] at hx; cases hx; rfl
  have := hc i _ hx'
  rw [add_plain] at this
  exact this
theorem ready_done {l : List Opn} {out : List Nat} {i : Nat} (h : i ∈ out) : readyB l out i = false := by
  unfold readyB; simp [h]
theorem ready_yes {l : List Opn} {out : List Nat} {i : Nat} (h : i ∉ out) (hr : remOf l i out = []) : readyB l out i = true := by
  unfold remOf at hr
  rw [List.filter_eq_nil_iff] at hr
  unfold readyB
  simp only [Bool.and_eq_true, List.all_eq_true]
  exact ⟨by simp [h], fun a ha => by have := hr a (by simpa using ha); simpa using this⟩
theorem ready_no {l : List Opn} {out : List Nat} {i : Nat} (hr : remOf l i out ≠ []) : readyB l out i = false := by
  cases hb : readyB l out i with
  | false => rfl
  | true =>
    exfalso
    apply hr
    unfold readyB at hb
    simp only [Bool.and_eq_true, List.all_eq_true] at hb
    unfold remOf
    rw [List.filter_eq_nil_iff]
    intro a ha
    have := hb.2 a (by simpa using ha)
    simpa using this
theorem upto_succ {p : Nat → Bool} {q : Nat} (h : ∀ i, i < q → p i = false) (hq : p q = false) : ∀ i, i < q + 1 → p i = false := by
  intro i hi
  by_cases e : i = q
  · subst e; exact hq
  · exact h i (by omega)
theorem infoInt : (Try.prog.info? 3).map (fun i => (i.zero, i.size, i.bytes)) = some (some (.int .i64 0), 1, 8) := by kernel_rfl
theorem invK (key : Value) (kl : Lit) (h : keyOf Try.prog 3 key = some kl) : ∃ x, key = Value.int .i64 x := by
  obtain ⟨x, rfl, _⟩ := Maps.keyOf_int_inv Try.underlying3 h; exact ⟨x, rfl⟩
theorem invV (v : Value) (y : DataW Unit × List MemPlace) (h : rMap v = some y) : ∃ c, v = Value.map c := rMap_inv h
theorem dom_snoc (n : Nat) (out : List Nat) (q : Nat) (i : Nat) : i ∈ ((List.range n).filter fun i => !(out ++ [q]).contains i) ↔ i ∈ (((List.range n).filter fun i => !out.contains i).filter (· ≠ q)) := by
  simp only [List.mem_filter, List.mem_range]
  by_cases hq : i = q
  · subst hq; simp
  · by_cases ho : i ∈ out <;> simp [hq, ho]
theorem own_none (v : Value) : v.ownBlock = none ∨ v.ownBlock ≠ none := by
  cases v.ownBlock with
  | none => exact .inl rfl
  | some x => exact .inr (by simp)
theorem own_map {R : Value → Option (DataW Unit × List MemPlace)} {w : World} {base e size n b M : Nat} {v : Value} {xs : List Value} {f : Int → Option (DataW Unit)} (h : w.ownsRow base e size v n xs) (hm : IM R w b M f) : v.ownBlock = none ∨ v.ownBlock ≠ some b := by
  rcases h.2 with ⟨rfl, _⟩ | ⟨g, cap, cur, rfl, _, hh, _⟩
  · exact .inl rfl
  · refine .inr ?_
    intro he
    have hgb : g = b := by simpa [Value.ownBlock] using he
    subst hgb
    obtain ⟨n, D, _, ⟨es, cl, hb, _⟩, _⟩ := hm
    rw [hh] at hb
    cases hb
/-- The inner maps while the range runs: those still to come are as they were, the others without q. -/
def InnerR (w : World) (l : List Opn) (β : Nat → Nat) (B k : Nat) (out : List Nat) (q : Nat) (left : Lit → Bool) : Prop :=
  (∀ i, i < k → B < β i ∧ β i < w.heap.size) ∧ (∀ i j, i < j → j < k → β i < β j) ∧ ∀ i, i < k → i ∉ out → i ≠ q → IM rBool w (β i) 1000 (setF (if left (ik i) = true then remOf l i out else remOf l i (out ++ [q])))
theorem innerR_start {w w1 w2 : World} {l : List Opn} {β : Nat → Nat} {B q : Nat} {out : List Nat} {D : DataW Unit} (h : Inner w l β B l.length out) (hg1 : w.grownBy w1 (some B)) (hg2 : w1.grownBy w2 none)
    (hV : View D (outF β (((List.range l.length).filter fun i => !out.contains i).filter (· ≠ q)))) : InnerR w2 l β B l.length out q (Maps.has D) := by
  have h1 := (h.kept hg1 (fun i hi _ => by have := (h.1 i hi).1; simp; omega)).kept hg2 (fun i _ _ => by simp)
  refine ⟨h1.1, h1.2.1, fun i hi ho hq => ?_⟩
  have hd : i ∈ (((List.range l.length).filter fun i => !out.contains i).filter (· ≠ q)) := by simp [hi, ho, hq]
  rw [hV.2.1, outF_at β hd]
  simpa using h1.2.2 i hi ho
theorem remOf_snoc (l : List Opn) (i q : Nat) (out : List Nat) (hnn : ∀ a ∈ (l.getD i op0).after, 0 ≤ a) : (remOf l i out).filter (· ≠ (q : Int)) = remOf l i (out ++ [q]) := by
  unfold remOf
  rw [List.filter_filter]
  apply List.filter_congr
  intro a ha
  have h0 := hnn a (by simpa using ha)
  have hiff : a = (q : Int) ↔ a.toNat = q := by omega
  by_cases hq : a.toNat = q
  · have hq' := hiff.2 hq
    simp [hq']
  · have hq' : ¬ a = (q : Int) := fun e => hq (hiff.1 e)
    simp [hq, hq']
theorem innerR_end {w : World} {l : List Opn} {β : Nat → Nat} {B k q : Nat} {out : List Nat} {left : Lit → Bool} (h : InnerR w l β B k out q left) (hl : ∀ kl, left kl = false) : Inner w l β B k (out ++ [q]) := by
  refine ⟨h.1, h.2.1, fun i hi ho => ?_⟩
  have := h.2.2 i hi (fun hh => ho (by simp [hh])) (fun hh => ho (by simp [hh]))
  rw [hl] at this
  simpa using this
theorem entry_is {D : DataW Unit} {β : Nat → Nat} {dom : List Nat} {x : Int} {c : Option Nat} {kl : Lit} {y : DataW Unit × List MemPlace} (hV : View D (outF β dom)) (hkey : keyOf Try.prog 3 (.int .i64 x) = some kl) (hv : rMap (.map c) = some y) (hat : ∀ zd, D.atKey kl zd = y.1) :
    ∃ i, i ∈ dom ∧ x = (i : Int) ∧ c = some (β i) ∧ kl = ik i := by
  obtain ⟨x', e, rfl, _⟩ := Maps.keyOf_int_inv Try.underlying3 hkey
  cases e
  have h1 := fun zd => (hV.2.2.1 x zd).symm.trans (hat zd)
  cases ho : outF β dom x with
  | none =>
    exfalso
    have a := h1 (.lit (.bool true))
    have b := h1 (.lit (.bool false))
    rw [ho] at a b
    simp at a b
    rw [← a] at b
    simp at b
  | some d =>
    have a := h1 (.lit (.bool true))
    rw [ho] at a
    simp at a
    have hx : 0 ≤ x ∧ x.toNat ∈ dom := by
      unfold outF at ho
      by_cases hc : 0 ≤ x ∧ x.toNat ∈ dom
      · exact hc
      · rw [if_neg hc] at ho; cases ho
    refine ⟨x.toNat, hx.2, by omega, ?_, ?_⟩
    · unfold outF at ho
      rw [if_pos hx] at ho
      cases ho
      have hy : y = (.lit (.int .i64 (β x.toNat)), y.2) := by rw [a]
      rw [hy] at hv
      have := rMap_at (c := β x.toNat) hv
      cases this
      rfl
    · show Lit.int .i64 x = Lit.int .i64 (x.toNat : Int)
      rw [show ((x.toNat : Nat) : Int) = x from by omega]
theorem getD_mem {l : List Opn} {i : Nat} (h : i < l.length) : l.getD i op0 ∈ l := by
  rw [List.getD_eq_getElem?_getD, List.getElem?_eq_getElem h]; exact List.getElem_mem h
theorem ik_same {i j : Nat} : (ik (j : Int)).sameKey (ik (i : Int)) = decide (j = i) := by
  unfold ik Lit.sameKey
  rw [Bool.eq_iff_iff]
  simp
  omega
theorem innerR_step {w w3 w4 : World} {l : List Opn} {β : Nat → Nat} {B k q i r : Nat} {out : List Nat} {left : Lit → Bool} (h : InnerR w l β B k out q left) (hg3 : w.grownBy w3 (some r)) (hg4 : w3.grownBy w4 (some (β i))) (hi : i < k) (hr : ∀ j, j < k → β j < r)
    (hm : IM rBool w4 (β i) 1000 (setF (remOf l i (out ++ [q])))) : InnerR w4 l β B k out q (fun z => left z && !z.sameKey (ik i)) := by
  refine ⟨fun j hj => ⟨(h.1 j hj).1, ?_⟩, h.2.1, fun j hj ho hq => ?_⟩
  · have := (h.1 j hj).2; have := hg3.size; have := hg4.size; omega
  · show IM rBool w4 (β j) 1000 (setF (if (left (ik j) && !(ik (j : Int)).sameKey (ik (i : Int))) = true then remOf l j out else remOf l j (out ++ [q])))
    rw [ik_same]
    by_cases e : j = i
    · subst e; simpa using hm
    · have h1 := ((h.2.2 j hj ho hq).kept hg3 (by have := hr j hj; simp; omega)).kept hg4 (by
        have : β j ≠ β i := by
          rcases Nat.lt_or_gt_of_ne e with hlt | hgt
          · have := h.2.1 j i hlt hi; omega
          · have := h.2.1 i j hgt hj; omega
        simp [this])
      simpa [e] using h1
theorem own_iter {R : Value → Option (DataW Unit × List MemPlace)} {w : World} {base e size n b r m cnt : Nat} {k : TypeId} {v : Value} {xs : List Value} {D : DataW Unit} {left : Lit → Bool} (h : w.ownsRow base e size v n xs) (hm : w.ranges Try.prog k R b r m D left cnt) : v.ownBlock = none ∨ v.ownBlock ≠ some r := by
  rcases h.2 with ⟨rfl, _⟩ | ⟨g, cap, cur, rfl, _, hh, _⟩
  · exact .inl rfl
  · refine .inr ?_
    intro he
    have hgb : g = r := by simpa [Value.ownBlock] using he
    subst hgb
    obtain ⟨_, _, _, _, _, _, _, _, _, hb, _⟩ := hm
    rw [hh] at hb
    cases hb
theorem own_map2 {R R' : Value → Option (DataW Unit × List MemPlace)} {w w3 : World} {base e size n b r m cnt c M : Nat} {k : TypeId} {v : Value} {xs : List Value} {D : DataW Unit} {left : Lit → Bool} {f : Int → Option (DataW Unit)} (h : w.ownsRow base e size v n xs) (hg : w.grownBy w3 (some r)) (hm : w.ranges Try.prog k R b r m D left cnt)
    (hc : IM R' w3 c M f) : v.ownBlock = none ∨ v.ownBlock ≠ some c := own_map (h.kept hg (own_iter h hm)) hc
def ArrPost (l : List Opn) (e : Ending) (w' : World) : Prop :=
  ((order l).length = l.length → ∃ A c, e = .returned (.tuple #[.slice A (order l).length c, .bool true]) ∧ IRd w' w'.heap.size A ((order l).map Int.ofNat)) ∧
  ((order l).length ≠ l.length → e = .returned (.tuple #[.slice none 0 0, .bool false]))

set_option maxRecDepth 100000 in
set_option maxHeartbeats 2000000 in
theorem arrange_any (A : Option Addr) (cap : Nat) (l : List Opn) (w : World) (h : ORd w w.heap.size A l) (hs : OSmall l) (hsd : Sound l) :
    Calls Try.prog 41 #[.slice A l.length cap] w fun e w' => ArrPost l e w' ∧ Below w.heap.size w w' := by
  have H := Lib.hid h
  have HS := Lib.hid hs
  have HSD := Lib.hid hsd
  have hn : l.length ≤ 16 := hsd.len
  clear h hs hsd
  have hmm := @run_makeMap Try.prog
  go_enter Try.func41, Try.ntmps41
  go_wp2
  clear hmm
  go_loopw [5, 6, 8, 18] (fun _ _ _ j wr => ∃ (k : Nat) (β : Nat → Nat), k ≤ l.length ∧ j = .int .i64 k ∧ IM rMap wr w.heap.size k (outF β (List.range k)) ∧ Inner wr l β w.heap.size k [] ∧ Below w.heap.size w wr) (fun _ _ _ j _ => l.length - (intOf j).toNat)
  case atStart => exact ⟨0, fun _ => 0, Nat.zero_le _, rfl, by simpa [outF_nil] using IM.made w rMap, ⟨fun i hi => absurd hi (by omega), fun i j _ hj => absurd hj (by omega), fun i hi => absurd hi (by omega)⟩, (Below.refl _ _).alloc (Nat.le_refl _) _⟩
  case round =>
    obtain ⟨k, β, hk, rfl, hm, hin, hb⟩ := hrel
    have HM := Lib.hid hm
    have HI := Lib.hid hin
    have HB := Lib.hid hb
    have hsz := hb.size
    have hsz' : w.heap.size < wr.heap.size := hm.lt
    clear hm hin hb
    by_cases hlt : k < l.length
    · obtain ⟨b, off, o, rfl, hB, hd, hat⟩ := H.out.at_ (Below.refl _ _) hlt
      obtain ⟨c0', c1', c2', ⟨Aa, ca, c3', a1, a2⟩, ⟨Au, cu, c4', u1, u2⟩⟩ := hat
      have c0 := (HB.out.cell (p := ⟨b, _, none⟩) hB).trans c0'
      have c1 := (HB.out.cell (p := ⟨b, _, none⟩) hB).trans c1'
      have c2 := (HB.out.cell (p := ⟨b, _, none⟩) hB).trans c2'
      have c3 := (HB.out.cell (p := ⟨b, _, none⟩) hB).trans c3'
      have c4 := (HB.out.cell (p := ⟨b, _, none⟩) hB).trans c4'
      clear c0' c1' c2' c3' c4'
      have hso := (HS.out o (List.mem_of_getElem? hd)).2.1
      have HDX := Lib.hid (HSD.out.idx o (List.mem_of_getElem? hd))
      have HD := Lib.hid hd
      have HA := Lib.hid a2
      have hkr : k ∉ List.range k := by simp
      have HKR := Lib.hid hkr
      clear hd a2 u1 u2 hkr
      have hmm := @run_makeMap Try.prog
      go_wp2_with (at_mapUpdate; refine wpList_out_put rfl (.tmp 23) (.tmp 24) (.tmp 25) rfl rfl ((HM.out.alloc _).alloc _) (by omega) rfl (by omega) (c := wr.heap.size + 1) rfl HKR.out ?_; intro w1 hm1 hg1; have f3 := far_cell hg1 (g := wr.heap.size) (p := 3) (by simp; omega) (by omega); rw [afterCell] at f3; have hs1 := hg1.size; simp only [World.size_alloc] at hs1; have hg1' := Lib.hid hg1; have hm1' := Lib.hid hm1; clear hm1 hg1)
      have hmC : IM rBool w1 (wr.heap.size + 1) 0 (setF []) := by
        rw [setF_nil]
        have := IM.made (wr.alloc (.cells #[.string o.name, .int .i64 o.mach, .int .i64 o.mins, .slice Aa o.after.length ca, .slice Au o.uses.length cu] 38)) rBool
        rw [World.size_alloc] at this
        exact this.kept hg1'.out (by simp; omega)
      have hmI : Inner w1 l β w.heap.size k [] := ((HI.out.alloc _).alloc _).kept hg1'.out (fun i hi _ => by have := (HI.out.1 i hi).1; simp; omega)
      have hmB : Below w.heap.size w w1 := below_block ((HB.out.alloc (by omega) _).alloc (by simp; omega) _) hg1'.out (by simp; omega) (Nat.le_refl _)
      have HC1 := Lib.hid hmC
      have HI1 := Lib.hid hmI
      have HB1 := Lib.hid hmB
      clear hmC hmI hmB hmm c0 c1 c2 c3 c4 f3
      obtain ⟨wo, rfl⟩ : ∃ wo : World, wo = wr := ⟨_, rfl⟩
      go_loopw [8, 29] (fun _ j wz => ∃ q : Nat, q ≤ o.after.length ∧ j = .int .i64 q ∧ IM rMap wz w.heap.size (k + 1) (outF (fun j => if j = k then wo.heap.size + 1 else β j) (List.range k ++ [k])) ∧ Inner wz l β w.heap.size k [] ∧ IM rBool wz (wo.heap.size + 1) q (setF (o.after.take q).reverse) ∧ Below w.heap.size w wz) (fun _ j _ => o.after.length - (intOf j).toNat)
      case atStart => exact ⟨0, Nat.zero_le _, rfl, hm1'.out, HI1.out, by simpa using HC1.out, HB1.out⟩
      case round =>
        obtain ⟨q, hq, rfl, hmo, hmi, hmc, hmb⟩ := hrel
        have HO2 := Lib.hid hmo
        have HI2 := Lib.hid hmi
        have HC2 := Lib.hid hmc
        have HB2 := Lib.hid hmb
        have hsz2 := hmb.size
        have hlc := hmc.lt
        clear hmo hmi hmc hmb
        by_cases hlq : q < o.after.length
        · obtain ⟨b2, off2, x, rfl, hB2, hdx, cx⟩ := HA.out.at_ HB2.out hlq
          obtain ⟨x0, x1⟩ := HDX.out x (List.mem_of_getElem? hdx)
          have HS2 := Lib.hid (show x :: (o.after.take q).reverse = (o.after.take (q + 1)).reverse from by rw [List.take_add_one, hdx]; simp)
          have HKD : Hid (k ∈ List.range k ++ [k]) := by show _ ∈ _; simp
          clear hdx
          go_wp2_with (first
            | (at_lookup; refine wpList_out_look rfl (.tmp 33) (.tmp 34) rfl rfl HO2.out rfl (by omega) HKD.out ?_; rw [if_pos rfl])
            | (at_mapUpdate; refine wpList_set_put rfl (.tmp 35) (.tmp 36) _ rfl rfl HC2.out (by omega) rfl rfl (by omega) (by omega) ?_; intro w3 hm3 hg3; have hg3' := Lib.hid hg3; have hm3' := Lib.hid hm3; clear hm3 hg3))
          have HC3 : Hid (IM rBool w3 (wo.heap.size + 1) (q + 1) (setF (o.after.take (q + 1)).reverse)) := by rw [← HS2.out]; exact hm3'.out
          have HO3 := Lib.hid (HO2.out.kept hg3'.out (by simp; omega))
          have HI3 := Lib.hid (HI2.out.kept hg3'.out (fun i hi _ => by have := (HI.out.1 i hi).2; simp; omega))
          have HB3 := Lib.hid (below_block HB2.out hg3'.out hsz2 (by omega))
          go_wp2
          go_roundw
          case rel => exact ⟨q + 1, by omega, by go_num, HO3.out, HI3.out, HC3.out, HB3.out⟩
          case measure => simp [intOf]; omega
        · have hql : q = o.after.length := by omega
          subst hql
          have HIN : Hid (Inner wr l (fun j => if j = k then wo.heap.size + 1 else β j) w.heap.size (k + 1) []) := by
            refine inner_add HI2.out (fun i hi => (HI.out.1 i hi).2) (by omega) hlc (HC2.out.more (by omega)) ?_
            rw [List.take_length]
            unfold remOf
            rw [getD_at HD.out, List.filter_eq_self.2 (fun _ _ => by simp)]
          have HO4 : Hid (IM rMap wr w.heap.size (k + 1) (outF (fun j => if j = k then wo.heap.size + 1 else β j) (List.range (k + 1)))) := by rw [List.range_succ]; exact HO2.out
          go_wp2
          go_roundw
          case rel => exact ⟨k + 1, _, by omega, by go_num, HO4.out, HIN.out, HB2.out⟩
          case measure => simp [intOf]; omega
    · have hkl : k = l.length := by omega
      subst hkl
      obtain ⟨wo, rfl⟩ : ∃ wo : World, wo = wr := ⟨_, rfl⟩
      go_wp2
      go_loopw [9, 10, 11, 12, 14] (fun v _ _ _ _ wr => ∃ out : List Nat, Upto l out ∧ order l = topo l (l.length - out.length) out ∧ wr.ownsRow w.heap.size 3 1 v out.length (natCells out) ∧
          IM rMap wr w.heap.size l.length (outF β ((List.range l.length).filter fun i => !out.contains i)) ∧ Inner wr l β w.heap.size l.length out ∧ Below w.heap.size w wr) (fun v _ _ _ _ _ => l.length - sliceLen v)
      case atStart => exact ⟨[], Upto.nil l, rfl, ⟨by simp [natCells], .inl ⟨rfl, rfl⟩⟩, by rw [List.filter_eq_self.2 (fun _ _ => by simp)]; exact HM.out, HI.out, HB.out⟩
      case round =>
        obtain ⟨out, hup, hord, hown, hmo, hmi, hmb⟩ := hrel
        have HUP := Lib.hid hup
        have HORD := Lib.hid hord
        have HOWN := Lib.hid hown
        have HO := Lib.hid hmo
        have HIN := Lib.hid hmi
        have HBR := Lib.hid hmb
        have hol := hup.le
        have hszr := hmb.size
        clear hup hord hown hmo hmi hmb
        obtain ⟨A9, c9, rfl⟩ := own_any HOWN.out
        by_cases hall : out.length = l.length
        · have HDM := Lib.hid (HUP.out.all hall)
          have HALL := Lib.hid hall
          clear hall
          go_wp2_with (at_len; refine wpList_out_len rfl (.tmp 39) rfl rfl HO.out ?_; intro cnt hcnt; have hc0 : cnt = 0 := hcnt.2 HDM.out; subst hc0; clear hcnt)
          go_ret2
          show ArrPost l (.returned (.tuple #[.slice A9 out.length c9, .bool true])) _ ∧ _
          refine ⟨?_, HBR.out⟩
          have e : order l = out := by rw [HORD.out, HALL.out, Nat.sub_self]; rfl
          unfold ArrPost
          rw [e]
          exact ⟨fun _ => ⟨A9, c9, rfl, ird_own HOWN.out⟩, fun h => absurd HALL.out h⟩
        · have HDM := Lib.hid (HUP.out.notAll hall)
          have HALL := Lib.hid hall
          have hol' : out.length < l.length := by omega
          clear hall
          go_wp2_with (at_len; refine wpList_out_len rfl (.tmp 39) rfl rfl HO.out ?_; intro cnt hcnt; have hc0 : 0 < cnt := Nat.pos_of_ne_zero (fun e => HDM.out (hcnt.1 e)); clear hcnt)
          obtain ⟨wm, rfl⟩ : ∃ wm : World, wm = wr := ⟨_, rfl⟩
          go_loop [10, 11, 12] (fun j _ _ => ∃ q : Nat, q ≤ l.length ∧ j = .int .i64 q ∧ (∀ i, i < q → readyB l out i = false)) (fun j _ _ => l.length - (intOf j).toNat)
          case atStart => exact ⟨0, Nat.zero_le _, rfl, fun i hi => absurd hi (by omega)⟩
          case round =>
            obtain ⟨q, hq, rfl, hnr⟩ := hrel
            have HNR := Lib.hid hnr
            clear hnr
            by_cases hlq : q < l.length
            · by_cases hqo : q ∈ out
              · have hnd : q ∉ ((List.range l.length).filter fun i => !out.contains i) := by simp [hqo]
                have HND := Lib.hid hnd
                have HRD := Lib.hid (ready_done (l := l) hqo)
                clear hnd hqo
                go_wp2_with (at_lookup; refine wpList_out_ok rfl (.tmp 47) (.tmp 48) rfl rfl HO.out rfl (by omega) ?_; rw [if_neg HND.out, decide_eq_false HND.out])
                go_round
                case rel => exact ⟨q + 1, by omega, by go_num, upto_succ HNR.out HRD.out⟩
                case measure => simp [intOf]; omega
              · have hnd : q ∈ ((List.range l.length).filter fun i => !out.contains i) := by simp [hqo, hlq]
                have HND := Lib.hid hnd
                have HQO := Lib.hid hqo
                have HIQ := Lib.hid (HIN.out.2.2 q hlq hqo)
                clear hnd hqo
                by_cases hrem : remOf l q out = []
                · have HRD := Lib.hid (ready_yes HQO.out hrem)
                  have HREM := Lib.hid hrem
                  clear hrem
                  have HPK := Lib.hid (pick_eq hlq HRD.out HNR.out)
                  have HOL : Hid (q < l.length) := hlq
                  go_wp2_with (first
                    | (at_lookup; refine wpList_out_ok rfl (.tmp 47) (.tmp 48) rfl rfl HO.out rfl (by omega) ?_; rw [if_pos HND.out, decide_eq_true HND.out])
                    | (at_len; (refine wpList_set_len_g ?_ (.tmp 54) rfl rfl HIQ.out ?_); (first | rfl | (simp [Region.wanted, yielded]; done)); intro c2 hc2; have hc2' : c2 = 0 := hc2.2 HREM.out; subst hc2'; clear hc2)
                    | (at_delete; refine wpList_out_del rfl (.tmp 64) (.tmp 65) rfl rfl HO.out rfl (by omega) ?_; intro w1 hm1 hg1; obtain ⟨n1, D1, hn1, hown1, hV1⟩ := hm1; have HOWN1 := Lib.hid hown1; have HV1 := Lib.hid hV1; have HG1 := Lib.hid hg1; clear hown1 hV1 hg1)
                    | (at_range; refine wpList_range_own _ rfl (.tmp 66) 61 rfl 3 62 keyInt Try.underlying61 rMap w.heap.size n1 D1 rfl HOWN1.out ?_; intro w2 hrg hg2 hs2; have HRG := Lib.hid hrg; have HG2 := Lib.hid hg2; have HS2 := Lib.hid hs2; clear hrg hg2 hs2))
                  have HIR0 : Hid (InnerR w2 l β w.heap.size l.length out q (Maps.has D1)) := innerR_start HIN.out HG1.out HG2.out HV1.out
                  have HBW0 : Hid (Below w.heap.size w w2) := (below_block HBR.out HG1.out hszr (Nat.le_refl _)).grown HG2.out (by have := HG1.out.size; omega) (fun k hk => by cases hk)
                  have HRO0 : Hid (w2.ownsRow w.heap.size 3 1 (.slice A9 out.length c9) out.length (natCells out)) := (HOWN.out.kept HG1.out (own_map HOWN.out HO.out)).kept HG2.out (own_none _)
                  have hs1 := HG1.out.size
                  have hbr1 : w.heap.size < w1.heap.size := by have := HO.out.lt; omega
                  obtain ⟨r, hr⟩ : ∃ r, r = w1.heap.size := ⟨_, rfl⟩
                  have HR := Lib.hid hr
                  have HRG0 : Hid (w2.ranges Try.prog 3 rMap w.heap.size r n1 D1 (Maps.has D1) (Maps.size D1)) := by rw [HR.out]; exact HRG.out
                  have hrb : w.heap.size < r := by omega
                  have HBR1 : Hid (∀ i, i < l.length → β i < r) := fun i hi => by have := (HIN.out.1 i hi).2; rw [HR.out]; omega
                  rw [← HR.out]
                  clear hr HRG
                  go_loopw [14] (fun _ wz => ∃ left cnt, wz.ranges Try.prog 3 rMap w.heap.size r n1 D1 left cnt ∧ InnerR wz l β w.heap.size l.length out q left ∧ wz.ownsRow w.heap.size 3 1 (.slice A9 out.length c9) out.length (natCells out) ∧ Below w.heap.size w wz) (fun _ wz => wz.rangeLeft w.heap.size r)
                  case atStart => exact ⟨_, _, HRG0.out, HIR0.out, HRO0.out, HBW0.out⟩
                  case round =>
                    obtain ⟨left, cnt, hrg, hir, hro, hbz⟩ := hrel
                    have HRG2 := Lib.hid hrg
                    have HIR2 := Lib.hid hir
                    have HRO2 := Lib.hid hro
                    have HBZ2 := Lib.hid hbz
                    have hszz := hbz.size
                    clear hrg hir hro hbz
                    obtain ⟨i0, hi0, hz0, hz1, hz2⟩ := info_parts infoInt
                    go_wp2_with (at_next; refine wpList_next_ranges _ rfl (.tmp 67) rfl 3 keyInt rMap (Value.int .i64) Value.map invK invV w.heap.size r n1 D1 left cnt rfl HRG2.out ?_ ?_)
                    · intro hc0 hl0
                      have HIF := Lib.hid (innerR_end HIR2.out hl0)
                      clear hc0 hl0
                      go_wp2_with (at_builtin; refine wpList_append_own _ rfl (.tmp 74) (.tmp 76) 35 rfl w.heap.size 3 i0 _ 1 8 Try.underlying35 hi0 hz0 hz1 hz2 rfl (by decide) _ _ _ rfl (HRO2.out.alloc _) ⟨wr.heap.size, 0, none⟩ 1 1 [.int .i64 (q : Int)] rfl rfl ?m1 ?m2 ?m3 ?m4 ?m5 ?_)
                      case m1 => exact cell_one_new _ _ _
                      case m2 => intro u hu; simp at hu; subst hu; rfl
                      case m3 => unfold maxLen; omega
                      case m4 => omega
                      case m5 => simp; omega
                      intro v' w' hown' hgrow _
                      have HO' : Hid (w'.ownsRow w.heap.size 3 1 v' (out ++ [q]).length (natCells (out ++ [q]))) := by
                        show World.ownsRow _ _ _ _ _ _ _
                        rw [List.length_append]; unfold natCells; rw [List.map_append]; exact hown'
                      have HB' : Hid (Below w.heap.size w w') := (HBZ2.out.alloc hszz _).grown hgrow (by simp; omega) (fun g hg => (HRO2.out.lt g hg).1)
                      have HM' : Hid (IM rMap w' w.heap.size l.length (outF β ((List.range l.length).filter fun i => !(out ++ [q]).contains i))) := by
                        have h1 : IM rMap wr w.heap.size l.length (outF β (((List.range l.length).filter fun i => !out.contains i).filter (· ≠ q))) := ⟨n1, D1, hn1, HRG2.out.owns, HV1.out⟩
                        have h2 := (h1.alloc (.cells #[.int .i64 (q : Int)] 3)).kept hgrow (by rcases own_map HRO2.out h1 with h | h <;> rw [ne_comm] <;> first | exact h | (rw [h]; simp))
                        rw [outF_mem (dom' := ((List.range l.length).filter fun i => !out.contains i).filter (· ≠ q)) (dom_snoc l.length out q)]
                        exact h2
                      have HI' : Hid (Inner w' l β w.heap.size l.length (out ++ [q])) := (HIF.out.alloc _).kept hgrow (fun i hi ho => by rcases own_map HRO2.out (HIF.out.2.2 i hi ho) with h | h <;> rw [ne_comm] <;> first | exact h | (rw [h]; simp))
                      have HUP' := Lib.hid (HUP.out.step HPK.out)
                      have HORD' : Hid (order l = topo l (l.length - (out ++ [q]).length) (out ++ [q])) := by
                        show _ = _
                        rw [HORD.out, show l.length - out.length = (l.length - (out ++ [q]).length) + 1 from by simp; omega, topo_step HPK.out]
                      clear hown' hgrow
                      obtain ⟨Av, cv, rfl⟩ := own_any HO'.out
                      go_wp2
                      go_roundw
                      case rel => exact ⟨out ++ [q], HUP'.out, HORD'.out, HO'.out, HM'.out, HI'.out, HB'.out⟩
                      case measure => simp [sliceLen]; omega
                    · intro x c kl y1 y2 w3 cnt3 hkey hlk hv hat hrg3 hlt3 hg3 hs3 hen
                      obtain ⟨i, hi, rfl, rfl, rfl⟩ := entry_is (y := (y1, y2)) HV1.out hkey hv hat
                      have hio : i < l.length ∧ i ≠ q ∧ i ∉ out := by simpa [and_assoc] using hi
                      obtain ⟨il, iq, io⟩ := hio
                      have HIX : Hid (IM rBool w3 (β i) 1000 (setF (remOf l i out))) := by
                        have h1 := HIR2.out.2.2 i il io iq
                        rw [if_pos hlk] at h1
                        exact h1.kept hg3 (by have := HBR1.out i il; simp; omega)
                      have HRG3 := Lib.hid hrg3
                      have HG3 := Lib.hid hg3
                      have HLK := Lib.hid hlk
                      have HS3 := Lib.hid hs3
                      have HIL : Hid (i < l.length ∧ i ∉ out ∧ i ≠ q) := ⟨il, io, iq⟩
                      clear hkey hlk hv hat hrg3 hg3 hs3 hi io iq
                      go_wp2_with (at_delete; refine wpList_set_del rfl (.tmp 72) (.tmp 73) rfl rfl HIX.out rfl (by omega) (by omega) ?_; intro w4 hm4 hg4)
                      have HS4 : Hid (setF ((remOf l i out).filter (· ≠ (q : Int))) = setF (remOf l i (out ++ [q]))) := by
                        show _ = _
                        rw [remOf_snoc l i q out (fun a ha => (HSD.out.idx _ (getD_mem HIL.out.1) a ha).1)]
                      have HIR4 : Hid (InnerR w4 l β w.heap.size l.length out q (fun z => left z && !z.sameKey (ik i))) := innerR_step HIR2.out HG3.out hg4 HIL.out.1 (fun j hj => HBR1.out j hj) (by rw [← HS4.out]; exact hm4)
                      have HRG4 := Lib.hid (HRG3.out.kept hg4 (by have := (HIR2.out.1 i HIL.out.1).1; simp; omega) (by have := HBR1.out i HIL.out.1; simp; omega))
                      have HRO4 := Lib.hid ((HRO2.out.kept HG3.out (own_iter HRO2.out HRG2.out)).kept hg4 (own_map2 HRO2.out HG3.out HRG2.out HIX.out))
                      have HBZ4 := Lib.hid (below_block (below_block HBZ2.out HG3.out hszz (by omega)) hg4 (by rw [HS3.out]; omega) (by have := (HIR2.out.1 i HIL.out.1).1; omega))
                      have HME : Hid (w4.rangeLeft w.heap.size r < wr.rangeLeft w.heap.size r) := by
                        show _ < _
                        rw [HRG4.out.left_eq, HRG2.out.left_eq]; exact hlt3
                      clear hm4 hg4 hlt3
                      go_frame
                      go_roundw
                      case rel => exact ⟨_, _, HRG4.out, HIR4.out, HRO4.out, HBZ4.out⟩
                      case measure => exact HME.out
                · have HRD := Lib.hid (ready_no hrem)
                  have HREM := Lib.hid hrem
                  clear hrem
                  go_wp2_with (first
                    | (at_lookup; refine wpList_out_ok rfl (.tmp 47) (.tmp 48) rfl rfl HO.out rfl (by omega) ?_; rw [if_pos HND.out, decide_eq_true HND.out])
                    | (at_len; (refine wpList_set_len_g ?_ (.tmp 54) rfl rfl HIQ.out ?_); (first | rfl | (simp [Region.wanted, yielded]; done)); intro c2 hc2; have hc2' : ((c2 : Int) == 0) = false := (by have : c2 ≠ 0 := fun e => HREM.out (hc2.1 e); simp; omega); clear hc2))
                  go_round
                  case rel => exact ⟨q + 1, by omega, by go_num, upto_succ HNR.out HRD.out⟩
                  case measure => simp [intOf]; omega
            · have hql : q = l.length := by omega
              subst hql
              have HPN := Lib.hid (pick_eq_none HNR.out)
              have HNE : Hid ((order l).length ≠ l.length) := by
                show _ ≠ _
                rw [HORD.out, topo_stuck HPN.out]
                exact HALL.out
              go_wp2
              go_ret2
              show ArrPost l (.returned (.tuple #[.slice none 0 0, .bool false])) _ ∧ _
              exact ⟨⟨fun h => absurd h HNE.out, fun _ => rfl⟩, HBR.out⟩
end Go.Proofs.Ytlbkfphepneflaa
