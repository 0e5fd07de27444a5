/- flow.places and flow.table: the walks. A table of rows. -/
import Derived.Test.YtelgkangojmhdaaFlow1
namespace Go.Proofs.Ytelgkangojmhdaa
open Go.RowKit

/-! ## Rows of slices, tables -/
def VRow (w : World) (b : Nat) (vs : List Value) : Prop := w.heap[b]? = some (.cells vs.toArray 33 (0, 0))
theorem VRow.lt {w : World} {b : Nat} {vs : List Value} (h : VRow w b vs) : b < w.heap.size := by
  unfold VRow at h
  by_cases hb : b < w.heap.size
  · exact hb
  · rw [Array.getElem?_eq_none (by omega)] at h; cases h
theorem VRow.cell {w : World} {b i : Nat} {vs : List Value} {v : Value} (h : VRow w b vs) (hv : vs[i]? = some v) : w.cell? ⟨b, i, none⟩ = some v := by
  unfold VRow at h
  have e : w.cell? ⟨b, i, none⟩ = vs.toArray[i]? := by simp [World.cell?, h]
  rw [e]; simpa using hv
theorem VRow.free {w : World} {b : Nat} {vs : List Value} (h : VRow w b vs) (i : Nat) : w.frozen? ⟨b, i, none⟩ = false := by unfold VRow at h; simp [World.frozen?, h]
theorem VRow.alloc {w : World} {b : Nat} {vs : List Value} (h : VRow w b vs) (o : Obj) : VRow (w.alloc o) b vs := (Below.heap_alloc w o b h.lt).trans h
theorem VRow.put {w : World} {b : Nat} {vs : List Value} (h : VRow w b vs) (i : Nat) (v : Value) : VRow (w.setCell ⟨b, i, none⟩ v) b (vs.set i v) := by
  unfold VRow at h ⊢
  simp [World.setCell, Array.getElem?_modify, h]
theorem VRow.far {w : World} {b : Nat} {vs : List Value} (h : VRow w b vs) {p : Addr} (hp : b ≠ p.block) (u : Value) : VRow (w.setCell p u) b vs := (Below.heap_setCell w p u b hp).trans h
theorem VRow.below {w w' : World} {b B : Nat} {vs : List Value} (h : VRow w b vs) (hb : Below B w w') (hB : b < B) : VRow w' b vs := (hb.block b hB).trans h
/-- A slice of a whole block of n. -/
def slc (n g : Nat) : Value := .slice (some ⟨g, 0, none⟩) n n
/-- Block bt is the slices of the blocks gs, which are the rows T of n each; they lie behind bt, apart. -/
structure Tab (w : World) (bt n : Nat) (gs : List Nat) (T : List (List Int)) : Prop where
  len : gs.length = T.length
  row : VRow w bt (gs.map (slc n))
  each : ∀ (i g : Nat) (q : List Int), gs[i]? = some g → T[i]? = some q → Row w g q ∧ bt < g
  wide : ∀ q ∈ T, q.length = n
  nd : gs.Nodup
theorem Tab.at_ {w : World} {bt n i : Nat} {gs : List Nat} {T : List (List Int)} (h : Tab w bt n gs T) (hi : i < T.length) : ∃ g q, gs[i]? = some g ∧ T[i]? = some q ∧ w.cell? ⟨bt, i, none⟩ = some (slc n g) ∧ Row w g q ∧ bt < g ∧ q.length = n := by
  have hl : i < gs.length := by rw [h.len]; exact hi
  have h1 : gs[i]? = some gs[i] := List.getElem?_eq_getElem hl
  have h2 : T[i]? = some T[i] := List.getElem?_eq_getElem hi
  obtain ⟨h3, h4⟩ := h.each i _ _ h1 h2
  exact ⟨_, _, h1, h2, h.row.cell (by rw [List.getElem?_map, h1]; rfl), h3, h4, h.wide _ (List.mem_of_getElem? h2)⟩
theorem Tab.below {w w' : World} {bt n : Nat} {gs : List Nat} {T : List (List Int)} (h : Tab w bt n gs T) (hb : Below w.heap.size w w') : Tab w' bt n gs T :=
  ⟨h.len, h.row.below hb h.row.lt, fun i g q hg hq => ⟨(h.each i g q hg hq).1.below hb (h.each i g q hg hq).1.lt, (h.each i g q hg hq).2⟩, h.wide, h.nd⟩
theorem Tab.far {w : World} {bt n b i : Nat} {gs : List Nat} {T : List (List Int)} (h : Tab w bt n gs T) (hb : b < bt) (u : Value) : Tab (w.setCell ⟨b, i, none⟩ u) bt n gs T :=
  ⟨h.len, h.row.far (by simp; omega) u, fun j g q hg hq => ⟨(h.each j g q hg hq).1.far (by have := (h.each j g q hg hq).2; simp; omega) u, (h.each j g q hg hq).2⟩, h.wide, h.nd⟩
/-- One number in row i is written. -/
theorem Tab.put {w : World} {bt n i o g : Nat} {gs : List Nat} {T : List (List Int)} {q : List Int} (h : Tab w bt n gs T) (hg : gs[i]? = some g) (hq : T[i]? = some q) (x : Int) : Tab (w.setCell ⟨g, o, none⟩ (.int .i64 x)) bt n gs (T.set i (q.set o x)) := by
  have hi : i < gs.length := (List.getElem?_eq_some_iff.1 hg).1
  have hi' : i < T.length := by rw [← h.len]; exact hi
  have hbt := (h.each i g q hg hq).2
  refine ⟨by rw [List.length_set]; exact h.len, h.row.far (by simp; omega) _, fun j g' q' hg' hq' => ?_, fun q' hq' => ?_, h.nd⟩
  · rw [List.getElem?_set] at hq'
    by_cases e : i = j
    · subst e
      rw [if_pos rfl, if_pos hi'] at hq'
      cases hq'
      rw [hg] at hg'
      cases hg'
      exact ⟨(h.each i g q hg hq).1.put o x, hbt⟩
    · rw [if_neg e] at hq'
      have hne : g' ≠ g := by
        intro e'
        subst e'
        have hj : j < gs.length := (List.getElem?_eq_some_iff.1 hg').1
        apply e
        have := List.getElem_inj (h₀ := hi) (h₁ := hj) h.nd
        exact this.1 (by rw [(List.getElem?_eq_some_iff.1 hg).2, (List.getElem?_eq_some_iff.1 hg').2])
      exact ⟨(h.each j g' q' hg' hq').1.far (by simpa using hne) _, (h.each j g' q' hg' hq').2⟩
  · rcases List.mem_or_eq_of_mem_set hq' with hq' | rfl
    · exact h.wide q' hq'
    · rw [List.length_set]; exact h.wide q (List.mem_of_getElem? hq)
theorem tget {T : List (List Int)} {i : Nat} {q : List Int} (h : T[i]? = some q) : T.getD i [] = q := by rw [List.getD_eq_getElem?_getD, h]; rfl

/-! ## places -/
def plc (n : Nat) (L : List (Nat × Int)) : List Int := L.foldl (fun a p => a.set p.2.toNat p.1) (List.replicate n 0)
theorem plc_append (n : Nat) (L : List (Nat × Int)) (p : Nat × Int) : plc n (L ++ [p]) = (plc n L).set p.2.toNat p.1 := by unfold plc; rw [List.foldl_append]; rfl
theorem plc_len (n : Nat) : ∀ L : List (Nat × Int), (plc n L).length = n := by
  refine snoc_ind ?_ ?_
  · unfold plc; simp
  · intro L p ih; rw [plc_append, List.length_set]; exact ih
theorem plc_puts {n : Nat} : ∀ (L : List (Nat × Int)) (at_ : List Int), puts n L = (0, at_) → ∀ i, i < n → (at_.getD i 0 = -1 ∧ (plc n L).getD i 0 = 0) ∨ (plc n L).getD i 0 = at_.getD i 0 := by
  refine snoc_ind ?_ ?_
  · intro at_ h i hi
    unfold puts at h
    cases h
    refine .inl ⟨noAt_at hi, ?_⟩
    unfold plc
    rw [List.foldl_nil, List.getD_eq_getElem?_getD, List.getElem?_replicate, if_pos hi]; rfl
  · intro L p ih at_ h i hi
    obtain ⟨at0, h0⟩ := puts_ok [p] L at_ h
    have hlen := (puts_len L at0 h0).1
    rw [puts_append, h0] at h
    obtain ⟨h1, h2, _, rfl⟩ := stp_ok h
    have e1 := getD_set (plc n L) p.2.toNat i p.1 (by rw [plc_len]; omega)
    have e2 := getD_set at0 p.2.toNat i p.1 (by omega)
    rw [plc_append, e1, e2]
    by_cases e : i = p.2.toNat
    · rw [if_pos e, if_pos e]; exact .inr rfl
    · rw [if_neg e, if_neg e]; exact ih at0 h0 i hi
theorem plc_all {n : Nat} {L : List (Nat × Int)} {at_ : List Int} (h : puts n L = (0, at_)) (hg : hasB at_ (-1) = false) : plc n L = at_ := by
  have hlen := (puts_len L at_ h).1
  apply List.ext_getElem?
  intro i
  by_cases hi : i < n
  · rw [getD_some (by rw [plc_len]; exact hi), getD_some (by omega)]
    rcases plc_puts L at_ h i hi with ⟨h1, _⟩ | h1
    · exfalso
      have : hasB at_ (-1) = true := hasB_found (k := i) (by rw [← h1]; exact getD_some (by omega))
      rw [hg] at this; cases this
    · rw [h1]
  · rw [List.getElem?_eq_none (by rw [plc_len]; omega), List.getElem?_eq_none (by omega)]

set_option maxRecDepth 100000 in
set_option maxHeartbeats 2000000 in
theorem places_any (n : Nat) (S : Option Addr) (capS : Nat) (ss : List (List Int)) (at_ : List Int) (w : World) (hn : n ≤ 1000) (hS : SRd w w.heap.size S ss) (hsm : SSmall ss) (hp : puts n (flat ss) = (0, at_)) (hg : hasB at_ (-1) = false) :
    Calls Try.prog 48 #[.int .i64 n, .slice S ss.length capS] w fun e w' => (∃ b, e = .returned (slc n b) ∧ w.heap.size ≤ b ∧ Row w' b at_) ∧ Below w.heap.size w w' := by
  have HSS := Lib.hid hS
  have HSM := Lib.hid hsm.2
  have hsl := hsm.1
  have HP := Lib.hid (plc_all hp hg)
  have HRG := Lib.hid (puts_len _ _ hp).2
  clear hS hsm hp hg
  have hmk := mkInts n (by omega)
  go_enter Try.func48, Try.ntmps48
  go_wp2_with fail
  clear hmk
  have HR0 : Hid (Row (w.alloc (.cells (intCells (List.replicate n 0)) 3)) w.heap.size (plc n (flat (ss.take 0)))) := Row.new w _
  go_loopw [6, 7, 9, 14] (fun _ _ _ j wr => ∃ k : Nat, k ≤ ss.length ∧ j = .int .i64 k ∧ Row wr w.heap.size (plc n (flat (ss.take k))) ∧ Below w.heap.size w wr) (fun _ _ _ j _ => ss.length - (intOf j).toNat)
  case atStart => exact ⟨0, Nat.zero_le _, rfl, HR0.out, below_new _ _⟩
  case round =>
    clear HR0
    obtain ⟨k, hk, rfl, hrow, hb⟩ := hrel
    have HR := Lib.hid hrow
    have HB := Lib.hid hb
    clear hrow hb
    by_cases hlt : k < ss.length
    · obtain ⟨b, off, q, Aq, cq, rfl, hB, hd, cs, hcq, hrq⟩ := HSS.out.at_ (Below.refl _ _) hlt
      have cs := (HB.out.cell (p := ⟨b, _, none⟩) hB).trans cs
      have HD := Lib.hid hd
      have hql := HSM.out q (List.mem_of_getElem? hd)
      have HQ := Lib.hid hrq
      have HQR : Hid (∀ x ∈ q, 0 ≤ x ∧ x < n) := fun x hx => HRG.out (k, x) (mem_flat.2 ⟨q, HD.out, hx⟩)
      clear hd hrq hcq
      have HP0 : Hid (Row wr w.heap.size (plc n (pre ss q k 0))) := by rw [pre_zero]; exact HR.out
      go_wp2_with fail
      clear cs
      obtain ⟨w5, rfl⟩ : ∃ w5 : World, w5 = wr := ⟨_, rfl⟩
      go_loopw [9, 21] (fun _ j wr => ∃ j' : Nat, j' ≤ q.length ∧ j = .int .i64 j' ∧ Row wr w.heap.size (plc n (pre ss q k j')) ∧ Below w.heap.size w wr) (fun _ j _ => q.length - (intOf j).toNat)
      case atStart => exact ⟨0, Nat.zero_le _, rfl, HP0.out, HB.out⟩
      case round =>
        clear HP0 HR HB
        obtain ⟨j, hj, rfl, hrow, hb⟩ := hrel
        have HR := Lib.hid hrow
        have HB := Lib.hid hb
        have hrl := hrow.lt
        clear hrow hb
        by_cases hlj : j < q.length
        · obtain ⟨b2, off2, x, rfl, hB2, hdx, cx⟩ := HQ.out.at_ HB.out hlj
          obtain ⟨x0, x1⟩ := HQR.out x (List.mem_of_getElem? hdx)
          have HPN := Lib.hid (pre_next ss k hdx)
          clear hdx
          obtain ⟨xn, rfl⟩ : ∃ xn : Nat, x = (xn : Int) := ⟨x.toNat, by omega⟩
          have hxn : xn < n := by omega
          have cy := HR.out.cell (getD_some (E := plc n (pre ss q k j)) (t := xn) (by rw [plc_len]; exact hxn))
          have cf := HR.out.free xn
          have HR' : Hid (Row (wr.setCell ⟨w.heap.size, xn, none⟩ (.int .i64 (k : Int))) w.heap.size (plc n (pre ss q k (j + 1)))) := by
            have h1 := HR.out.put xn (k : Int)
            rw [HPN.out, plc_append]
            exact h1
          have HB' := Lib.hid (HB.out.setCell (p := ⟨w.heap.size, xn, none⟩) (Nat.le_refl _) (.int .i64 (k : Int)))
          generalize (plc n (pre ss q k j)).getD xn 0 = y at cy
          go_wp2
          go_roundw
          case rel => exact ⟨j + 1, by omega, by go_num, HR'.out, HB'.out⟩
          case measure => simp [intOf]; omega
        · obtain rfl : q.length = j := by omega
          have HR' : Hid (Row wr w.heap.size (plc n (flat (ss.take (k + 1))))) := by rw [← pre_all HD.out]; exact HR.out
          go_wp2
          go_roundw
          case rel => exact ⟨k + 1, by omega, by go_num, HR'.out, HB.out⟩
          case measure => simp [intOf]; omega
    · obtain rfl : ss.length = k := by omega
      have HR' : Hid (Row wr w.heap.size at_) := by have h1 := HR.out; rw [List.take_length, HP.out] at h1; exact h1
      go_wp2
      go_ret
      exact ⟨⟨w.heap.size, rfl, Nat.le_refl _, HR'.out⟩, HB.out⟩

/-! ## table -/
set_option maxRecDepth 100000 in
set_option maxHeartbeats 2000000 in
theorem table_any (m n : Nat) (w : World) (hm : m ≤ 1000) (hn : n ≤ 1000) :
    Calls Try.prog 49 #[.int .i64 m, .int .i64 n] w fun e w' => (∃ bt gs, e = .returned (slc m bt) ∧ w.heap.size ≤ bt ∧ Tab w' bt n gs (List.replicate m (noAt n))) ∧ Below w.heap.size w w' := by
  have hmk := mkRows m (by omega)
  have HMK := Lib.hid (mkInts n (by omega))
  go_enter Try.func49, Try.ntmps49
  go_wp2_with fail
  clear hmk
  have HR0 : Hid (VRow (w.alloc (.cells (nilCells m) 33)) w.heap.size (([] : List Nat).map (slc n) ++ List.replicate (m - 0) (.slice none 0 0))) := by
    show (w.heap.push _)[w.heap.size]? = _
    simp [nilCells]
  go_loopw [6, 7, 12] (fun _ _ j wr => ∃ (k : Nat) (gs : List Nat), k ≤ m ∧ j = .int .i64 k ∧ gs.length = k ∧ VRow wr w.heap.size (gs.map (slc n) ++ List.replicate (m - k) (.slice none 0 0)) ∧ (∀ g ∈ gs, Row wr g (noAt n) ∧ w.heap.size < g) ∧ gs.Nodup ∧ Below w.heap.size w wr) (fun _ _ j _ => m - (intOf j).toNat)
  case atStart => exact ⟨0, [], Nat.zero_le _, rfl, rfl, HR0.out, fun _ h => (by cases h), List.nodup_nil, below_new _ _⟩
  case round =>
    clear HR0
    obtain ⟨k, gs, hk, rfl, hgl, hrow, hgs, hnd, hb⟩ := hrel
    have HR := Lib.hid hrow
    have HG := Lib.hid hgs
    have HND := Lib.hid hnd
    have HB := Lib.hid hb
    have HGL := Lib.hid hgl
    have hrl := hrow.lt
    clear hrow hgs hnd hb hgl
    by_cases hlt : k < m
    · have hmk := HMK.out
      have ck := HR.out.cell (i := k) (v := .slice none 0 0) (by rw [List.getElem?_append_right (by simp [HGL.out]), List.getElem?_replicate, if_pos (by simp [HGL.out]; omega)])
      have cf := HR.out.free k
      have ck2 : (wr.alloc (.cells (intCells (List.replicate n 0)) 3)).cell? ⟨w.heap.size, k, none⟩ = some (.slice none 0 0) := by rw [World.cell?_alloc_lt _ _ _ (by simpa using hrl)]; exact ck
      have cf2 : (wr.alloc (.cells (intCells (List.replicate n 0)) 3)).frozen? ⟨w.heap.size, k, none⟩ = false := (World.frozen?_of_block (a := ⟨w.heap.size, k, none⟩) (Below.heap_alloc wr _ _ hrl)).trans cf
      have HSET : Hid ((gs.map (slc n) ++ List.replicate (m - k) (Value.slice none 0 0)).set k (slc n wr.heap.size) = (gs ++ [wr.heap.size]).map (slc n) ++ List.replicate (m - (k + 1)) (Value.slice none 0 0)) := by
        show _ = _
        rw [List.set_append_right _ _ (by simp [HGL.out])]
        simp only [List.length_map, HGL.out, Nat.sub_self]
        rw [show m - k = (m - (k + 1)) + 1 from by omega, List.replicate_succ, List.set_cons_zero, List.map_append, List.append_assoc]
        rfl
      have HSZ : Hid ((wr.setCell ⟨w.heap.size, k, none⟩ (.slice (some ⟨wr.heap.size, 0, none⟩) n n)).heap.size = wr.heap.size) := by show _ = _; simp [World.setCell]
      have HR2 : Hid (VRow ((wr.setCell ⟨w.heap.size, k, none⟩ (.slice (some ⟨wr.heap.size, 0, none⟩) n n)).alloc (.cells (intCells (List.replicate n 0)) 3)) w.heap.size ((gs ++ [wr.heap.size]).map (slc n) ++ List.replicate (m - (k + 1)) (Value.slice none 0 0))) := by
        have h1 := (HR.out.put k (slc n wr.heap.size)).alloc (.cells (intCells (List.replicate n 0)) 3)
        rw [HSET.out] at h1
        exact h1
      have HRW : Hid (Row ((wr.setCell ⟨w.heap.size, k, none⟩ (.slice (some ⟨wr.heap.size, 0, none⟩) n n)).alloc (.cells (intCells (List.replicate n 0)) 3)) wr.heap.size (fillM 0 n)) := by
        have h1 := Row.new (wr.setCell ⟨w.heap.size, k, none⟩ (.slice (some ⟨wr.heap.size, 0, none⟩) n n)) (List.replicate n 0)
        rw [HSZ.out] at h1
        rw [fillM_zero]; exact h1
      have HG2 : Hid (∀ g ∈ gs, Row ((wr.setCell ⟨w.heap.size, k, none⟩ (.slice (some ⟨wr.heap.size, 0, none⟩) n n)).alloc (.cells (intCells (List.replicate n 0)) 3)) g (noAt n) ∧ w.heap.size < g) := fun g hg => ⟨((HG.out g hg).1.far (by have := (HG.out g hg).2; simp; omega) _).alloc _, (HG.out g hg).2⟩
      have HB2 := Lib.hid ((HB.out.setCell (p := ⟨w.heap.size, k, none⟩) (Nat.le_refl _) (.slice (some ⟨wr.heap.size, 0, none⟩) n n)).alloc (by rw [HSZ.out]; exact HB.out.size) (.cells (intCells (List.replicate n 0)) 3))
      have hnew : w.heap.size < wr.heap.size := hrl
      have HNN : Hid (∀ g ∈ gs, g < wr.heap.size) := fun g hg => (HG.out g hg).1.lt
      go_wp2_with fail
      clear hmk ck cf ck2 cf2
      revert HR2 HRW HG2 HB2
      generalize (wr.setCell ⟨w.heap.size, k, none⟩ (.slice (some ⟨wr.heap.size, 0, none⟩) n n)).alloc (.cells (intCells (List.replicate n 0)) 3) = w2
      intro HR2 HRW HG2 HB2
      obtain ⟨wo, rfl⟩ : ∃ wo : World, wo = wr := ⟨_, rfl⟩
      clear HR HG HB
      go_loopw [7, 25] (fun _ j wq => ∃ i : Nat, i ≤ n ∧ j = .int .i64 i ∧ Row wq wo.heap.size (fillM i n) ∧ VRow wq w.heap.size ((gs ++ [wo.heap.size]).map (slc n) ++ List.replicate (m - (k + 1)) (.slice none 0 0)) ∧ (∀ g ∈ gs, Row wq g (noAt n) ∧ w.heap.size < g) ∧ Below w.heap.size w wq) (fun _ j _ => n - (intOf j).toNat)
      case atStart => exact ⟨0, Nat.zero_le _, rfl, HRW.out, HR2.out, HG2.out, HB2.out⟩
      case round =>
        clear HR2 HRW HG2 HB2
        obtain ⟨i, hi, rfl, hrow, hv, hgs, hb⟩ := hrel
        have HF := Lib.hid hrow
        have HR := Lib.hid hv
        have HG := Lib.hid hgs
        have HB := Lib.hid hb
        have hrl2 := hrow.lt
        have hrf := hrow.free
        have hvl := hv.lt
        clear hrow hv hgs hb
        by_cases hli : i < n
        · have cy := HF.out.cell (i := i) (x := 0) (fillM_hi hli)
          have cf := hrf i
          have ct := HR.out.cell (i := k) (v := slc n wo.heap.size) (by rw [List.getElem?_append_left (by simp [HGL.out]), List.getElem?_map, List.getElem?_append_right (by simp [HGL.out])]; simp [HGL.out])
          unfold slc at ct
          clear hrf
          have HF' := Lib.hid (HF.out.put i (-1))
          rw [fillM_next hli] at HF'
          have HR' := Lib.hid (HR.out.far (p := ⟨wo.heap.size, i, none⟩) (show w.heap.size ≠ wo.heap.size by omega) (.int .i64 (-1)))
          have HG' : Hid (∀ g ∈ gs, Row (wr.setCell ⟨wo.heap.size, i, none⟩ (.int .i64 (-1))) g (noAt n) ∧ w.heap.size < g) := fun g hg => ⟨(HG.out g hg).1.far (by have := HNN.out g hg; simp; omega) _, (HG.out g hg).2⟩
          have HB' := Lib.hid (HB.out.setCell (p := ⟨wo.heap.size, i, none⟩) (show w.heap.size ≤ wo.heap.size by omega) (.int .i64 (-1)))
          go_wp2
          go_roundw
          case rel => exact ⟨i + 1, by omega, by go_num, HF'.out, HR'.out, HG'.out, HB'.out⟩
          case measure => simp [intOf]; omega
        · obtain rfl : n = i := by omega
          have HF' : Hid (Row wr wo.heap.size (noAt n)) := by
            have h1 := HF.out
            unfold fillM at h1
            rw [Nat.sub_self, List.replicate_zero, List.append_nil] at h1
            exact h1
          have HG' : Hid (∀ g ∈ gs ++ [wo.heap.size], Row wr g (noAt n) ∧ w.heap.size < g) := fun g hg => by
            rcases List.mem_append.1 hg with hg | hg
            · exact HG.out g hg
            · simp at hg; subst hg; exact ⟨HF'.out, hnew⟩
          have HN' : Hid ((gs ++ [wo.heap.size]).Nodup) := by
            show List.Nodup _
            rw [List.nodup_append]
            exact ⟨HND.out, by simp, fun a ha b hb e => by simp at hb; subst hb; have := HNN.out a ha; omega⟩
          clear hrf
          go_wp2
          go_roundw
          case rel => exact ⟨k + 1, gs ++ [wo.heap.size], by omega, by go_num, by rw [List.length_append, HGL.out]; rfl, HR.out, HG'.out, HN'.out, HB.out⟩
          case measure => simp [intOf]; omega
    · obtain rfl : m = k := by omega
      have HT : Hid (Tab wr w.heap.size n gs (List.replicate m (noAt n))) := by
        have h1 := HR.out
        rw [Nat.sub_self, List.replicate_zero, List.append_nil] at h1
        refine ⟨by rw [HGL.out]; simp, h1, fun i g q hg hq => ?_, fun q hq => ?_, HND.out⟩
        · rw [List.getElem?_replicate] at hq
          split at hq
          · cases hq; exact HG.out g (List.mem_of_getElem? hg)
          · cases hq
        · have := (List.mem_replicate.1 hq).2; subst this; unfold noAt; simp
      go_wp2
      go_ret
      exact ⟨⟨w.heap.size, gs, rfl, Nat.le_refl _, HT.out⟩, HB.out⟩
end Go.Proofs.Ytelgkangojmhdaa
