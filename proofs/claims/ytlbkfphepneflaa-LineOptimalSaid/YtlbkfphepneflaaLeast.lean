/- line.least: the walk. It returns what the plain search over sets finds. -/
import Derived.Test.YtlbkfphepneflaaRow
import Derived.Test.YtlbkfphepneflaaLinePlain2
import Derived.RegionTactic
namespace Go.Proofs.Ytlbkfphepneflaa
open Go.RowKit

def leastV (l : List Opn) (c : Int) (at_ : List Int) (lim : Int) : Int := if leastE l c at_ lim < 0 then 0 else leastE l c at_ lim
def leastB (l : List Opn) (c : Int) (at_ : List Int) (lim : Int) : Bool := decide (0 ≤ leastE l c at_ lim)
def LeastPost (l : List Opn) (c : Int) (at_ : List Int) (lim : Int) (e : Ending) : Prop := e = .returned (.tuple #[.int .i64 (leastV l c at_ lim), .bool (leastB l c at_ lim)])
theorem leastPost_no {l : List Opn} {c : Int} {at_ : List Int} {lim : Int} (h : leastE l c at_ lim < 0) : LeastPost l c at_ lim (.returned (.tuple #[.int .i64 0, .bool false])) := by
  unfold LeastPost leastV leastB; rw [if_pos h, decide_eq_false (by omega)]
theorem leastPost_yes {l : List Opn} {c : Int} {at_ : List Int} {lim x : Int} (h : 0 ≤ leastE l c at_ lim) (hx : leastE l c at_ lim = x) : LeastPost l c at_ lim (.returned (.tuple #[.int .i64 x, .bool true])) := by
  subst hx; unfold LeastPost leastV leastB; rw [if_neg (by omega), decide_eq_true h]
theorem wrapR {n : Int} (h0 : -9223372036854775808 ≤ n) (h1 : n < 9223372036854775808) : RowKit.wrap64 n = n := by unfold RowKit.wrap64; omega
theorem shl_at {i : Nat} (h : i ≤ 16) : RowKit.wrap64 (2 ^ i) = ((2 ^ i : Nat) : Int) := by
  have h1 := pow16 h
  have h2 : ((2 : Int) ^ i) = ((2 ^ i : Nat) : Int) := by simp
  have h3 : (0 : Int) ≤ ((2 ^ i : Nat) : Int) := Int.natCast_nonneg _
  have h4 := Int.ofNat_le.2 h1
  rw [h2]; exact wrapR (by omega) (by omega)

/-! ## What the search needs to know of its numbers -/
def Bd (lim : Int) (E : List Int) : Prop := ∀ x ∈ E, -1 ≤ x ∧ x ≤ lim
theorem getD_some {E : List Int} {t : Nat} (h : t < E.length) : E[t]? = some (E.getD t 0) := by
  rw [List.getD_eq_getElem?_getD, List.getElem?_eq_getElem h]; rfl
theorem Bd.at_ {lim : Int} {E : List Int} (h : Bd lim E) {t : Nat} (ht : t < E.length) : -1 ≤ E.getD t 0 ∧ E.getD t 0 ≤ lim := h _ (List.mem_of_getElem? (getD_some ht))
theorem Bd.set {lim : Int} {E : List Int} (h : Bd lim E) {x : Int} (h0 : -1 ≤ x) (h1 : x ≤ lim) (t : Nat) : Bd lim (E.set t x) := by
  intro y hy
  rcases List.mem_or_eq_of_mem_set hy with hy | rfl
  · exact h y hy
  · exact ⟨h0, h1⟩
theorem stepI_bd {l : List Opn} {c : Int} {at_ : List Int} {lim : Int} {s i : Nat} {e : Int} {E : List Int} (h : Bd lim E) (h0 : 0 ≤ e) (hm : 1 ≤ mn l i) : Bd lim (stepI l c at_ lim s e i E) := by
  unfold stepI
  split
  · rename_i hc; exact h.set (by have := addV_nonneg (c := c) (s := at_.getD i 0) h0 hm; omega) hc.2.2.1 _
  · exact h
theorem inn_bd {l : List Opn} {c : Int} {at_ : List Int} {lim : Int} {s : Nat} {E : List Int} (hsd : Sound l) (h : Bd lim E) (h0 : 0 ≤ E.getD s 0) : ∀ k, k ≤ l.length → Bd lim (inn l c at_ lim s E k) := by
  intro k
  induction k with
  | zero => intro _; exact h
  | succ k ih =>
    intro hk
    unfold inn
    exact stepI_bd (ih (by omega)) h0 (hsd.mins _ (getD_mem (show k < l.length by omega))).1
theorem dp_bd {l : List Opn} {c : Int} {at_ : List Int} {lim : Int} (hsd : Sound l) (hl : 0 ≤ lim) : ∀ k, Bd lim (dp l c at_ lim k) := by
  intro k
  induction k with
  | zero =>
    unfold dp
    refine Bd.set ?_ (by omega) (by omega) _
    intro x hx
    have := (List.mem_replicate.1 hx).2
    omega
  | succ k ih =>
    unfold dp stepS
    split
    · exact ih
    · exact inn_bd hsd ih (by omega) _ (Nat.le_refl _)
theorem dp_skip {l : List Opn} {c : Int} {at_ : List Int} {lim : Int} {s : Nat} (h : (dp l c at_ lim s).getD s 0 < 0) : dp l c at_ lim (s + 1) = dp l c at_ lim s := by
  conv => lhs; unfold dp stepS
  rw [if_pos h]
theorem dp_take {l : List Opn} {c : Int} {at_ : List Int} {lim : Int} {s : Nat} (h : 0 ≤ (dp l c at_ lim s).getD s 0) : dp l c at_ lim (s + 1) = inn l c at_ lim s (dp l c at_ lim s) l.length := by
  conv => lhs; unfold dp stepS
  rw [if_neg (by omega)]
theorem inn_skip {l : List Opn} {c : Int} {at_ : List Int} {lim : Int} {s i : Nat} {E : List Int}
    (h : readyS l s i = false ∨ addOk (E.getD s 0) c (mn l i) (at_.getD i 0) = false ∨ lim < addV (E.getD s 0) c (mn l i) (at_.getD i 0) ∨ (0 ≤ (inn l c at_ lim s E i).getD (nxt s i) 0 ∧ (inn l c at_ lim s E i).getD (nxt s i) 0 ≤ addV (E.getD s 0) c (mn l i) (at_.getD i 0))) :
    inn l c at_ lim s E (i + 1) = inn l c at_ lim s E i := by
  conv => lhs; unfold inn stepI
  rw [if_neg]
  rintro ⟨h1, h2, h3, h4⟩
  rcases h with h | h | h | h
  · rw [h1] at h; cases h
  · rw [h2] at h; cases h
  · omega
  · omega
theorem inn_take {l : List Opn} {c : Int} {at_ : List Int} {lim : Int} {s i : Nat} {E : List Int}
    (h1 : readyS l s i = true) (h2 : addOk (E.getD s 0) c (mn l i) (at_.getD i 0) = true) (h3 : addV (E.getD s 0) c (mn l i) (at_.getD i 0) ≤ lim)
    (h4 : (inn l c at_ lim s E i).getD (nxt s i) 0 < 0 ∨ addV (E.getD s 0) c (mn l i) (at_.getD i 0) < (inn l c at_ lim s E i).getD (nxt s i) 0) :
    inn l c at_ lim s E (i + 1) = (inn l c at_ lim s E i).set (nxt s i) (addV (E.getD s 0) c (mn l i) (at_.getD i 0)) := by
  conv => lhs; unfold inn stepI
  rw [if_pos ⟨h1, h2, h3, h4⟩]
theorem bit_test {s i : Nat} (hs : s < 65536) : (bits .and .i64 ((s : Int) / 2 ^ i) 1 != 0) = s.testBit i := by
  have h1 : ((s : Int) / 2 ^ i) = ((s / 2 ^ i : Nat) : Int) := by simp
  have h2 : s / 2 ^ i ≤ s := Nat.div_le_self _ _
  rw [h1, i64_and1 _ (by omega), Nat.testBit_eq_decide_div_mod_eq]
  rw [Bool.eq_iff_iff]
  simp
  omega
theorem bef_test {l : List Opn} (hsd : Sound l) {s i : Nat} (hi : i < l.length) (hs : s < 65536) : (bits .andNot .i64 ((orB (af l i) : Nat) : Int) (s : Int) != 0) = !((af l i).all fun a => s.testBit a.toNat) := by
  have hlt : orB (af l i) < 2 ^ l.length := orB_lt fun a ha => by have := hsd.idx _ (getD_mem hi) a ha; omega
  have h16 := pow16 hsd.len
  have key := i64_andNot0 (orB (af l i)) s (by omega) (by omega)
  rw [Bool.eq_iff_iff, bne_iff_ne, Bool.not_eq_true', ne_eq, key, ← Bool.not_eq_true, List.all_eq_true]
  constructor
  · intro h h'
    apply h
    intro j hj
    obtain ⟨a, ha, rfl⟩ := (orB_bit _ _).1 hj
    exact h' a ha
  · intro h h'
    apply h
    intro a ha
    exact h' _ ((orB_bit _ _).2 ⟨a, ha, rfl⟩)
theorem ready_no1 {l : List Opn} {s i : Nat} (h : s.testBit i = true) : readyS l s i = false := by unfold readyS; rw [h]; rfl
theorem ready_no2 {l : List Opn} {s i : Nat} (h : ((af l i).all fun a => s.testBit a.toNat) = false) : readyS l s i = false := by unfold readyS; rw [h]; simp
theorem ready_yes1 {l : List Opn} {s i : Nat} (h1 : s.testBit i = false) (h : ((af l i).all fun a => s.testBit a.toNat) = true) : readyS l s i = true := by unfold readyS; rw [h, h1]; rfl
theorem nxt_or {s i : Nat} (hs : s < 65536) (hi : i ≤ 16) : bits .or .i64 (s : Int) ((2 ^ i : Nat) : Int) = ((nxt s i : Nat) : Int) := by
  have := pow16 hi
  exact i64_or _ _ (by omega) (by omega)
theorem mn_at {l : List Opn} {i : Nat} {o : Opn} (h : l[i]? = some o) : mn l i = o.mins := by unfold mn; rw [getD_at h]
theorem af_at {l : List Opn} {i : Nat} {o : Opn} (h : l[i]? = some o) : af l i = o.after := by unfold af; rw [getD_at h]
theorem take_snoc' {q : List Int} {k : Nat} {x : Int} (h : q[k]? = some x) : q.take (k + 1) = q.take k ++ [x] := by rw [List.take_add_one, h]; rfl
def fillM (k n : Nat) : List Int := List.replicate k (-1) ++ List.replicate (n - k) 0
theorem fillM_zero (n : Nat) : fillM 0 n = List.replicate n 0 := by unfold fillM; simp
theorem fillM_next {k n : Nat} (h : k < n) : (fillM k n).set k (-1) = fillM (k + 1) n := by
  unfold fillM
  rw [List.set_append_right _ _ (by simp)]
  simp only [List.length_replicate, Nat.sub_self]
  rw [show n - k = (n - (k + 1)) + 1 from by omega, List.replicate_succ, List.set_cons_zero, List.replicate_succ', List.append_assoc]
  rfl
theorem fillM_hi {k n : Nat} (h : k < n) : (fillM k n)[k]? = some 0 := by
  unfold fillM
  rw [List.getElem?_append_right (by simp), List.getElem?_replicate, if_pos (by simp; omega)]
theorem fillM_lo {n : Nat} (h : 1 ≤ n) : (fillM n n)[0]? = some (-1) := by
  unfold fillM
  rw [List.getElem?_append_left (by simp; omega), List.getElem?_replicate, if_pos (by omega)]
theorem fillM_all (n : Nat) : (fillM n n).set 0 0 = (List.replicate n (-1)).set 0 0 := by unfold fillM; simp
/-- The sets of the operations before, of the first k operations. -/
def befs (l : List Opn) (k : Nat) : List Int := (List.range l.length).map fun i => if i < k then ((orB (af l i) : Nat) : Int) else 0
theorem befs_len (l : List Opn) (k : Nat) : (befs l k).length = l.length := by unfold befs; simp
theorem befs_at (l : List Opn) (k i : Nat) (h : i < l.length) : (befs l k)[i]? = some (if i < k then ((orB (af l i) : Nat) : Int) else 0) := by
  unfold befs; rw [List.getElem?_map, List.getElem?_range h]; rfl
theorem befs_zero (l : List Opn) : befs l 0 = List.replicate l.length 0 := by
  apply List.ext_getElem?
  intro i
  by_cases h : i < l.length
  · rw [befs_at l 0 i h, List.getElem?_replicate, if_pos h, if_neg (by omega)]
  · rw [List.getElem?_eq_none (by rw [befs_len]; omega), List.getElem?_eq_none (by simp; omega)]
theorem befs_start (l : List Opn) (k : Nat) : (befs l k).set k ((orB [] : Nat) : Int) = befs l k := by
  apply List.ext_getElem?
  intro i
  rw [List.getElem?_set]
  by_cases h : k = i
  · subst h
    rw [if_pos rfl]
    split
    · rename_i hk; rw [befs_len] at hk; rw [befs_at l k k hk, if_neg (by omega)]; rfl
    · rename_i hk; rw [List.getElem?_eq_none (by omega)]
  · rw [if_neg h]
theorem befs_next (l : List Opn) (k : Nat) : (befs l k).set k ((orB (af l k) : Nat) : Int) = befs l (k + 1) := by
  apply List.ext_getElem?
  intro i
  rw [List.getElem?_set]
  by_cases h : i < l.length
  · by_cases e : k = i
    · subst e; rw [if_pos rfl, if_pos (by rw [befs_len]; exact h), befs_at l _ k h, if_pos (by omega)]
    · rw [if_neg e, befs_at l _ i h, befs_at l _ i h]
      by_cases hi : i < k
      · rw [if_pos hi, if_pos (by omega)]
      · rw [if_neg hi, if_neg (by omega)]
  · have h1 : (befs l k)[i]? = none := List.getElem?_eq_none (by rw [befs_len]; omega)
    have h2 : (befs l (k + 1))[i]? = none := List.getElem?_eq_none (by rw [befs_len]; omega)
    rw [h1, h2]
    split
    · rw [if_neg (by rw [befs_len]; omega)]
    · rfl









set_option maxRecDepth 100000 in
set_option maxHeartbeats 4000000 in
theorem least_any (A : Option Addr) (cap : Nat) (l : List Opn) (c : Int) (At : Option Addr) (capA : Nat) (at_ : List Int) (lim : Int) (w : World) (h : ORd w w.heap.size A l) (hs : OSmall l) (hsd : Sound l)
    (hat : IRd w w.heap.size At at_) (hla : at_.length = l.length) (ha : ∀ x ∈ at_, -1 ≤ x ∧ x ≤ 1000) (hc0 : 1 ≤ c) (hc1 : c ≤ 1000000) (hl0 : 0 ≤ lim) (hl1 : lim ≤ 100000000) :
    Calls Try.prog 27 #[.slice A l.length cap, .int .i64 c, .slice At l.length capA, .int .i64 lim] w fun e w' => LeastPost l c at_ lim e ∧ Below w.heap.size w w' := by
  have H := Lib.hid h
  have HS := Lib.hid hs
  have HSD := Lib.hid hsd
  have HAT := Lib.hid hat
  have HLA := Lib.hid hla
  have HAB := Lib.hid ha
  have hn : l.length ≤ 16 := hsd.len
  clear h hs hsd hat hla ha
  have hmk := mkInts l.length (by omega)
  obtain ⟨N, HN⟩ : ∃ N : Nat, Hid (N = 2 ^ l.length) := ⟨_, rfl⟩
  have hN0 : 1 ≤ N := by rw [HN.out]; exact Nat.two_pow_pos _
  have hN1 : N ≤ 65536 := by rw [HN.out]; exact pow16 hn
  have hsh : RowKit.wrap64 (2 ^ l.length) = (N : Int) := by rw [HN.out]; exact shl_at hn
  have HMK := Lib.hid (mkInts N (by omega))
  go_enter Try.func27, Try.ntmps27
  go_wp2_with fail
  rw [hsh]
  clear hmk hsh
  have HR0 : Hid (Row (w.alloc (.cells (intCells (List.replicate l.length 0)) 3)) w.heap.size (befs l 0)) := by rw [befs_zero]; exact Row.new w _
  go_loopw [12, 13, 15, 34] (fun _ _ _ j wr => ∃ k : Nat, k ≤ l.length ∧ j = .int .i64 k ∧ Row wr w.heap.size (befs l k) ∧ Below w.heap.size w wr) (fun _ _ _ j _ => l.length - (intOf j).toNat)
  case atStart => exact ⟨0, Nat.zero_le _, rfl, HR0.out, (Below.refl _ _).alloc (Nat.le_refl _) _⟩
  case round =>
    obtain ⟨k, hk, rfl, hrow, hb⟩ := hrel
    have HROW := Lib.hid hrow
    have HB := Lib.hid hb
    have hsz := hb.size
    have hrl := hrow.lt
    clear hrow hb HR0
    by_cases hlt : k < l.length
    · obtain ⟨b, off, o, rfl, hB, hd, hat0⟩ := H.out.at_ (Below.refl _ _) hlt
      obtain ⟨c0, c1, c2, ⟨Aa, ca, c3, a1, a2⟩, ⟨Au, cu, c4, u1, u2⟩⟩ := hat0
      have c0 := (HB.out.cell (p := ⟨b, _, none⟩) hB).trans c0
      have c1 := (HB.out.cell (p := ⟨b, _, none⟩) hB).trans c1
      have c2 := (HB.out.cell (p := ⟨b, _, none⟩) hB).trans c2
      have c3 := (HB.out.cell (p := ⟨b, _, none⟩) hB).trans c3
      have c4 := (HB.out.cell (p := ⟨b, _, none⟩) hB).trans c4
      have HA := Lib.hid a2
      have HAF := Lib.hid (af_at hd)
      have hso := (HS.out o (List.mem_of_getElem? hd)).2.1
      have HDX := Lib.hid (HSD.out.idx o (List.mem_of_getElem? hd))
      have HZ := Lib.hid (opNew wr o Aa Au ca cu 38)
      have HROW2 := Lib.hid (HROW.out.alloc (.cells #[.string o.name, .int .i64 o.mach, .int .i64 o.mins, .slice Aa o.after.length ca, .slice Au o.uses.length cu] 38))
      have HB2 := Lib.hid (HB.out.alloc hsz (.cells #[.string o.name, .int .i64 o.mach, .int .i64 o.mins, .slice Aa o.after.length ca, .slice Au o.uses.length cu] 38))
      clear hd a1 a2 u1 u2
      go_wp2_with fail
      revert HZ HROW2 HB2
      generalize wr.alloc (.cells #[.string o.name, .int .i64 o.mach, .int .i64 o.mins, .slice Aa o.after.length ca, .slice Au o.uses.length cu] 38) = w2
      intro HZ HROW2 HB2
      clear c0 c1 c2 c3 c4 HZ
      have HR3 : Hid (Row w2 w.heap.size ((befs l k).set k ((orB (o.after.take 0) : Nat) : Int))) := by rw [List.take_zero, befs_start]; exact HROW2.out
      obtain ⟨wo, rfl⟩ : ∃ wo : World, wo = wr := ⟨_, rfl⟩
      go_loopw [15, 42] (fun _ j wq => ∃ q : Nat, q ≤ o.after.length ∧ j = .int .i64 q ∧ Row wq w.heap.size ((befs l k).set k ((orB (o.after.take q) : Nat) : Int)) ∧ Below w.heap.size w wq) (fun _ j _ => o.after.length - (intOf j).toNat)
      case atStart => exact ⟨0, Nat.zero_le _, rfl, HR3.out, HB2.out⟩
      case round =>
        obtain ⟨q, hq, rfl, hrow, hb⟩ := hrel
        have HROW3 := Lib.hid hrow
        have HB3 := Lib.hid hb
        have hsz3 := hb.size
        have hrl3 := hrow.lt
        clear hrow hb HR3
        by_cases hlq : q < o.after.length
        · obtain ⟨b2, off2, x, rfl, hB2, hdx, cx⟩ := HA.out.at_ HB3.out hlq
          obtain ⟨x0, x1⟩ := HDX.out x (List.mem_of_getElem? hdx)
          have HTK := Lib.hid (take_snoc' hdx)
          obtain ⟨xn, rfl⟩ : ∃ xn : Nat, x = (xn : Int) := ⟨x.toNat, by omega⟩
          have hxn : xn ≤ 16 := by omega
          have hmlt : orB (o.after.take q) < 65536 := by
            have h1 : orB (o.after.take q) < 2 ^ l.length := orB_lt fun a ha => by have := HDX.out a (List.mem_of_mem_take ha); omega
            have := pow16 hn
            omega
          have HM : Hid (((orB (o.after.take (q + 1)) : Nat) : Int) = ((orB (o.after.take q) ||| 2 ^ xn : Nat) : Int)) := by show _ = _; rw [HTK.out, orB_snoc]; rfl
          have HROW4 := HROW3
          revert HROW4 HM hmlt
          generalize orB (o.after.take q) = m
          intro hmlt HM HROW4
          have cy := HROW4.out.cell (i := k) (x := (m : Int)) (by rw [List.getElem?_set, if_pos rfl, if_pos (by rw [befs_len]; exact hlt)])
          have cf := HROW4.out.free k
          have hsx := shl_at hxn
          have hp := pow16 hxn
          have HOR : Hid (bits .or .i64 (m : Int) (2 ^ xn) = ((m ||| 2 ^ xn : Nat) : Int)) := by
            have h1 := i64_or m (2 ^ xn) (by omega) (by omega)
            have h2 : ((2 ^ xn : Nat) : Int) = 2 ^ xn := by simp
            rw [h2] at h1; exact h1
          have HR6 : Hid (Row (wr.setCell ⟨w.heap.size, k, none⟩ (.int .i64 (bits .or .i64 (m : Int) (2 ^ xn)))) w.heap.size ((befs l k).set k ((orB (o.after.take (q + 1)) : Nat) : Int))) := by
            have h1 := HROW4.out.put k (bits .or .i64 (m : Int) (2 ^ xn))
            rw [List.set_set, HOR.out, ← HM.out] at h1
            rw [HOR.out, ← HM.out]; exact h1
          have HB6 := Lib.hid (HB3.out.setCell (p := ⟨w.heap.size, k, none⟩) (Nat.le_refl _) (.int .i64 (bits .or .i64 (m : Int) (2 ^ xn))))
          have hk0 : (0 : Int) ≤ (k : Int) := by omega
          have hk1 : (k : Int) < (l.length : Int) := by omega
          clear hdx hp
          go_wp2
          go_region
          go_wp2
          go_roundw
          case rel => exact ⟨q + 1, by omega, by go_num, HR6.out, HB6.out.drew⟩
          case measure => simp [intOf]; omega
        · have hql : q = o.after.length := by omega
          subst hql
          have HR5 : Hid (Row wr w.heap.size (befs l (k + 1))) := by
            have h1 := HROW3.out
            rw [List.take_length, ← HAF.out, befs_next] at h1
            exact h1
          go_wp2
          go_roundw
          case rel => exact ⟨k + 1, by omega, by go_num, HR5.out, HB3.out⟩
          case measure => simp [intOf]; omega
    · have hkl : k = l.length := by omega
      subst hkl
      have hmk := HMK.out
      go_wp2_with fail
      clear hmk
      obtain ⟨wo, rfl⟩ : ∃ wo : World, wo = wr := ⟨_, rfl⟩
      have HR7 : Hid (Row (wo.alloc (.cells (intCells (List.replicate N 0)) 3)) wo.heap.size (fillM 0 N)) := by rw [fillM_zero]; exact Row.new wo _
      have HR8 := Lib.hid (HROW.out.alloc (.cells (intCells (List.replicate N 0)) 3))
      have HB8 := Lib.hid (HB.out.alloc hsz (.cells (intCells (List.replicate N 0)) 3))
      clear HROW HB HMK
      go_loopw [17, 61] (fun _ j wq => ∃ q : Nat, q ≤ N ∧ j = .int .i64 q ∧ Row wq wo.heap.size (fillM q N) ∧ Row wq w.heap.size (befs l l.length) ∧ Below w.heap.size w wq) (fun _ j _ => N - (intOf j).toNat)
      case atStart => exact ⟨0, Nat.zero_le _, rfl, HR7.out, HR8.out, HB8.out⟩
      case round =>
        obtain ⟨q, hq, rfl, hrow, hrow2, hb⟩ := hrel
        have HF := Lib.hid hrow
        have HBE := Lib.hid hrow2
        have HB9 := Lib.hid hb
        have hrl9 := hrow.lt
        have hrf := hrow.free
        clear hrow hrow2 hb HR7 HR8 HB8
        by_cases hlq : q < N
        · have cy := HF.out.cell (i := q) (x := 0) (fillM_hi hlq)
          have cf := hrf q
          clear hrf
          have HF' := Lib.hid (HF.out.put q (-1))
          rw [fillM_next hlq] at HF'
          have HBE' := Lib.hid (HBE.out.far (p := ⟨wo.heap.size, q, none⟩) (show w.heap.size ≠ wo.heap.size by omega) (.int .i64 (-1)))
          have HB9' := Lib.hid (HB9.out.setCell (p := ⟨wo.heap.size, q, none⟩) (show w.heap.size ≤ wo.heap.size by omega) (.int .i64 (-1)))
          go_wp2
          go_roundw
          case rel => exact ⟨q + 1, by omega, by go_num, HF'.out, HBE'.out, HB9'.out⟩
          case measure => simp [intOf]; omega
        · obtain rfl : N = q := by omega
          have cy := HF.out.cell (i := 0) (x := -1) (fillM_lo hN0)
          have cf := hrf 0
          clear hrf
          have HE0 : Hid (Row (wr.setCell ⟨wo.heap.size, 0, none⟩ (.int .i64 0)) wo.heap.size (dp l c at_ lim 0)) := by
            have h1 := HF.out.put 0 0
            rw [fillM_all, HN.out] at h1
            exact h1
          have HBE' := Lib.hid (HBE.out.far (p := ⟨wo.heap.size, 0, none⟩) (show w.heap.size ≠ wo.heap.size by omega) (.int .i64 0))
          have HB9' := Lib.hid (HB9.out.setCell (p := ⟨wo.heap.size, 0, none⟩) (show w.heap.size ≤ wo.heap.size by omega) (.int .i64 0))
          go_wp2_with fail
          clear cy cf
          obtain ⟨w5, HW5⟩ : ∃ w5 : World, Hid (w5 = wr) := ⟨_, rfl⟩
          go_loopw [18, 19, 20, 21, 22, 23, 24, 72] (fun _ _ _ _ _ _ _ j wq => ∃ s : Nat, s ≤ N ∧ j = .int .i64 s ∧ Row wq wo.heap.size (dp l c at_ lim s) ∧ Row wq w.heap.size (befs l l.length) ∧ Below w.heap.size w wq) (fun _ _ _ _ _ _ _ j _ => N - (intOf j).toNat)
          case atStart => exact ⟨0, Nat.zero_le _, rfl, HE0.out, HBE'.out, HB9'.out⟩
          case round =>
            clear HE0 HBE' HB9' HW5 HF HBE HB9 hrl9
            obtain ⟨s, hs, rfl, hrow, hrow2, hb⟩ := hrel
            have HE := Lib.hid hrow
            have HBE := Lib.hid hrow2
            have HB := Lib.hid hb
            have hrl2 := hrow.lt
            have hsz2 := hb.size
            clear hrow hrow2 hb
            have HEL := Lib.hid (dp_len l c at_ lim s)
            have HBD := Lib.hid (dp_bd (c := c) (at_ := at_) HSD.out hl0 s)
            by_cases hlt : s < N
            · have hsl : s < (dp l c at_ lim s).length := by rw [HEL.out, ← HN.out]; exact hlt
              have ce := HE.out.cell (getD_some hsl)
              have he0 := (HBD.out.at_ hsl).1
              have he1 := (HBD.out.at_ hsl).2
              have HDS := Lib.hid (dp_skip (l := l) (c := c) (at_ := at_) (lim := lim) (s := s))
              have HDT := Lib.hid (dp_take (l := l) (c := c) (at_ := at_) (lim := lim) (s := s))
              clear hsl
              revert HE HEL HBD ce he0 he1 HDS HDT
              generalize dp l c at_ lim s = E
              intro HE HEL HBD ce he0 he1 HDS HDT
              obtain ⟨e, HEV⟩ : ∃ e, Hid (E.getD s 0 = e) := ⟨_, rfl⟩
              rw [HEV.out] at ce he0 he1
              by_cases hneg : e < 0
              · have HD := Lib.hid (HDS.out (by rw [HEV.out]; exact hneg))
                go_wp2
                go_roundw
                case rel => exact ⟨s + 1, by omega, by go_num, by rw [HD.out]; exact HE.out, HBE.out, HB.out⟩
                case measure => simp [intOf]; omega
              · have HD := Lib.hid (HDT.out (by rw [HEV.out]; omega))
                have he2 : 0 ≤ e := by omega
                clear HDS HDT hneg he0
                obtain ⟨w6, rfl⟩ : ∃ w6 : World, w6 = wr := ⟨_, rfl⟩
                go_wp2_with fail
                clear ce
                go_loopw [20, 21, 22, 23, 24, 81] (fun _ _ _ _ _ j wq => ∃ i : Nat, i ≤ l.length ∧ j = .int .i64 i ∧ Row wq wo.heap.size (inn l c at_ lim s E i) ∧ Row wq w.heap.size (befs l l.length) ∧ Below w.heap.size w wq) (fun _ _ _ _ _ j _ => l.length - (intOf j).toNat)
                case atStart => exact ⟨0, Nat.zero_le _, rfl, HE.out, HBE.out, HB.out⟩
                case round =>
                  clear HE HBE HB hrl2 hsz2
                  obtain ⟨i, hi, rfl, hrow, hrow2, hb⟩ := hrel
                  have HE := Lib.hid hrow
                  have HBE := Lib.hid hrow2
                  have HB := Lib.hid hb
                  have hrl2 := hrow.lt
                  have hrl1 := hrow2.lt
                  have hsz2 := hb.size
                  clear hrow hrow2 hb
                  by_cases hil : i < l.length
                  · obtain ⟨b, off, o, rfl, hB, hd, hat0⟩ := H.out.at_ (Below.refl _ _) hil
                    obtain ⟨c0, c1, c2, ⟨Aa, ca, c3, a1, a2⟩, ⟨Au, cu, c4, u1, u2⟩⟩ := hat0
                    have c0 := (HB.out.cell (p := ⟨b, _, none⟩) hB).trans c0
                    have c1 := (HB.out.cell (p := ⟨b, _, none⟩) hB).trans c1
                    have c2 := (HB.out.cell (p := ⟨b, _, none⟩) hB).trans c2
                    have c3 := (HB.out.cell (p := ⟨b, _, none⟩) hB).trans c3
                    have c4 := (HB.out.cell (p := ⟨b, _, none⟩) hB).trans c4
                    have HAF := Lib.hid (af_at hd)
                    have HMN := Lib.hid (mn_at hd)
                    have hm0 := (HSD.out.mins o (List.mem_of_getElem? hd)).1
                    have hm1 := (HSD.out.mins o (List.mem_of_getElem? hd)).2
                    have HNL := Lib.hid (nxt_lt (n := l.length) (show s < 2 ^ l.length by rw [← HN.out]; exact hlt) hil)
                    have HBT := Lib.hid (bit_test (s := s) (i := i) (by omega))
                    have HFT := Lib.hid (bef_test HSD.out (s := s) (i := i) hil (by omega))
                    have cbe := HBE.out.cell (i := i) (x := ((orB (af l i) : Nat) : Int)) (by rw [befs_at l _ i hil, if_pos hil])
                    clear hd a1 a2 u1 u2
                    cases hbit : s.testBit i with
                    | true =>
                      have hb1 : (bits .and .i64 ((s : Int) / 2 ^ i) 1 != 0) = true := by rw [HBT.out, hbit]
                      have HI := Lib.hid (inn_skip (l := l) (c := c) (at_ := at_) (lim := lim) (E := E) (.inl (ready_no1 hbit)))
                      clear hbit
                      go_wp2
                      go_roundw
                      case rel => exact ⟨i + 1, by omega, by go_num, by rw [HI.out]; exact HE.out.alloc _, HBE.out.alloc _, HB.out.alloc hsz2 _⟩
                      case measure => simp [intOf]; omega
                    | false =>
                      have hb1 : (bits .and .i64 ((s : Int) / 2 ^ i) 1 != 0) = false := by rw [HBT.out, hbit]
                      cases hbef : ((af l i).all fun a => s.testBit a.toNat) with
                      | false =>
                        have hb2 : (bits .andNot .i64 ((orB (af l i) : Nat) : Int) (s : Int) != 0) = true := by rw [HFT.out, hbef]; rfl
                        have HI := Lib.hid (inn_skip (l := l) (c := c) (at_ := at_) (lim := lim) (E := E) (.inl (ready_no2 hbef)))
                        clear hbit hbef
                        go_wp2
                        go_roundw
                        case rel => exact ⟨i + 1, by omega, by go_num, by rw [HI.out]; exact HE.out.alloc _, HBE.out.alloc _, HB.out.alloc hsz2 _⟩
                        case measure => simp [intOf]; omega
                      | true =>
                        have hb2 : (bits .andNot .i64 ((orB (af l i) : Nat) : Int) (s : Int) != 0) = false := by rw [HFT.out, hbef]; rfl
                        have HRY := Lib.hid (ready_yes1 hbit hbef)
                        have hsx := shl_at (show i ≤ 16 by omega)
                        have HOR : Hid (bits .or .i64 (s : Int) (2 ^ i) = ((nxt s i : Nat) : Int)) := by
                          have h1 := nxt_or (s := s) (i := i) (by omega) (by omega)
                          have h2 : ((2 ^ i : Nat) : Int) = 2 ^ i := by simp
                          rw [h2] at h1; exact h1
                        have HZ := Lib.hid (opNew wr o Aa Au ca cu 38)
                        have HE2 := Lib.hid (HE.out.alloc (.cells #[.string o.name, .int .i64 o.mach, .int .i64 o.mins, .slice Aa o.after.length ca, .slice Au o.uses.length cu] 38))
                        have HBE2 := Lib.hid (HBE.out.alloc (.cells #[.string o.name, .int .i64 o.mach, .int .i64 o.mins, .slice Aa o.after.length ca, .slice Au o.uses.length cu] 38))
                        have HB2 := Lib.hid (HB.out.alloc hsz2 (.cells #[.string o.name, .int .i64 o.mach, .int .i64 o.mins, .slice Aa o.after.length ca, .slice Au o.uses.length cu] 38))
                        clear hbit hbef
                        go_wp2_with fail
                        rw [HOR.out]
                        revert HZ HE2 HBE2 HB2
                        generalize wr.alloc (.cells #[.string o.name, .int .i64 o.mach, .int .i64 o.mins, .slice Aa o.after.length ca, .slice Au o.uses.length cu] 38) = w2
                        intro HZ HE2 HBE2 HB2
                        obtain ⟨_, _, z2, _, _, hz0, _⟩ := HZ.out
                        obtain ⟨ba, offa, x, rfl, hBa, hdx, cx⟩ := HAT.out.at_ HB2.out (show i < at_.length by rw [HLA.out]; exact hil)
                        obtain ⟨x0, x1⟩ := HAB.out x (List.mem_of_getElem? hdx)
                        have HX : Hid (at_.getD i 0 = x) := by show _ = _; rw [List.getD_eq_getElem?_getD, hdx]; rfl
                        have HIS := Lib.hid (inn_skip (l := l) (c := c) (at_ := at_) (lim := lim) (s := s) (i := i) (E := E))
                        have HIT := Lib.hid (inn_take (l := l) (c := c) (at_ := at_) (lim := lim) (s := s) (i := i) (E := E) HRY.out)
                        rw [HEV.out, HX.out, HMN.out] at HIS HIT
                        have hnl : nxt s i < N := by rw [HN.out]; exact HNL.out
                        have cn0 : nxt s i < (inn l c at_ lim s E i).length := by rw [inn_len, HEL.out]; exact HNL.out
                        have cn := HE2.out.cell (getD_some cn0)
                        have cnf := HE2.out.free (nxt s i)
                        have HC : Hid (∀ n, Calls Try.prog 36 #[.int .i64 e, .int .i64 c, .int .i64 o.mins, .int .i64 x] (w2.drewN n) fun e' w' => e' = .returned (.tuple #[.int .i64 (addV e c o.mins x), .bool (addOk e c o.mins x)]) ∧ w2.drewN n = w') :=
                          fun n => add_any e c o.mins x (w2.drewN n) he2 (by omega) hc0 hc1 hm0 hm1 x0 x1
                        clear hdx cn0 c0 c1 c2 c3 c4 HZ cbe hb1 hb2 HOR HNL HBT HFT
                        have HE3 := Lib.hid (HE2.out.put (nxt s i) (addV e c o.mins x))
                        have HBE3 := Lib.hid (HBE2.out.far (p := ⟨wo.heap.size, nxt s i, none⟩) (show w.heap.size ≠ wo.heap.size by omega) (.int .i64 (addV e c o.mins x)))
                        have HB3 := Lib.hid (HB2.out.setCell (p := ⟨wo.heap.size, nxt s i, none⟩) (show w.heap.size ≤ wo.heap.size by omega) (.int .i64 (addV e c o.mins x)))
                        revert HIS HIT HC HE3 HBE3 HB3 cn cnf hnl
                        generalize addV e c o.mins x = v
                        generalize addOk e c o.mins x = okb
                        generalize nxt s i = nx
                        generalize (inn l c at_ lim s E i).getD nx 0 = y
                        intro HIS HIT hnl cn cnf HC HE3 HBE3 HB3
                        have hi0 : (0 : Int) ≤ (i : Int) := by omega
                        have hi1 : (i : Int) < (l.length : Int) := by omega
                        go_quiet ((go_at_call 36; exact quiet_same (HC.out _)))
                        cases okb with
                        | false =>
                          have HI := Lib.hid (HIS.out (.inr (.inl rfl)))
                          go_wp2
                          go_roundw
                          case rel => exact ⟨i + 1, by omega, by go_num, by rw [HI.out]; exact HE2.out, HBE2.out, below_drewN HB2.out _⟩
                          case measure => simp [intOf]; omega
                        | true =>
                          by_cases hvl : v ≤ lim
                          · by_cases hy : y < 0
                            · have HI := Lib.hid (HIT.out rfl hvl (.inl hy))
                              go_wp2
                              go_roundw
                              case rel => exact ⟨i + 1, by omega, by go_num, by rw [HI.out]; exact HE3.out, HBE3.out, below_drewN HB3.out _⟩
                              case measure => simp [intOf]; omega
                            · by_cases hvy : v < y
                              · have HI := Lib.hid (HIT.out rfl hvl (.inr hvy))
                                go_wp2
                                go_roundw
                                case rel => exact ⟨i + 1, by omega, by go_num, by rw [HI.out]; exact HE3.out, HBE3.out, below_drewN HB3.out _⟩
                                case measure => simp [intOf]; omega
                              · have HI := Lib.hid (HIS.out (.inr (.inr (.inr ⟨by omega, by omega⟩))))
                                go_wp2
                                go_roundw
                                case rel => exact ⟨i + 1, by omega, by go_num, by rw [HI.out]; exact HE2.out, HBE2.out, below_drewN HB2.out _⟩
                                case measure => simp [intOf]; omega
                          · have HI := Lib.hid (HIS.out (.inr (.inr (.inl (by omega)))))
                            go_wp2
                            go_roundw
                            case rel => exact ⟨i + 1, by omega, by go_num, by rw [HI.out]; exact HE2.out, HBE2.out, below_drewN HB2.out _⟩
                            case measure => simp [intOf]; omega
                  · obtain rfl : l.length = i := by omega
                    go_wp2
                    go_roundw
                    case rel => exact ⟨s + 1, by omega, by go_num, by rw [HD.out]; exact HE.out, HBE.out, HB.out⟩
                    case measure => simp [intOf]; omega
            · obtain rfl : N = s := by omega
              have hll : N - 1 < (dp l c at_ lim N).length := by rw [HEL.out, ← HN.out]; omega
              have ce := HE.out.cell (getD_some hll)
              have HLE : Hid (leastE l c at_ lim = (dp l c at_ lim N).getD (N - 1) 0) := by show _ = _; unfold leastE; rw [← HN.out]
              clear hll HEL HBD
              revert HLE ce
              generalize (dp l c at_ lim N).getD (N - 1) 0 = e
              intro ce HLE
              by_cases hneg : e < 0
              · go_wp2
                go_ret2
                exact ⟨leastPost_no (by rw [HLE.out]; exact hneg), HB.out⟩
              · go_wp2
                go_ret2
                exact ⟨leastPost_yes (by rw [HLE.out]; omega) HLE.out, HB.out⟩
end Go.Proofs.Ytlbkfphepneflaa
