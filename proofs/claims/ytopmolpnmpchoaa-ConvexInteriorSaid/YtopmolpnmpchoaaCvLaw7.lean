/- The walk of the law ConvexInterior: it returns true. -/
import Derived.Test.YtopmolpnmpchoaaCvOpen
import Derived.Test.YtopmolpnmpchoaaCvBetw
import Derived.Deep.DeepCutAuto
import Derived.Deep.RegionLaw
namespace Go.Proofs.Ytopmolpnmpchoaa
open Go.RowKit

def onN (h : List Pt) (q : Pt) : Nat → Bool
  | 0 => false
  | k + 1 => onN h q k || decide (betw (rd h k) (rd h (k + 1)) q)
theorem onN_iff (h : List Pt) (q : Pt) : ∀ k, onN h q k = true ↔ ∃ i, i < k ∧ betw (rd h i) (rd h (i + 1)) q
  | 0 => by simp [onN]
  | k + 1 => by
    unfold onN
    rw [Bool.or_eq_true, onN_iff h q k, decide_eq_true_iff]
    constructor
    · rintro (⟨i, hi, hb⟩ | hb)
      · exact ⟨i, by omega, hb⟩
      · exact ⟨k, by omega, hb⟩
    · rintro ⟨i, hi, hb⟩
      by_cases e : i = k
      · rw [e] at hb; exact .inr hb
      · exact .inl ⟨i, by omega, hb⟩
theorem law_in {l : List Pt} {q : Pt} (hl : l.length ≤ 60) (hq : In 1048576 q) (h : hullE l = 0) :
    hullE (l ++ [q]) = 0 ∧ insV l q = (decide (hullV (l ++ [q]) = hullV l) && !onN (hullV l) q (hullV l).length) := by
  obtain ⟨h1, h2⟩ := law_interior hl hq h
  refine ⟨h1, ?_⟩
  have h4 : In 4194304 q := hq.more (by decide)
  rw [insV_is h, Bool.eq_iff_iff]
  unfold insB
  rw [Bool.and_eq_true, Bool.and_eq_true, decide_eq_true_iff, decide_eq_true_iff, decide_eq_true_iff, h2, Bool.not_eq_true', ← Bool.not_eq_true, onN_iff]
  constructor
  · rintro ⟨_, e, hn⟩; exact ⟨e, hn⟩
  · rintro ⟨e, hn⟩; exact ⟨h4, e, hn⟩
theorem law_in_dot {l : List Pt} {q d : Pt} (hd : In 1000 d) (hd0 : d ≠ ⟨0, 0⟩) (h : hullE l = 0) (hi : insV l q = true) : q.x * d.x + q.y * d.y < supF (dotL d) l := by
  rw [insV_is h] at hi
  unfold insB at hi
  rw [Bool.and_eq_true, decide_eq_true_iff, decide_eq_true_iff] at hi
  have := law_interior_dot hd hd0 h hi.2
  unfold lv at this
  rw [Int.mul_comm q.x, Int.mul_comm q.y]
  exact this
theorem own_mono7 {w : World} {base base' e size n : Nat} {v : Value} {xs : List Value} (h : w.ownsRow base e size v n xs) (hb : base' ≤ base) : w.ownsRow base' e size v n xs := by
  refine ⟨h.1, ?_⟩
  rcases h.2 with h0 | ⟨g, cap, cur, hv, h1, h2⟩
  · exact .inl h0
  · exact .inr ⟨g, cap, cur, hv, by omega, h2⟩
theorem step_append_rd7 {P : Program} {w : World} {ops : Array Oper} {o : Oper} {a : Act} {K : Act → World → Prop} {Q : Exit → Act → World → Prop} {E : Prop} (hgd : o.guard = none) (s x : Operand) (t : TypeId)
    (ho : o.op = .call { callee := .builtin .append, args := #[s, x], argTypes := #[t, t] })
    (base : Nat) (e : TypeId) (i : TypeInfo) (z : Value) (size bytes : Nat) (ht : P.underlying t = some (.slice e)) (hi : P.info? e = some i) (hz : i.zero = some z)
    (hsize : i.size = size) (hby : i.bytes = bytes) (hzs : z.cells.size = size) (hsz : 0 < size)
    (v : Value) (n : Nat) (xs : List Value) (hs : a.eval s = v) (hown : w.ownsRow base e size v n xs)
    (A : Option Addr) (m c : Nat) (news : List Value) (hx : a.eval x = .slice A m c) (hl : news.length = m * size)
    (hA : A = none → m = 0 ∧ c = 0) (hnews : ∀ ad, A = some ad → ∀ j u, news[j]? = some u → w.cell? (ad.add j) = some u) (h1 : ∀ u ∈ news, u.oneCell' = true)
    (h63 : n + m ≤ maxLen) (hbytes : (n + m) * bytes ≤ 140737488355328) (hbase : base ≤ w.heap.size)
    (h : ∀ v' w', w'.ownsRow base e size v' (n + m) (xs ++ news) → w.grownBy w' v.ownBlock → K (a.put o.dst v') w') :
    if Region.wanted o (yielded ops a.tmps) = true then Oper.wp P o a w K Q else E := by
  have hw : Region.wanted o (yielded ops a.tmps) = true := by simp [Region.wanted, hgd]
  rw [if_pos hw]
  exact wp_append_rd s x t ho base e i z size bytes ht hi hz hsize hby hzs hsz v n xs hs hown A m c news hx hl hA hnews h1 h63 hbytes hbase h

set_option maxRecDepth 100000 in
set_option maxHeartbeats 8000000 in
theorem convexInterior_walk (A : Option Addr) (cap : Nat) (l : List Pt) (q d : Pt) (w : World) (h : PSl w A cap l) (hm : l.length ≤ 9223372036854775807) :
    Calls Try.prog 10 #[.slice A l.length cap, .agg #[.int .i64 q.x, .int .i64 q.y], .agg #[.int .i64 d.x, .int .i64 d.y]] w fun e w' => e = .returned (.bool true) ∧ Below w.heap.size w w' := by
  obtain ⟨i0, hi0, hz0, hz1, hz2⟩ := info_parts infoPt
  have HB0 := hid (below2 w (.cells #[.int .i64 q.x, .int .i64 q.y] 31) (.cells #[.int .i64 d.x, .int .i64 d.y] 31))
  have H0 := hid (h.keep HB0.out)
  have HQ0 : Hid (Box ((w.alloc (.cells #[.int .i64 q.x, .int .i64 q.y] 31)).alloc (.cells #[.int .i64 d.x, .int .i64 d.y] 31)) w.heap.size q) := (Box.new w q).alloc _
  have HD0 : Hid (Box ((w.alloc (.cells #[.int .i64 q.x, .int .i64 q.y] 31)).alloc (.cells #[.int .i64 d.x, .int .i64 d.y] 31)) (w.heap.size + 1) d) := by
    have := Box.new (w.alloc (.cells #[.int .i64 q.x, .int .i64 q.y] 31)) d
    rw [World.size_alloc] at this
    exact this
  clear h
  by_cases hl : 60 < l.length
  · go_enter Try.func10, Try.ntmps10
    go_wp2_with fail
    ((with_reducible refine (awake_any _).mono ?_); rintro e w1 ⟨rfl, hb1⟩)
    go_wp2
    go_ret
    exact ⟨rfl, HB0.out.trans (hb1.mono HB0.out.size)⟩
  · go_enter Try.func10, Try.ntmps10
    go_wp2_with fail
    ((with_reducible refine (near_any A cap l _ H0.out.rd (by omega)).mono ?_); rintro e w1 ⟨rfl, hb1⟩)
    have HB1 := hid (HB0.out.trans (hb1.mono HB0.out.size))
    have H1 := hid (H0.out.keep hb1)
    have HQ1 := hid (HQ0.out.below hb1 HQ0.out.lt)
    have HD1 := hid (HD0.out.below hb1 HD0.out.lt)
    have q0 := HQ1.out.x
    have q1 := HQ1.out.y
    clear hb1 HB0 H0 HQ0 HD0
    generalize hna : decide (∀ p ∈ l, In 1048576 p) = na
    cases na with
    | false =>
      clear hna
      go_wp2_with fail
      ((with_reducible refine (awake_any _).mono ?_); rintro e w2 ⟨rfl, hb2⟩)
      go_wp2
      go_ret
      exact ⟨rfl, HB1.out.trans (hb2.mono HB1.out.size)⟩
    | true =>
      clear hna
      go_wp2_with fail
      ((with_reducible refine (within_any q 1048576 _ (by decide) (by decide)).mono ?_); rintro e w2 ⟨rfl, hb2⟩)
      have HB2 := hid (HB1.out.trans (hb2.mono HB1.out.size))
      have H2 := hid (H1.out.keep hb2)
      have HQ2 := hid (HQ1.out.below hb2 HQ1.out.lt)
      have HD2 := hid (HD1.out.below hb2 HD1.out.lt)
      have d0 := HD2.out.x
      have d1 := HD2.out.y
      clear hb2 HB1 H1 HQ1 HD1 q0 q1
      generalize hiq : decide (In 1048576 q) = iq
      cases iq with
      | false =>
        clear hiq
        go_wp2_with fail
        ((with_reducible refine (awake_any _).mono ?_); rintro e w3 ⟨rfl, hb3⟩)
        go_wp2
        go_ret
        exact ⟨rfl, HB2.out.trans (hb3.mono HB2.out.size)⟩
      | true =>
        have HQI := hid (of_decide_eq_true hiq)
        clear hiq
        go_wp2_with fail
        ((with_reducible refine (within_any d 1000 _ (by decide) (by decide)).mono ?_); rintro e w3 ⟨rfl, hb3⟩)
        have HB3 := hid (HB2.out.trans (hb3.mono HB2.out.size))
        have H3 := hid (H2.out.keep hb3)
        have HQ3 := hid (HQ2.out.below hb3 HQ2.out.lt)
        have HD3 := hid (HD2.out.below hb3 HD2.out.lt)
        clear hb3 HB2 H2 HQ2 HD2 d0 d1
        generalize hidd : decide (In 1000 d) = idd
        cases idd with
        | false =>
          clear hidd
          go_wp2_with fail
          ((with_reducible refine (awake_any _).mono ?_); rintro e w4 ⟨rfl, hb4⟩)
          go_wp2
          go_ret
          exact ⟨rfl, HB3.out.trans (hb4.mono HB3.out.size)⟩
        | true =>
          have HDI := hid (of_decide_eq_true hidd)
          clear hidd
          go_wp2_with fail
          ((with_reducible refine (Hull_any A cap l _ H3.out hm).mono ?_); rintro e w4 ⟨⟨A4, c4, rfl, hs4⟩, hb4⟩)
          have HB4 := hid (HB3.out.trans (hb4.mono HB3.out.size))
          have H4 := hid (H3.out.keep hb4)
          have HQ4 := hid (HQ3.out.below hb4 HQ3.out.lt)
          have HD4 := hid (HD3.out.below hb4 HD3.out.lt)
          have HS4 := hid hs4
          have q0 := HQ4.out.x
          have q1 := HQ4.out.y
          clear hb4 hs4 HB3 H3 HQ3 HD3
          go_wp2_with fail
          ((with_reducible refine (inside_any A cap l q _ H4.out hm).mono ?_); rintro e w5 ⟨rfl, hb5⟩)
          have HB5 := hid (HB4.out.trans (hb5.mono HB4.out.size))
          have H5 := hid (H4.out.keep hb5)
          have HQ5 := hid (HQ4.out.below hb5 HQ4.out.lt)
          have HD5 := hid (HD4.out.below hb5 HD4.out.lt)
          have HS5 := hid (HS4.out.keep hb5)
          clear hb5 HB4 H4 HQ4 HD4 HS4 q0 q1
          by_cases he : hullE l = 0
          · obtain ⟨hmz, hiv⟩ := law_in (q := q) (by omega) HQI.out he
            have HDOT : Hid (d ≠ ⟨0, 0⟩ → insV l q = true → q.x * d.x + q.y * d.y < supF (dotL d) l) := fun hd hi => law_in_dot HDI.out hd he hi
            have HIV := hid hiv
            obtain ⟨_, hin, hve, HH⟩ := hullE_ok he
            have hv3 : 3 ≤ (hullV l).length := by rw [hve]; exact HH.len
            have hvl := (hullV_len (l := l)).1
            have hml := (hullV_len (l := l ++ [q])).2
            have HVB := hid (bd_of (hullV_in (l := l)))
            have HCM : Hid (∀ A' c' wx, PSl wx A' c' (l ++ [q]) → Calls Try.prog 12 #[.slice A' (l.length + 1) c'] wx fun e w' => (∃ A'' c'', e = .returned (.tuple #[.slice A'' (hullV (l ++ [q])).length c'', .int .i64 0]) ∧ PSl w' A'' c'' (hullV (l ++ [q]))) ∧ Below wx.heap.size wx w') := fun A' c' wx hp => by
              have := Hull_any A' c' (l ++ [q]) wx hp (by simp; omega)
              unfold HullPost at this
              rw [hmz, List.length_append] at this
              exact this
            obtain ⟨b, off, p0, hA, hbl, hd0, x0, x1⟩ := H5.out.rd.at_ (Below.refl _ _) (show 0 < l.length by omega)
            subst hA
            rw [he]
            clear he hmz hiv hve HH hin hd0 x0 x1
            generalize hullV (l ++ [q]) = m at *
            generalize hullV l = v at *
            generalize insV l q = iv at *
            have q0 := HQ5.out.x
            have q1 := HQ5.out.y
            have hqw := HQ5.out.lt
            have HOWa : Hid ((w5.alloc (.cells #[] 31)).ownsRow w5.heap.size 31 2 (.slice (some ⟨w5.heap.size, 0, none⟩) 0 0) 0 []) := World.ownsRow_made w5 #[] 0 (Nat.le_refl _) (Nat.zero_le _) rfl
            have HOWb : Hid (((w5.alloc (.cells #[] 31)).alloc (.cells #[.int .i64 q.x, .int .i64 q.y] 31)).ownsRow w5.heap.size 31 2 (.slice (some ⟨w5.heap.size, 0, none⟩) 0 0) 0 []) := HOWa.out.alloc _
            have HOWc : Hid (((w5.alloc (.cells #[.int .i64 q.x, .int .i64 q.y] 31)).alloc (.cells #[] 31)).ownsRow w5.heap.size 31 2 (.slice (some ⟨w5.heap.size + 1, 0, none⟩) 0 0) 0 []) := by
              have : ((w5.alloc (.cells #[.int .i64 q.x, .int .i64 q.y] 31)).alloc (.cells #[] 31)).ownsRow (w5.alloc (.cells #[.int .i64 q.x, .int .i64 q.y] 31)).heap.size 31 2 (.slice (some ⟨(w5.alloc (.cells #[.int .i64 q.x, .int .i64 q.y] 31)).heap.size, 0, none⟩) 0 0) 0 [] := World.ownsRow_made (w5.alloc (.cells #[.int .i64 q.x, .int .i64 q.y] 31)) #[] 0 (Nat.le_refl _) (Nat.zero_le _) rfl
              rw [World.size_alloc] at this
              exact own_mono7 this (by omega)
            have HDa : Hid (PRd (w5.alloc (.cells #[] 31)) w5.heap.size (some ⟨b, off, none⟩) l) := H5.out.rd.below (below1 w5 _)
            have HDb : Hid (PRd ((w5.alloc (.cells #[] 31)).alloc (.cells #[.int .i64 q.x, .int .i64 q.y] 31)) w5.heap.size (some ⟨b, off, none⟩) l) := H5.out.rd.below (below2 w5 _ _)
            have HDc : Hid (PRd ((w5.alloc (.cells #[.int .i64 q.x, .int .i64 q.y] 31)).alloc (.cells #[] 31)) w5.heap.size (some ⟨b, off, none⟩) l) := H5.out.rd.below (below2 w5 _ _)
            have HXb : Hid (Box ((w5.alloc (.cells #[] 31)).alloc (.cells #[.int .i64 q.x, .int .i64 q.y] 31)) (w5.heap.size + 1) q) := by
              have := Box.new (w5.alloc (.cells #[] 31)) q
              rw [World.size_alloc] at this
              exact this
            have HXc : Hid (Box ((w5.alloc (.cells #[.int .i64 q.x, .int .i64 q.y] 31)).alloc (.cells #[] 31)) w5.heap.size q) := (Box.new w5 q).alloc _
            go_wp2_with fail
            go_cut [11, 12] (fun s11 s12 wx => (∃ A' c', s11 = .slice A' m.length c' ∧ PSl wx A' c' m) ∧ s12 = .int .i64 0 ∧ Below w5.heap.size w5 wx)
            case first =>
              go_region_law (first
                | (refine step_append_rd7 (by rfl) _ _ _ (by rfl) w5.heap.size 31 i0 _ 2 16 Try.underlying22 hi0 hz0 hz1 hz2 rfl (by omega) (.slice (some ⟨w5.heap.size, 0, none⟩) 0 0) 0 [] (by rfl) HOWa.out (some ⟨b, off, none⟩) l.length cap (pCells l) (by rfl) (by rw [pCells_len]) (fun e => (by cases e)) HDa.out.news (pCells_one l) (by unfold maxLen; omega) (by omega) (by simp; try omega) ?_; intro v1 w1 hown1 hgrow1; have hbA : Below w5.heap.size w5 w1 := (below1 w5 (.cells #[] 31)).drew.grown hgrow1 (by simp; try omega) (fun g hg => by simp [Value.ownBlock] at hg; omega);  rw [Nat.zero_add, List.nil_append] at hown1; obtain ⟨AA, cA, rfl, -, -⟩ := own_slice hown1; have e0 := (hbA.cell (p := ⟨w.heap.size, _, none⟩) hqw).trans q0; have e1 := (hbA.cell (p := ⟨w.heap.size, _, none⟩) hqw).trans q1; clear hgrow1)
                | (refine step_append_rd7 (by rfl) _ _ _ (by rfl) w5.heap.size 31 i0 _ 2 16 Try.underlying22 hi0 hz0 hz1 hz2 rfl (by omega) (.slice (some ⟨w5.heap.size, 0, none⟩) 0 0) 0 [] (by rfl) HOWb.out (some ⟨b, off, none⟩) l.length cap (pCells l) (by rfl) (by rw [pCells_len]) (fun e => (by cases e)) HDb.out.news (pCells_one l) (by unfold maxLen; omega) (by omega) (by simp; try omega) ?_; intro v1 w1 hown1 hgrow1; have hbA : Below w5.heap.size w5 w1 := (below2 w5 (.cells #[] 31) (.cells #[.int .i64 q.x, .int .i64 q.y] 31)).drew.grown hgrow1 (by simp; try omega) (fun g hg => by simp [Value.ownBlock] at hg; omega); have hX1 : Box w1 (w5.heap.size + 1) q := (hgrow1.block (w5.heap.size + 1) (by simp) (by simp [Value.ownBlock])).trans HXb.out; rw [Nat.zero_add, List.nil_append] at hown1; obtain ⟨AA, cA, rfl, -, -⟩ := own_slice hown1; have e0 := (hbA.cell (p := ⟨w.heap.size, _, none⟩) hqw).trans q0; have e1 := (hbA.cell (p := ⟨w.heap.size, _, none⟩) hqw).trans q1; clear hgrow1)
                | (refine step_append_rd7 (by rfl) _ _ _ (by rfl) w5.heap.size 31 i0 _ 2 16 Try.underlying22 hi0 hz0 hz1 hz2 rfl (by omega) (.slice (some ⟨w5.heap.size + 1, 0, none⟩) 0 0) 0 [] (by rfl) HOWc.out (some ⟨b, off, none⟩) l.length cap (pCells l) (by rfl) (by rw [pCells_len]) (fun e => (by cases e)) HDc.out.news (pCells_one l) (by unfold maxLen; omega) (by omega) (by simp; try omega) ?_; intro v1 w1 hown1 hgrow1; have hbA : Below w5.heap.size w5 w1 := (below2 w5 (.cells #[.int .i64 q.x, .int .i64 q.y] 31) (.cells #[] 31)).drew.grown hgrow1 (by simp; try omega) (fun g hg => by simp [Value.ownBlock] at hg; omega); have hX1 : Box w1 w5.heap.size q := (hgrow1.block w5.heap.size (by simp; try omega) (by simp [Value.ownBlock])).trans HXc.out; rw [Nat.zero_add, List.nil_append] at hown1; obtain ⟨AA, cA, rfl, -, -⟩ := own_slice hown1; have e0 := (hbA.cell (p := ⟨w.heap.size, _, none⟩) hqw).trans q0; have e1 := (hbA.cell (p := ⟨w.heap.size, _, none⟩) hqw).trans q1; clear hgrow1)
                | (refine step_append_lies _ (by rfl) _ _ _ (by rfl) w5.heap.size 31 i0 _ 2 16 Try.underlying22 hi0 hz0 hz1 hz2 rfl (by omega) (.slice AA l.length cA) l.length (pCells l) (by rfl) hown1 ⟨_, 0, none⟩ 1 1 [.int .i64 q.x, .int .i64 q.y] (by rfl) (by rfl) (World.news_of_block (cs := #[.int .i64 q.x, .int .i64 q.y]) (t := 31) (fr := (0, 0)) hX1) (by simp [Value.oneCell']) (by omega) (by unfold maxLen; omega) (by omega) (by have := hbA.size; omega) w1.heap.size rfl ?_; intro gg capg w6 hown6 hgrow6 hat6 hlt6; have hB6 : Below w5.heap.size w5 w6 := own_grow_below hown1 hbA (Nat.le_refl _) hbA.size hgrow6; have hp6 : PSl w6 (some ⟨gg, 0, none⟩) capg (l ++ [q]) := PSl.of_own (n := l.length + 1) (by rw [pCells_snoc, List.length_append]; exact hown6); clear hown6 hgrow6 hat6 hlt6)
                | (refine step_append_lies _ (by rfl) _ _ _ (by rfl) w5.heap.size 31 i0 _ 2 16 Try.underlying22 hi0 hz0 hz1 hz2 rfl (by omega) (.slice AA l.length cA) l.length (pCells l) (by rfl) (hown1.alloc (.cells #[.int .i64 q.x, .int .i64 q.y] 31)) ⟨w1.heap.size, 0, none⟩ 1 1 [.int .i64 q.x, .int .i64 q.y] (by rfl) (by rfl) (World.news_of_block (cs := #[.int .i64 q.x, .int .i64 q.y]) (t := 31) (fr := (0, 0)) (heap_alloc_new w1 (.cells #[.int .i64 q.x, .int .i64 q.y] 31))) (by simp [Value.oneCell']) (by omega) (by unfold maxLen; omega) (by omega) (by have := hbA.size; simp; omega) (w1.heap.size + 1) (by simp) ?_; intro gg capg w6 hown6 hgrow6 hat6 hlt6; have hB6 : Below w5.heap.size w5 w6 := own_grow_below (hown1.alloc _) (hbA.alloc hbA.size _) (Nat.le_refl _) (by have := hbA.size; simp; omega) hgrow6; have hp6 : PSl w6 (some ⟨gg, 0, none⟩) capg (l ++ [q]) := PSl.of_own (n := l.length + 1) (by rw [pCells_snoc, List.length_append]; exact hown6); clear hown6 hgrow6 hat6 hlt6)
                | (go_simp; go_at_call 12; with_reducible refine (HCM.out _ _ _ hp6).mono ?_; rintro e w7 ⟨⟨A7, c7, rfl, hs7⟩, hb7⟩))
              all_goals
                have HBZ := hid (hB6.trans (hb7.mono hB6.size))
                have HSZ := hid hs7
                clear hb7 hs7 hB6 hp6
                go_wp2_with fail
                go_meet
                exact ⟨⟨_, _, rfl, HSZ.out⟩, rfl, HBZ.out⟩
            case rest =>
              obtain ⟨⟨A7, c7, rfl, hs7⟩, rfl, hb7⟩ := hcut
              obtain ⟨w7, rfl⟩ : ∃ w7 : World, w7 = wc := ⟨_, rfl⟩
              have HB7 := hid (HB5.out.trans (hb7.mono HB5.out.size))
              have H7 := hid (H5.out.keep hb7)
              have HQ7 := hid (HQ5.out.below hb7 HQ5.out.lt)
              have HD7 := hid (HD5.out.below hb7 HD5.out.lt)
              have HS7 := hid (HS5.out.keep hb7)
              have HT7 := hid hs7
              clear hb7 hs7 HB5 H5 HQ5 HD5 HS5 q0 q1 hqw HOWa HOWb HOWc HDa HDb HDc HXb HXc HCM hi0 hz0 hz1 hz2
              go_wp2_with fail
              go_loopw [13, 14] (fun o i wr => ∃ k : Nat, k ≤ v.length ∧ i = .int .i64 k ∧ o = .bool (onN v q k) ∧ Hid (Below w7.heap.size w7 wr)) (fun _ i _ => v.length - (intOf i).toNat)
              case atStart => exact ⟨0, Nat.zero_le _, rfl, rfl, Below.refl _ _⟩
              case round =>
                obtain ⟨k, hk, rfl, rfl, HB⟩ := hrel
                by_cases hlt : k < v.length
                · obtain ⟨bv, ov, p, hA, hB, hd, x0, x1⟩ := HS7.out.rd.at_ HB.out hlt
                  obtain ⟨j, r, hj, hr, hm1, hm2, y0, y1⟩ := HS7.out.rd.next_ HB.out hA hlt
                  subst hA
                  have hp := rd_at hd
                  have hpi := rd_in HVB.out (i := k) (by omega)
                  have hri := rd_in HVB.out (i := k + 1) (by omega)
                  have HST : Hid (onN v q (k + 1) = (onN v q k || decide (betw p r q))) := by show _ = _; rw [← hp, ← hr]; rfl
                  rw [hp] at hpi
                  rw [hr] at hri
                  have HBT : Hid (∀ wx, Calls Try.prog 30 #[.agg #[.int .i64 p.x, .int .i64 p.y], .agg #[.int .i64 r.x, .int .i64 r.y], .agg #[.int .i64 q.x, .int .i64 q.y]] wx fun e w' => e = .returned (.bool (decide (betw p r q))) ∧ Below wx.heap.size wx w') := fun wx => between_any p r q wx hpi hri (HQI.out.more (by decide))
                  have hbw : bv < wr.heap.size := by have := HB.out.size; omega
                  have HQr := hid (HQ7.out.below HB.out HQ7.out.lt)
                  have hqw := HQr.out.lt
                  have i0 : (0 : Int) ≤ (k : Int) := by omega
                  have i1 : (k : Int) < (v.length : Int) := by omega
                  have i2 : (0 : Int) ≤ (j : Int) := by omega
                  have i3 : (j : Int) < (v.length : Int) := by omega
                  have hw1 : IntKind.i64.wrap ((k : Int) + 1) = (k : Int) + 1 := by rw [IntWalk.i64_in _ (by omega)]
                  have hw2 : IntKind.i64.wrap (j : Int) = (j : Int) := by rw [IntWalk.i64_in _ (by omega)]
                  have n1 : ¬ v = [] := by intro e; rw [e] at hlt; simp at hlt
                  have X0 := hid x0
                  have X1 := hid x1
                  have Y0 := hid y0
                  have Y1 := hid y1
                  have HK : Hid (∀ wx, Below wr.heap.size wr wx → (wx.cell? ⟨bv, ov + k * 2, none⟩ = some (.int .i64 p.x) ∧ wx.cell? ⟨bv, ov + k * 2 + 1, none⟩ = some (.int .i64 p.y) ∧ wx.cell? ⟨bv, ov + j * 2, none⟩ = some (.int .i64 r.x) ∧ wx.cell? ⟨bv, ov + j * 2 + 1, none⟩ = some (.int .i64 r.y) ∧ wx.cell? ⟨w.heap.size, 0, none⟩ = some (.int .i64 q.x) ∧ wx.cell? ⟨w.heap.size, 1, none⟩ = some (.int .i64 q.y)) ∧ Below wr.heap.size wr wx) := fun wx hb =>
                    ⟨⟨(hb.cell (p := ⟨bv, _, none⟩) hbw).trans X0.out, (hb.cell (p := ⟨bv, _, none⟩) hbw).trans X1.out, (hb.cell (p := ⟨bv, _, none⟩) hbw).trans Y0.out, (hb.cell (p := ⟨bv, _, none⟩) hbw).trans Y1.out, (HQr.out.below hb hqw).x, (HQr.out.below hb hqw).y⟩, hb⟩
                  clear hd hp hr hpi hri x0 x1 y0 y1
                  generalize hon : onN v q (k + 1) = on2 at *
                  have HON := hid hon
                  clear hon
                  generalize onN v q k = on1 at *
                  generalize decide (betw p r q) = bt at *
                  go_wp2_with fail
                  cases on1 with
                  | true =>
                    obtain rfl : on2 = true := by rw [HST.out]; rfl
                    clear HST HBT HK
                    go_quiet (fail)
                    go_wp2_with fail
                    go_roundw
                    case rel => exact ⟨k + 1, by omega, by go_num, by rw [HON.out], below_drewN HB.out _⟩
                    case measure => simp [intOf]; omega
                  | false =>
                    obtain rfl : on2 = bt := by rw [HST.out]; rfl
                    clear HST
                    go_region_held3 (fun wx => (wx.cell? ⟨bv, ov + k * 2, none⟩ = some (.int .i64 p.x) ∧ wx.cell? ⟨bv, ov + k * 2 + 1, none⟩ = some (.int .i64 p.y) ∧ wx.cell? ⟨bv, ov + j * 2, none⟩ = some (.int .i64 r.x) ∧ wx.cell? ⟨bv, ov + j * 2 + 1, none⟩ = some (.int .i64 r.y) ∧ wx.cell? ⟨w.heap.size, 0, none⟩ = some (.int .i64 q.x) ∧ wx.cell? ⟨w.heap.size, 1, none⟩ = some (.int .i64 q.y)) ∧ Below wr.heap.size wr wx)
                      (first | exact HK.out _ (Below.refl _ _).drew | (go_split_ands; exact HK.out _ (keepB (by assumption) hb8)))
                      (first | (go_at_call 30; with_reducible refine (HBT.out _).mono ?_; rintro e w8 ⟨rfl, hb8⟩))
                    rename_i hSl
                    have HBZ := hid (HB.out.trans (hSl.2.mono HB.out.size))
                    clear hSl hb8 HK HBT
                    go_wp2_with fail
                    go_roundw
                    case rel => exact ⟨k + 1, by omega, by go_num, by rw [HON.out], HBZ.out⟩
                    case measure => simp [intOf]; omega
                · obtain rfl : k = v.length := by omega
                  have HBR := hid (HB7.out.trans (HB.out.mono HB7.out.size))
                  have HR := hid (H7.out.keep HB.out)
                  have HQR := hid (HQ7.out.below HB.out HQ7.out.lt)
                  have HDR := hid (HD7.out.below HB.out HD7.out.lt)
                  have HSM : Hid (∀ wx, Below wr.heap.size wr wx → Calls Try.prog 14 #[.slice A7 m.length c7, .slice A4 v.length c4] wx fun e w' => e = .returned (.bool (decide (m = v))) ∧ Below wx.heap.size wx w') := fun wx hb => same_any A7 A4 c7 c4 m v wx ((HT7.out.keep HB.out).keep hb).rd ((HS7.out.keep HB.out).keep hb).rd (by omega)
                  clear HB hk hlt
                  generalize onN v q v.length = ob at *
                  generalize decide (m = v) = sb at *
                  have hcase : (sb = false ∧ iv = false) ∨ (sb = true ∧ ob = true ∧ iv = false) ∨ (sb = true ∧ ob = false ∧ iv = true) := by rw [HIV.out]; cases sb <;> cases ob <;> simp
                  clear HIV
                  rcases hcase with ⟨rfl, rfl⟩ | ⟨rfl, rfl, rfl⟩ | ⟨rfl, rfl, rfl⟩
                  · go_wp2_with fail
                    ((with_reducible refine (HSM.out _ (Below.refl _ _)).mono ?_); rintro e w8 ⟨rfl, hb8⟩)
                    have HB8 := hid (HBR.out.trans (hb8.mono HBR.out.size))
                    have H8 := hid (HR.out.keep hb8)
                    have HQ8 := hid (HQR.out.below hb8 HQR.out.lt)
                    have HD8 := hid (HDR.out.below hb8 HDR.out.lt)
                    have hq8 := HQ8.out.lt
                    have hd8 := HD8.out.lt
                    have HK : Hid (∀ wx, Below w8.heap.size w8 wx → (wx.cell? ⟨w.heap.size, 0, none⟩ = some (.int .i64 q.x) ∧ wx.cell? ⟨w.heap.size, 1, none⟩ = some (.int .i64 q.y) ∧ wx.cell? ⟨w.heap.size + 1, 0, none⟩ = some (.int .i64 d.x) ∧ wx.cell? ⟨w.heap.size + 1, 1, none⟩ = some (.int .i64 d.y)) ∧ Below w8.heap.size w8 wx) := fun wx hb => ⟨⟨(HQ8.out.below hb hq8).x, (HQ8.out.below hb hq8).y, (HD8.out.below hb hd8).x, (HD8.out.below hb hd8).y⟩, hb⟩
                    clear hb8 HSM
                    go_wp2_with fail
                    refine wp_region_held_drew (S := (fun wx => (wx.cell? ⟨w.heap.size, 0, none⟩ = some (.int .i64 q.x) ∧ wx.cell? ⟨w.heap.size, 1, none⟩ = some (.int .i64 q.y) ∧ wx.cell? ⟨w.heap.size + 1, 0, none⟩ = some (.int .i64 d.x) ∧ wx.cell? ⟨w.heap.size + 1, 1, none⟩ = some (.int .i64 d.y)) ∧ Below w8.heap.size w8 wx)) (by kernel_rfl) ?_ (fun hHeld => ?_)
                    · (first | exact HK.out _ (Below.refl _ _).drew | (go_split_ands; first | exact HK.out _ (keepB (by assumption) hb9)))
                    refine wpAnyH_take (i := 0) (oi := { dst := _, op := _, type := _, pos := _, after := _, guard := _ }) (v := ?_) rfl (by kernel_rfl) (by kernel_rfl) (by kernel_rfl) (fun _ _ _ h => h) (Or.inl ⟨by rfl, ?_⟩) (by assumption) ?_
                    rotate_left
                    · (intro w hSw; (try dsimp only at hSw); go_simp; try (with_reducible rfl))
                    try simp only [Act.put, List.setIfInBounds_toArray, List.set_cons_zero, List.set_cons_succ]
                    refine wpAnyH_take (i := 1) (oi := { dst := _, op := _, type := _, pos := _, after := _, guard := _ }) (v := ?_) rfl (by kernel_rfl) (by kernel_rfl) (by kernel_rfl) (fun _ _ _ h => h) (Or.inl ⟨by rfl, ?_⟩) (by assumption) ?_
                    rotate_left
                    · (intro w hSw; (try dsimp only at hSw); go_simp; try (with_reducible rfl))
                    try simp only [Act.put, List.setIfInBounds_toArray, List.set_cons_zero, List.set_cons_succ]
                    refine wpAnyH_take (i := 2) (oi := { dst := _, op := _, type := _, pos := _, after := _, guard := _ }) (v := ?_) rfl (by kernel_rfl) (by kernel_rfl) (by kernel_rfl) (fun _ _ _ h => h) (Or.inl ⟨by rfl, ?_⟩) (by assumption) ?_
                    rotate_left
                    · (intro w hSw; (try dsimp only at hSw); go_simp; try (with_reducible rfl))
                    try simp only [Act.put, List.setIfInBounds_toArray, List.set_cons_zero, List.set_cons_succ]
                    refine wpAnyH_take (i := 3) (oi := { dst := _, op := _, type := _, pos := _, after := _, guard := _ }) rfl (by kernel_rfl) (by kernel_rfl) (by kernel_rfl) (fun _ _ _ h => h) (Or.inr ⟨by rfl, rfl⟩) (by assumption) ?_
                    try simp only [Act.put, List.setIfInBounds_toArray, List.set_cons_zero, List.set_cons_succ]
                    refine wpAnyH_take (i := 4) (oi := { dst := _, op := _, type := _, pos := _, after := _, guard := _ }) rfl (by kernel_rfl) (by kernel_rfl) (by kernel_rfl) (fun _ _ _ h => h) (Or.inr ⟨by rfl, rfl⟩) (by assumption) ?_
                    try simp only [Act.put, List.setIfInBounds_toArray, List.set_cons_zero, List.set_cons_succ]
                    refine wpAnyH_take (i := 5) (oi := { dst := _, op := _, type := _, pos := _, after := _, guard := _ }) rfl (by kernel_rfl) (by kernel_rfl) (by kernel_rfl) (fun _ _ _ h => h) (Or.inr ⟨by rfl, rfl⟩) (by assumption) ?_
                    try simp only [Act.put, List.setIfInBounds_toArray, List.set_cons_zero, List.set_cons_succ]
                    refine wpAnyH_take (i := 6) (oi := { dst := _, op := _, type := _, pos := _, after := _, guard := _ }) (v := ?_) rfl (by kernel_rfl) (by kernel_rfl) (by kernel_rfl) (fun _ _ _ h => h) (Or.inl ⟨by rfl, ?_⟩) (by assumption) ?_
                    rotate_left
                    · (intro w hSw; (try dsimp only at hSw); go_simp; try (with_reducible rfl))
                    try simp only [Act.put, List.setIfInBounds_toArray, List.set_cons_zero, List.set_cons_succ]
                    refine wpAnyH_take (i := 7) (oi := { dst := _, op := _, type := _, pos := _, after := _, guard := _ }) (v := ?_) rfl (by kernel_rfl) (by kernel_rfl) (by kernel_rfl) (fun _ _ _ h => h) (Or.inl ⟨by rfl, ?_⟩) (by assumption) ?_
                    rotate_left
                    · (intro w hSw; (try dsimp only at hSw); go_simp; try (with_reducible rfl))
                    try simp only [Act.put, List.setIfInBounds_toArray, List.set_cons_zero, List.set_cons_succ]
                    refine wpAnyH_take (i := 8) (oi := { dst := _, op := _, type := _, pos := _, after := _, guard := _ }) rfl (by kernel_rfl) (by kernel_rfl) (by kernel_rfl) (fun _ _ _ h => h) (Or.inr ⟨by rfl, rfl⟩) (by assumption) ?_
                    try simp only [Act.put, List.setIfInBounds_toArray, List.set_cons_zero, List.set_cons_succ]
                    refine wpAnyH_take (i := 9) (oi := { dst := _, op := _, type := _, pos := _, after := _, guard := _ }) rfl (by kernel_rfl) (by kernel_rfl) (by kernel_rfl) (fun _ _ _ h => h) (Or.inr ⟨by rfl, rfl⟩) (by assumption) ?_
                    try simp only [Act.put, List.setIfInBounds_toArray, List.set_cons_zero, List.set_cons_succ]
                    refine wpAnyH_take (i := 10) (oi := { dst := _, op := _, type := _, pos := _, after := _, guard := _ }) rfl (by kernel_rfl) (by kernel_rfl) (by kernel_rfl) (fun _ _ _ h => h) (Or.inr ⟨by rfl, rfl⟩) (by assumption) ?_
                    try simp only [Act.put, List.setIfInBounds_toArray, List.set_cons_zero, List.set_cons_succ]
                    refine wpAnyH_take (i := 11) (oi := { dst := _, op := _, type := _, pos := _, after := _, guard := _ }) rfl (by kernel_rfl) (by kernel_rfl) (by kernel_rfl) (fun _ _ _ h => h) (Or.inr ⟨by rfl, rfl⟩) (by assumption) ?_
                    try simp only [Act.put, List.setIfInBounds_toArray, List.set_cons_zero, List.set_cons_succ]
                    refine wpAnyH_take (i := 12) (oi := { dst := _, op := _, type := _, pos := _, after := _, guard := _ }) rfl (by kernel_rfl) (by kernel_rfl) (by kernel_rfl) (fun _ _ _ h => h) (Or.inr ⟨by rfl, rfl⟩) (by assumption) ?_
                    try simp only [Act.put, List.setIfInBounds_toArray, List.set_cons_zero, List.set_cons_succ]
                    refine wpAnyH_take (i := 13) (oi := { dst := _, op := _, type := _, pos := _, after := _, guard := _ }) rfl (by kernel_rfl) (by kernel_rfl) (by kernel_rfl) (fun _ _ _ h => h) (Or.inr ⟨by rfl, rfl⟩) (by assumption) ?_
                    try simp only [Act.put, List.setIfInBounds_toArray, List.set_cons_zero, List.set_cons_succ]
                    refine wpAnyH_take (i := 14) (oi := { dst := _, op := _, type := _, pos := _, after := _, guard := _ }) rfl (by kernel_rfl) (by kernel_rfl) (by kernel_rfl) (fun _ _ _ h => h) (Or.inr ⟨by rfl, rfl⟩) (by assumption) ?_
                    try simp only [Act.put, List.setIfInBounds_toArray, List.set_cons_zero, List.set_cons_succ]
                    refine wpAnyH_take (i := 15) (oi := { dst := _, op := _, type := _, pos := _, after := _, guard := _ }) rfl (by kernel_rfl) (by kernel_rfl) (by kernel_rfl) (fun _ _ _ h => h) (Or.inr ⟨by rfl, rfl⟩) (by assumption) ?_
                    try simp only [Act.put, List.setIfInBounds_toArray, List.set_cons_zero, List.set_cons_succ]
                    refine wpAnyH_take (i := 16) (oi := { dst := _, op := _, type := _, pos := _, after := _, guard := _ }) rfl (by kernel_rfl) (by kernel_rfl) (by kernel_rfl) (fun _ _ _ h => h) (Or.inr ⟨by rfl, rfl⟩) (by assumption) ?_
                    try simp only [Act.put, List.setIfInBounds_toArray, List.set_cons_zero, List.set_cons_succ]
                    refine wpAnyH_take (i := 17) (oi := { dst := _, op := _, type := _, pos := _, after := _, guard := _ }) rfl (by kernel_rfl) (by kernel_rfl) (by kernel_rfl) (fun _ _ _ h => h) (Or.inr ⟨by rfl, rfl⟩) (by assumption) ?_
                    try simp only [Act.put, List.setIfInBounds_toArray, List.set_cons_zero, List.set_cons_succ]
                    refine wpAnyH_take (i := 18) (oi := { dst := _, op := _, type := _, pos := _, after := _, guard := _ }) rfl (by kernel_rfl) (by kernel_rfl) (by kernel_rfl) (fun _ _ _ h => h) (Or.inr ⟨by rfl, rfl⟩) (by assumption) ?_
                    try simp only [Act.put, List.setIfInBounds_toArray, List.set_cons_zero, List.set_cons_succ]
                    refine wpAnyH_take (i := 19) (oi := { dst := _, op := _, type := _, pos := _, after := _, guard := _ }) rfl (by kernel_rfl) (by kernel_rfl) (by kernel_rfl) (fun _ _ _ h => h) (Or.inr ⟨by rfl, rfl⟩) (by assumption) ?_
                    try simp only [Act.put, List.setIfInBounds_toArray, List.set_cons_zero, List.set_cons_succ]
                    refine wpAnyH_take (i := 20) (oi := { dst := _, op := _, type := _, pos := _, after := _, guard := _ }) rfl (by kernel_rfl) (by kernel_rfl) (by kernel_rfl) (fun _ _ _ h => h) (Or.inr ⟨by rfl, rfl⟩) (by assumption) ?_
                    try simp only [Act.put, List.setIfInBounds_toArray, List.set_cons_zero, List.set_cons_succ]
                    refine wpAnyH_take (i := 21) (oi := { dst := _, op := _, type := _, pos := _, after := _, guard := _ }) rfl (by kernel_rfl) (by kernel_rfl) (by kernel_rfl) (fun _ _ _ h => h) (Or.inr ⟨by rfl, rfl⟩) (by assumption) ?_
                    try simp only [Act.put, List.setIfInBounds_toArray, List.set_cons_zero, List.set_cons_succ]
                    refine wpAnyH_take (i := 22) (oi := { dst := _, op := _, type := _, pos := _, after := _, guard := _ }) rfl (by kernel_rfl) (by kernel_rfl) (by kernel_rfl) (fun _ _ _ h => h) (Or.inr ⟨by rfl, rfl⟩) (by assumption) ?_
                    try simp only [Act.put, List.setIfInBounds_toArray, List.set_cons_zero, List.set_cons_succ]
                    refine wpAnyH_take (i := 23) (oi := { dst := _, op := _, type := _, pos := _, after := _, guard := _ }) (v := ?_) rfl (by kernel_rfl) (by kernel_rfl) (by kernel_rfl) (fun _ _ _ h => h) (Or.inl ⟨by rfl, ?_⟩) (by assumption) ?_
                    rotate_left
                    · (intro w hSw; (try dsimp only at hSw); go_simp; try (with_reducible rfl))
                    try simp only [Act.put, List.setIfInBounds_toArray, List.set_cons_zero, List.set_cons_succ]
                    refine wpAnyH_take (i := 24) (oi := { dst := _, op := _, type := _, pos := _, after := _, guard := _ }) (v := ?_) rfl (by kernel_rfl) (by kernel_rfl) (by kernel_rfl) (fun _ _ _ h => h) (Or.inl ⟨by rfl, ?_⟩) (by assumption) ?_
                    rotate_left
                    · (intro w hSw; (try dsimp only at hSw); go_simp; try (with_reducible rfl))
                    try simp only [Act.put, List.setIfInBounds_toArray, List.set_cons_zero, List.set_cons_succ]
                    refine wpAnyH_ready (rs := [25]) (by kernel_rfl) (by simp) ?_
                    refine AllReadyH.cons (o := { dst := _, op := _, type := _, pos := _, after := _, guard := _ }) rfl (fun K hK => ?_) AllReadyH.nil
                    go_simp
                    (go_at_call 11; with_reducible refine (awake_any _).mono ?_; rintro e w9 ⟨rfl, hb9⟩)
                    go_wp2_with fail
                    refine hK.out _ _ ?_ (fun hHeld => ?_)
                    · (first | exact HK.out _ (Below.refl _ _).drew | (go_split_ands; first | exact HK.out _ (keepB (by assumption) hb9)))
                    clear hK K
                    try simp only [Act.put, List.setIfInBounds_toArray, List.set_cons_zero, List.set_cons_succ]
                    refine wpAnyH_take (i := 26) (oi := { dst := _, op := _, type := _, pos := _, after := _, guard := _ }) (v := ?_) rfl (by kernel_rfl) (by kernel_rfl) (by kernel_rfl) (fun _ _ _ h => h) (Or.inl ⟨by rfl, ?_⟩) (by assumption) ?_
                    rotate_left
                    · (intro w hSw; (try dsimp only at hSw); go_simp; try (with_reducible rfl))
                    try simp only [Act.put, List.setIfInBounds_toArray, List.set_cons_zero, List.set_cons_succ]
                    refine wpAnyH_take (i := 27) (oi := { dst := _, op := _, type := _, pos := _, after := _, guard := _ }) (v := ?_) rfl (by kernel_rfl) (by kernel_rfl) (by kernel_rfl) (fun _ _ _ h => h) (Or.inl ⟨by rfl, ?_⟩) (by assumption) ?_
                    rotate_left
                    · (intro w hSw; (try dsimp only at hSw); go_simp; try (with_reducible rfl))
                    try simp only [Act.put, List.setIfInBounds_toArray, List.set_cons_zero, List.set_cons_succ]
                    refine wpAnyH_done (by kernel_rfl) ?_ _
                    have HBZ := hid (HB8.out.trans (hHeld.2.mono HB8.out.size))
                    clear hHeld
                    go_wp2
                    go_ret
                    exact ⟨rfl, HBZ.out⟩
                  · go_wp2_with fail
                    ((with_reducible refine (HSM.out _ (Below.refl _ _)).mono ?_); rintro e w8 ⟨rfl, hb8⟩)
                    have HB8 := hid (HBR.out.trans (hb8.mono HBR.out.size))
                    have H8 := hid (HR.out.keep hb8)
                    have HQ8 := hid (HQR.out.below hb8 HQR.out.lt)
                    have HD8 := hid (HDR.out.below hb8 HDR.out.lt)
                    have hq8 := HQ8.out.lt
                    have hd8 := HD8.out.lt
                    have HK : Hid (∀ wx, Below w8.heap.size w8 wx → (wx.cell? ⟨w.heap.size, 0, none⟩ = some (.int .i64 q.x) ∧ wx.cell? ⟨w.heap.size, 1, none⟩ = some (.int .i64 q.y) ∧ wx.cell? ⟨w.heap.size + 1, 0, none⟩ = some (.int .i64 d.x) ∧ wx.cell? ⟨w.heap.size + 1, 1, none⟩ = some (.int .i64 d.y)) ∧ Below w8.heap.size w8 wx) := fun wx hb => ⟨⟨(HQ8.out.below hb hq8).x, (HQ8.out.below hb hq8).y, (HD8.out.below hb hd8).x, (HD8.out.below hb hd8).y⟩, hb⟩
                    clear hb8 HSM
                    go_wp2_with fail
                    refine wp_region_held_drew (S := (fun wx => (wx.cell? ⟨w.heap.size, 0, none⟩ = some (.int .i64 q.x) ∧ wx.cell? ⟨w.heap.size, 1, none⟩ = some (.int .i64 q.y) ∧ wx.cell? ⟨w.heap.size + 1, 0, none⟩ = some (.int .i64 d.x) ∧ wx.cell? ⟨w.heap.size + 1, 1, none⟩ = some (.int .i64 d.y)) ∧ Below w8.heap.size w8 wx)) (by kernel_rfl) ?_ (fun hHeld => ?_)
                    · (first | exact HK.out _ (Below.refl _ _).drew | (go_split_ands; first | exact HK.out _ (keepB (by assumption) hb9)))
                    refine wpAnyH_take (i := 0) (oi := { dst := _, op := _, type := _, pos := _, after := _, guard := _ }) (v := ?_) rfl (by kernel_rfl) (by kernel_rfl) (by kernel_rfl) (fun _ _ _ h => h) (Or.inl ⟨by rfl, ?_⟩) (by assumption) ?_
                    rotate_left
                    · (intro w hSw; (try dsimp only at hSw); go_simp; try (with_reducible rfl))
                    try simp only [Act.put, List.setIfInBounds_toArray, List.set_cons_zero, List.set_cons_succ]
                    refine wpAnyH_take (i := 1) (oi := { dst := _, op := _, type := _, pos := _, after := _, guard := _ }) (v := ?_) rfl (by kernel_rfl) (by kernel_rfl) (by kernel_rfl) (fun _ _ _ h => h) (Or.inl ⟨by rfl, ?_⟩) (by assumption) ?_
                    rotate_left
                    · (intro w hSw; (try dsimp only at hSw); go_simp; try (with_reducible rfl))
                    try simp only [Act.put, List.setIfInBounds_toArray, List.set_cons_zero, List.set_cons_succ]
                    refine wpAnyH_take (i := 2) (oi := { dst := _, op := _, type := _, pos := _, after := _, guard := _ }) (v := ?_) rfl (by kernel_rfl) (by kernel_rfl) (by kernel_rfl) (fun _ _ _ h => h) (Or.inl ⟨by rfl, ?_⟩) (by assumption) ?_
                    rotate_left
                    · (intro w hSw; (try dsimp only at hSw); go_simp; try (with_reducible rfl))
                    try simp only [Act.put, List.setIfInBounds_toArray, List.set_cons_zero, List.set_cons_succ]
                    refine wpAnyH_take (i := 3) (oi := { dst := _, op := _, type := _, pos := _, after := _, guard := _ }) rfl (by kernel_rfl) (by kernel_rfl) (by kernel_rfl) (fun _ _ _ h => h) (Or.inr ⟨by rfl, rfl⟩) (by assumption) ?_
                    try simp only [Act.put, List.setIfInBounds_toArray, List.set_cons_zero, List.set_cons_succ]
                    refine wpAnyH_take (i := 4) (oi := { dst := _, op := _, type := _, pos := _, after := _, guard := _ }) rfl (by kernel_rfl) (by kernel_rfl) (by kernel_rfl) (fun _ _ _ h => h) (Or.inr ⟨by rfl, rfl⟩) (by assumption) ?_
                    try simp only [Act.put, List.setIfInBounds_toArray, List.set_cons_zero, List.set_cons_succ]
                    refine wpAnyH_take (i := 5) (oi := { dst := _, op := _, type := _, pos := _, after := _, guard := _ }) rfl (by kernel_rfl) (by kernel_rfl) (by kernel_rfl) (fun _ _ _ h => h) (Or.inr ⟨by rfl, rfl⟩) (by assumption) ?_
                    try simp only [Act.put, List.setIfInBounds_toArray, List.set_cons_zero, List.set_cons_succ]
                    refine wpAnyH_take (i := 6) (oi := { dst := _, op := _, type := _, pos := _, after := _, guard := _ }) (v := ?_) rfl (by kernel_rfl) (by kernel_rfl) (by kernel_rfl) (fun _ _ _ h => h) (Or.inl ⟨by rfl, ?_⟩) (by assumption) ?_
                    rotate_left
                    · (intro w hSw; (try dsimp only at hSw); go_simp; try (with_reducible rfl))
                    try simp only [Act.put, List.setIfInBounds_toArray, List.set_cons_zero, List.set_cons_succ]
                    refine wpAnyH_take (i := 7) (oi := { dst := _, op := _, type := _, pos := _, after := _, guard := _ }) (v := ?_) rfl (by kernel_rfl) (by kernel_rfl) (by kernel_rfl) (fun _ _ _ h => h) (Or.inl ⟨by rfl, ?_⟩) (by assumption) ?_
                    rotate_left
                    · (intro w hSw; (try dsimp only at hSw); go_simp; try (with_reducible rfl))
                    try simp only [Act.put, List.setIfInBounds_toArray, List.set_cons_zero, List.set_cons_succ]
                    refine wpAnyH_take (i := 8) (oi := { dst := _, op := _, type := _, pos := _, after := _, guard := _ }) rfl (by kernel_rfl) (by kernel_rfl) (by kernel_rfl) (fun _ _ _ h => h) (Or.inr ⟨by rfl, rfl⟩) (by assumption) ?_
                    try simp only [Act.put, List.setIfInBounds_toArray, List.set_cons_zero, List.set_cons_succ]
                    refine wpAnyH_take (i := 9) (oi := { dst := _, op := _, type := _, pos := _, after := _, guard := _ }) rfl (by kernel_rfl) (by kernel_rfl) (by kernel_rfl) (fun _ _ _ h => h) (Or.inr ⟨by rfl, rfl⟩) (by assumption) ?_
                    try simp only [Act.put, List.setIfInBounds_toArray, List.set_cons_zero, List.set_cons_succ]
                    refine wpAnyH_take (i := 10) (oi := { dst := _, op := _, type := _, pos := _, after := _, guard := _ }) rfl (by kernel_rfl) (by kernel_rfl) (by kernel_rfl) (fun _ _ _ h => h) (Or.inr ⟨by rfl, rfl⟩) (by assumption) ?_
                    try simp only [Act.put, List.setIfInBounds_toArray, List.set_cons_zero, List.set_cons_succ]
                    refine wpAnyH_take (i := 11) (oi := { dst := _, op := _, type := _, pos := _, after := _, guard := _ }) rfl (by kernel_rfl) (by kernel_rfl) (by kernel_rfl) (fun _ _ _ h => h) (Or.inr ⟨by rfl, rfl⟩) (by assumption) ?_
                    try simp only [Act.put, List.setIfInBounds_toArray, List.set_cons_zero, List.set_cons_succ]
                    refine wpAnyH_take (i := 12) (oi := { dst := _, op := _, type := _, pos := _, after := _, guard := _ }) rfl (by kernel_rfl) (by kernel_rfl) (by kernel_rfl) (fun _ _ _ h => h) (Or.inr ⟨by rfl, rfl⟩) (by assumption) ?_
                    try simp only [Act.put, List.setIfInBounds_toArray, List.set_cons_zero, List.set_cons_succ]
                    refine wpAnyH_take (i := 13) (oi := { dst := _, op := _, type := _, pos := _, after := _, guard := _ }) rfl (by kernel_rfl) (by kernel_rfl) (by kernel_rfl) (fun _ _ _ h => h) (Or.inr ⟨by rfl, rfl⟩) (by assumption) ?_
                    try simp only [Act.put, List.setIfInBounds_toArray, List.set_cons_zero, List.set_cons_succ]
                    refine wpAnyH_take (i := 14) (oi := { dst := _, op := _, type := _, pos := _, after := _, guard := _ }) rfl (by kernel_rfl) (by kernel_rfl) (by kernel_rfl) (fun _ _ _ h => h) (Or.inr ⟨by rfl, rfl⟩) (by assumption) ?_
                    try simp only [Act.put, List.setIfInBounds_toArray, List.set_cons_zero, List.set_cons_succ]
                    refine wpAnyH_take (i := 15) (oi := { dst := _, op := _, type := _, pos := _, after := _, guard := _ }) rfl (by kernel_rfl) (by kernel_rfl) (by kernel_rfl) (fun _ _ _ h => h) (Or.inr ⟨by rfl, rfl⟩) (by assumption) ?_
                    try simp only [Act.put, List.setIfInBounds_toArray, List.set_cons_zero, List.set_cons_succ]
                    refine wpAnyH_take (i := 16) (oi := { dst := _, op := _, type := _, pos := _, after := _, guard := _ }) rfl (by kernel_rfl) (by kernel_rfl) (by kernel_rfl) (fun _ _ _ h => h) (Or.inr ⟨by rfl, rfl⟩) (by assumption) ?_
                    try simp only [Act.put, List.setIfInBounds_toArray, List.set_cons_zero, List.set_cons_succ]
                    refine wpAnyH_take (i := 17) (oi := { dst := _, op := _, type := _, pos := _, after := _, guard := _ }) rfl (by kernel_rfl) (by kernel_rfl) (by kernel_rfl) (fun _ _ _ h => h) (Or.inr ⟨by rfl, rfl⟩) (by assumption) ?_
                    try simp only [Act.put, List.setIfInBounds_toArray, List.set_cons_zero, List.set_cons_succ]
                    refine wpAnyH_take (i := 18) (oi := { dst := _, op := _, type := _, pos := _, after := _, guard := _ }) rfl (by kernel_rfl) (by kernel_rfl) (by kernel_rfl) (fun _ _ _ h => h) (Or.inr ⟨by rfl, rfl⟩) (by assumption) ?_
                    try simp only [Act.put, List.setIfInBounds_toArray, List.set_cons_zero, List.set_cons_succ]
                    refine wpAnyH_take (i := 19) (oi := { dst := _, op := _, type := _, pos := _, after := _, guard := _ }) rfl (by kernel_rfl) (by kernel_rfl) (by kernel_rfl) (fun _ _ _ h => h) (Or.inr ⟨by rfl, rfl⟩) (by assumption) ?_
                    try simp only [Act.put, List.setIfInBounds_toArray, List.set_cons_zero, List.set_cons_succ]
                    refine wpAnyH_take (i := 20) (oi := { dst := _, op := _, type := _, pos := _, after := _, guard := _ }) rfl (by kernel_rfl) (by kernel_rfl) (by kernel_rfl) (fun _ _ _ h => h) (Or.inr ⟨by rfl, rfl⟩) (by assumption) ?_
                    try simp only [Act.put, List.setIfInBounds_toArray, List.set_cons_zero, List.set_cons_succ]
                    refine wpAnyH_take (i := 21) (oi := { dst := _, op := _, type := _, pos := _, after := _, guard := _ }) rfl (by kernel_rfl) (by kernel_rfl) (by kernel_rfl) (fun _ _ _ h => h) (Or.inr ⟨by rfl, rfl⟩) (by assumption) ?_
                    try simp only [Act.put, List.setIfInBounds_toArray, List.set_cons_zero, List.set_cons_succ]
                    refine wpAnyH_take (i := 22) (oi := { dst := _, op := _, type := _, pos := _, after := _, guard := _ }) rfl (by kernel_rfl) (by kernel_rfl) (by kernel_rfl) (fun _ _ _ h => h) (Or.inr ⟨by rfl, rfl⟩) (by assumption) ?_
                    try simp only [Act.put, List.setIfInBounds_toArray, List.set_cons_zero, List.set_cons_succ]
                    refine wpAnyH_take (i := 23) (oi := { dst := _, op := _, type := _, pos := _, after := _, guard := _ }) (v := ?_) rfl (by kernel_rfl) (by kernel_rfl) (by kernel_rfl) (fun _ _ _ h => h) (Or.inl ⟨by rfl, ?_⟩) (by assumption) ?_
                    rotate_left
                    · (intro w hSw; (try dsimp only at hSw); go_simp; try (with_reducible rfl))
                    try simp only [Act.put, List.setIfInBounds_toArray, List.set_cons_zero, List.set_cons_succ]
                    refine wpAnyH_take (i := 24) (oi := { dst := _, op := _, type := _, pos := _, after := _, guard := _ }) (v := ?_) rfl (by kernel_rfl) (by kernel_rfl) (by kernel_rfl) (fun _ _ _ h => h) (Or.inl ⟨by rfl, ?_⟩) (by assumption) ?_
                    rotate_left
                    · (intro w hSw; (try dsimp only at hSw); go_simp; try (with_reducible rfl))
                    try simp only [Act.put, List.setIfInBounds_toArray, List.set_cons_zero, List.set_cons_succ]
                    refine wpAnyH_ready (rs := [25]) (by kernel_rfl) (by simp) ?_
                    refine AllReadyH.cons (o := { dst := _, op := _, type := _, pos := _, after := _, guard := _ }) rfl (fun K hK => ?_) AllReadyH.nil
                    go_simp
                    (go_at_call 11; with_reducible refine (awake_any _).mono ?_; rintro e w9 ⟨rfl, hb9⟩)
                    go_wp2_with fail
                    refine hK.out _ _ ?_ (fun hHeld => ?_)
                    · (first | exact HK.out _ (Below.refl _ _).drew | (go_split_ands; first | exact HK.out _ (keepB (by assumption) hb9)))
                    clear hK K
                    try simp only [Act.put, List.setIfInBounds_toArray, List.set_cons_zero, List.set_cons_succ]
                    refine wpAnyH_take (i := 26) (oi := { dst := _, op := _, type := _, pos := _, after := _, guard := _ }) (v := ?_) rfl (by kernel_rfl) (by kernel_rfl) (by kernel_rfl) (fun _ _ _ h => h) (Or.inl ⟨by rfl, ?_⟩) (by assumption) ?_
                    rotate_left
                    · (intro w hSw; (try dsimp only at hSw); go_simp; try (with_reducible rfl))
                    try simp only [Act.put, List.setIfInBounds_toArray, List.set_cons_zero, List.set_cons_succ]
                    refine wpAnyH_take (i := 27) (oi := { dst := _, op := _, type := _, pos := _, after := _, guard := _ }) (v := ?_) rfl (by kernel_rfl) (by kernel_rfl) (by kernel_rfl) (fun _ _ _ h => h) (Or.inl ⟨by rfl, ?_⟩) (by assumption) ?_
                    rotate_left
                    · (intro w hSw; (try dsimp only at hSw); go_simp; try (with_reducible rfl))
                    try simp only [Act.put, List.setIfInBounds_toArray, List.set_cons_zero, List.set_cons_succ]
                    refine wpAnyH_done (by kernel_rfl) ?_ _
                    have HBZ := hid (HB8.out.trans (hHeld.2.mono HB8.out.size))
                    clear hHeld
                    go_wp2
                    go_ret
                    exact ⟨rfl, HBZ.out⟩
                  · go_wp2_with fail
                    ((with_reducible refine (HSM.out _ (Below.refl _ _)).mono ?_); rintro e w8 ⟨rfl, hb8⟩)
                    have HB8 := hid (HBR.out.trans (hb8.mono HBR.out.size))
                    have H8 := hid (HR.out.keep hb8)
                    have HQ8 := hid (HQR.out.below hb8 HQR.out.lt)
                    have HD8 := hid (HDR.out.below hb8 HDR.out.lt)
                    have hq8 := HQ8.out.lt
                    have hd8 := HD8.out.lt
                    have HK : Hid (∀ wx, Below w8.heap.size w8 wx → (wx.cell? ⟨w.heap.size, 0, none⟩ = some (.int .i64 q.x) ∧ wx.cell? ⟨w.heap.size, 1, none⟩ = some (.int .i64 q.y) ∧ wx.cell? ⟨w.heap.size + 1, 0, none⟩ = some (.int .i64 d.x) ∧ wx.cell? ⟨w.heap.size + 1, 1, none⟩ = some (.int .i64 d.y)) ∧ Below w8.heap.size w8 wx) := fun wx hb => ⟨⟨(HQ8.out.below hb hq8).x, (HQ8.out.below hb hq8).y, (HD8.out.below hb hd8).x, (HD8.out.below hb hd8).y⟩, hb⟩
                    clear hb8 HSM
                    go_wp2_with fail
                    have HDI2 := HDI.out
                    have HQI2 := HQI.out
                    unfold In at HDI2 HQI2
                    obtain ⟨p1, p2⟩ := mul_in (a := q.x) (b := d.x) (A := 1048576) (B := 1000) ⟨by omega, by omega⟩ ⟨by omega, by omega⟩
                    obtain ⟨p3, p4⟩ := mul_in (a := q.y) (b := d.y) (A := 1048576) (B := 1000) ⟨by omega, by omega⟩ ⟨by omega, by omega⟩
                    have wx1 : IntKind.i64.wrap (q.x * d.x) = q.x * d.x := by rw [IntWalk.i64_in _ (by omega)]
                    have wx2 : IntKind.i64.wrap (q.y * d.y) = q.y * d.y := by rw [IntWalk.i64_in _ (by omega)]
                    have wx3 : IntKind.i64.wrap (q.x * d.x + q.y * d.y) = q.x * d.x + q.y * d.y := by rw [IntWalk.i64_in _ (by omega)]
                    have HSU : Hid (∀ wx, Below w8.heap.size w8 wx → Calls Try.prog 22 #[.slice (some ⟨b, off, none⟩) l.length cap, .agg #[.int .i64 d.x, .int .i64 d.y]] wx fun e w' => e = .returned (.int .i64 (supF (dotL d) l)) ∧ Below wx.heap.size wx w') := fun wx hb => support_any _ cap l d wx (H8.out.keep hb).rd (by omega)
                    generalize supF (dotL d) l = sv at *
                    clear HDI2 HQI2 p1 p2 p3 p4
                    by_cases hx : d.x = 0
                    · by_cases hy : d.y = 0
                      · have bx : (d.x == 0) = true := by simp [hx]
                        have b_y : (d.y == 0) = true := by simp [hy]
                        clear hx hy HDOT wx1 wx2 wx3
                        refine wp_region_held_drew (S := (fun wx => (wx.cell? ⟨w.heap.size, 0, none⟩ = some (.int .i64 q.x) ∧ wx.cell? ⟨w.heap.size, 1, none⟩ = some (.int .i64 q.y) ∧ wx.cell? ⟨w.heap.size + 1, 0, none⟩ = some (.int .i64 d.x) ∧ wx.cell? ⟨w.heap.size + 1, 1, none⟩ = some (.int .i64 d.y)) ∧ Below w8.heap.size w8 wx)) (by kernel_rfl) ?_ (fun hHeld => ?_)
                        · (first | exact HK.out _ (Below.refl _ _).drew | (go_split_ands; first | exact HK.out _ (keepB (by assumption) hb9)))
                        refine wpAnyH_take (i := 0) (oi := { dst := _, op := _, type := _, pos := _, after := _, guard := _ }) (v := ?_) rfl (by kernel_rfl) (by kernel_rfl) (by kernel_rfl) (fun _ _ _ h => h) (Or.inl ⟨by rfl, ?_⟩) (by assumption) ?_
                        rotate_left
                        · (intro w hSw; (try dsimp only at hSw); go_simp; try (with_reducible rfl))
                        try simp only [Act.put, List.setIfInBounds_toArray, List.set_cons_zero, List.set_cons_succ]
                        refine wpAnyH_take (i := 1) (oi := { dst := _, op := _, type := _, pos := _, after := _, guard := _ }) (v := ?_) rfl (by kernel_rfl) (by kernel_rfl) (by kernel_rfl) (fun _ _ _ h => h) (Or.inl ⟨by rfl, ?_⟩) (by assumption) ?_
                        rotate_left
                        · (intro w hSw; (try dsimp only at hSw); go_simp; try (with_reducible rfl))
                        try simp only [Act.put, List.setIfInBounds_toArray, List.set_cons_zero, List.set_cons_succ]
                        refine wpAnyH_take (i := 2) (oi := { dst := _, op := _, type := _, pos := _, after := _, guard := _ }) (v := ?_) rfl (by kernel_rfl) (by kernel_rfl) (by kernel_rfl) (fun _ _ _ h => h) (Or.inl ⟨by rfl, ?_⟩) (by assumption) ?_
                        rotate_left
                        · (intro w hSw; (try dsimp only at hSw); go_simp; try (with_reducible rfl))
                        try simp only [Act.put, List.setIfInBounds_toArray, List.set_cons_zero, List.set_cons_succ]
                        refine wpAnyH_take (i := 3) (oi := { dst := _, op := _, type := _, pos := _, after := _, guard := _ }) (v := ?_) rfl (by kernel_rfl) (by kernel_rfl) (by kernel_rfl) (fun _ _ _ h => h) (Or.inl ⟨by rfl, ?_⟩) (by assumption) ?_
                        rotate_left
                        · (intro w hSw; (try dsimp only at hSw); go_simp; try (with_reducible rfl))
                        try simp only [Act.put, List.setIfInBounds_toArray, List.set_cons_zero, List.set_cons_succ]
                        refine wpAnyH_take (i := 4) (oi := { dst := _, op := _, type := _, pos := _, after := _, guard := _ }) (v := ?_) rfl (by kernel_rfl) (by kernel_rfl) (by kernel_rfl) (fun _ _ _ h => h) (Or.inl ⟨by rfl, ?_⟩) (by assumption) ?_
                        rotate_left
                        · (intro w hSw; (try dsimp only at hSw); go_simp; try (with_reducible rfl))
                        try simp only [Act.put, List.setIfInBounds_toArray, List.set_cons_zero, List.set_cons_succ]
                        refine wpAnyH_take (i := 5) (oi := { dst := _, op := _, type := _, pos := _, after := _, guard := _ }) (v := ?_) rfl (by kernel_rfl) (by kernel_rfl) (by kernel_rfl) (fun _ _ _ h => h) (Or.inl ⟨by rfl, ?_⟩) (by assumption) ?_
                        rotate_left
                        · (intro w hSw; (try dsimp only at hSw); go_simp; try (with_reducible rfl))
                        try simp only [Act.put, List.setIfInBounds_toArray, List.set_cons_zero, List.set_cons_succ]
                        refine wpAnyH_take (i := 6) (oi := { dst := _, op := _, type := _, pos := _, after := _, guard := _ }) (v := ?_) rfl (by kernel_rfl) (by kernel_rfl) (by kernel_rfl) (fun _ _ _ h => h) (Or.inl ⟨by rfl, ?_⟩) (by assumption) ?_
                        rotate_left
                        · (intro w hSw; (try dsimp only at hSw); go_simp; try (with_reducible rfl))
                        try simp only [Act.put, List.setIfInBounds_toArray, List.set_cons_zero, List.set_cons_succ]
                        refine wpAnyH_take (i := 7) (oi := { dst := _, op := _, type := _, pos := _, after := _, guard := _ }) (v := ?_) rfl (by kernel_rfl) (by kernel_rfl) (by kernel_rfl) (fun _ _ _ h => h) (Or.inl ⟨by rfl, ?_⟩) (by assumption) ?_
                        rotate_left
                        · (intro w hSw; (try dsimp only at hSw); go_simp; try (with_reducible rfl))
                        try simp only [Act.put, List.setIfInBounds_toArray, List.set_cons_zero, List.set_cons_succ]
                        refine wpAnyH_take (i := 8) (oi := { dst := _, op := _, type := _, pos := _, after := _, guard := _ }) rfl (by kernel_rfl) (by kernel_rfl) (by kernel_rfl) (fun _ _ _ h => h) (Or.inr ⟨by rfl, rfl⟩) (by assumption) ?_
                        try simp only [Act.put, List.setIfInBounds_toArray, List.set_cons_zero, List.set_cons_succ]
                        refine wpAnyH_take (i := 9) (oi := { dst := _, op := _, type := _, pos := _, after := _, guard := _ }) rfl (by kernel_rfl) (by kernel_rfl) (by kernel_rfl) (fun _ _ _ h => h) (Or.inr ⟨by rfl, rfl⟩) (by assumption) ?_
                        try simp only [Act.put, List.setIfInBounds_toArray, List.set_cons_zero, List.set_cons_succ]
                        refine wpAnyH_take (i := 10) (oi := { dst := _, op := _, type := _, pos := _, after := _, guard := _ }) rfl (by kernel_rfl) (by kernel_rfl) (by kernel_rfl) (fun _ _ _ h => h) (Or.inr ⟨by rfl, rfl⟩) (by assumption) ?_
                        try simp only [Act.put, List.setIfInBounds_toArray, List.set_cons_zero, List.set_cons_succ]
                        refine wpAnyH_take (i := 11) (oi := { dst := _, op := _, type := _, pos := _, after := _, guard := _ }) rfl (by kernel_rfl) (by kernel_rfl) (by kernel_rfl) (fun _ _ _ h => h) (Or.inr ⟨by rfl, rfl⟩) (by assumption) ?_
                        try simp only [Act.put, List.setIfInBounds_toArray, List.set_cons_zero, List.set_cons_succ]
                        refine wpAnyH_take (i := 12) (oi := { dst := _, op := _, type := _, pos := _, after := _, guard := _ }) rfl (by kernel_rfl) (by kernel_rfl) (by kernel_rfl) (fun _ _ _ h => h) (Or.inr ⟨by rfl, rfl⟩) (by assumption) ?_
                        try simp only [Act.put, List.setIfInBounds_toArray, List.set_cons_zero, List.set_cons_succ]
                        refine wpAnyH_take (i := 13) (oi := { dst := _, op := _, type := _, pos := _, after := _, guard := _ }) rfl (by kernel_rfl) (by kernel_rfl) (by kernel_rfl) (fun _ _ _ h => h) (Or.inr ⟨by rfl, rfl⟩) (by assumption) ?_
                        try simp only [Act.put, List.setIfInBounds_toArray, List.set_cons_zero, List.set_cons_succ]
                        refine wpAnyH_take (i := 14) (oi := { dst := _, op := _, type := _, pos := _, after := _, guard := _ }) rfl (by kernel_rfl) (by kernel_rfl) (by kernel_rfl) (fun _ _ _ h => h) (Or.inr ⟨by rfl, rfl⟩) (by assumption) ?_
                        try simp only [Act.put, List.setIfInBounds_toArray, List.set_cons_zero, List.set_cons_succ]
                        refine wpAnyH_take (i := 15) (oi := { dst := _, op := _, type := _, pos := _, after := _, guard := _ }) rfl (by kernel_rfl) (by kernel_rfl) (by kernel_rfl) (fun _ _ _ h => h) (Or.inr ⟨by rfl, rfl⟩) (by assumption) ?_
                        try simp only [Act.put, List.setIfInBounds_toArray, List.set_cons_zero, List.set_cons_succ]
                        refine wpAnyH_take (i := 16) (oi := { dst := _, op := _, type := _, pos := _, after := _, guard := _ }) rfl (by kernel_rfl) (by kernel_rfl) (by kernel_rfl) (fun _ _ _ h => h) (Or.inr ⟨by rfl, rfl⟩) (by assumption) ?_
                        try simp only [Act.put, List.setIfInBounds_toArray, List.set_cons_zero, List.set_cons_succ]
                        refine wpAnyH_take (i := 17) (oi := { dst := _, op := _, type := _, pos := _, after := _, guard := _ }) rfl (by kernel_rfl) (by kernel_rfl) (by kernel_rfl) (fun _ _ _ h => h) (Or.inr ⟨by rfl, rfl⟩) (by assumption) ?_
                        try simp only [Act.put, List.setIfInBounds_toArray, List.set_cons_zero, List.set_cons_succ]
                        refine wpAnyH_take (i := 18) (oi := { dst := _, op := _, type := _, pos := _, after := _, guard := _ }) rfl (by kernel_rfl) (by kernel_rfl) (by kernel_rfl) (fun _ _ _ h => h) (Or.inr ⟨by rfl, rfl⟩) (by assumption) ?_
                        try simp only [Act.put, List.setIfInBounds_toArray, List.set_cons_zero, List.set_cons_succ]
                        refine wpAnyH_take (i := 19) (oi := { dst := _, op := _, type := _, pos := _, after := _, guard := _ }) rfl (by kernel_rfl) (by kernel_rfl) (by kernel_rfl) (fun _ _ _ h => h) (Or.inr ⟨by rfl, rfl⟩) (by assumption) ?_
                        try simp only [Act.put, List.setIfInBounds_toArray, List.set_cons_zero, List.set_cons_succ]
                        refine wpAnyH_take (i := 20) (oi := { dst := _, op := _, type := _, pos := _, after := _, guard := _ }) rfl (by kernel_rfl) (by kernel_rfl) (by kernel_rfl) (fun _ _ _ h => h) (Or.inr ⟨by rfl, rfl⟩) (by assumption) ?_
                        try simp only [Act.put, List.setIfInBounds_toArray, List.set_cons_zero, List.set_cons_succ]
                        refine wpAnyH_take (i := 21) (oi := { dst := _, op := _, type := _, pos := _, after := _, guard := _ }) rfl (by kernel_rfl) (by kernel_rfl) (by kernel_rfl) (fun _ _ _ h => h) (Or.inr ⟨by rfl, rfl⟩) (by assumption) ?_
                        try simp only [Act.put, List.setIfInBounds_toArray, List.set_cons_zero, List.set_cons_succ]
                        refine wpAnyH_take (i := 22) (oi := { dst := _, op := _, type := _, pos := _, after := _, guard := _ }) rfl (by kernel_rfl) (by kernel_rfl) (by kernel_rfl) (fun _ _ _ h => h) (Or.inr ⟨by rfl, rfl⟩) (by assumption) ?_
                        try simp only [Act.put, List.setIfInBounds_toArray, List.set_cons_zero, List.set_cons_succ]
                        refine wpAnyH_take (i := 23) (oi := { dst := _, op := _, type := _, pos := _, after := _, guard := _ }) (v := ?_) rfl (by kernel_rfl) (by kernel_rfl) (by kernel_rfl) (fun _ _ _ h => h) (Or.inl ⟨by rfl, ?_⟩) (by assumption) ?_
                        rotate_left
                        · (intro w hSw; (try dsimp only at hSw); go_simp; try (with_reducible rfl))
                        try simp only [Act.put, List.setIfInBounds_toArray, List.set_cons_zero, List.set_cons_succ]
                        refine wpAnyH_take (i := 24) (oi := { dst := _, op := _, type := _, pos := _, after := _, guard := _ }) (v := ?_) rfl (by kernel_rfl) (by kernel_rfl) (by kernel_rfl) (fun _ _ _ h => h) (Or.inl ⟨by rfl, ?_⟩) (by assumption) ?_
                        rotate_left
                        · (intro w hSw; (try dsimp only at hSw); go_simp; try (with_reducible rfl))
                        try simp only [Act.put, List.setIfInBounds_toArray, List.set_cons_zero, List.set_cons_succ]
                        refine wpAnyH_ready (rs := [25]) (by kernel_rfl) (by simp) ?_
                        refine AllReadyH.cons (o := { dst := _, op := _, type := _, pos := _, after := _, guard := _ }) rfl (fun K hK => ?_) AllReadyH.nil
                        go_simp
                        (go_at_call 11; with_reducible refine (awake_any _).mono ?_; rintro e w9 ⟨rfl, hb9⟩)
                        go_wp2_with fail
                        refine hK.out _ _ ?_ (fun hHeld => ?_)
                        · (first | exact HK.out _ (Below.refl _ _).drew | (go_split_ands; first | exact HK.out _ (keepB (by assumption) hb9)))
                        clear hK K
                        try simp only [Act.put, List.setIfInBounds_toArray, List.set_cons_zero, List.set_cons_succ]
                        refine wpAnyH_take (i := 26) (oi := { dst := _, op := _, type := _, pos := _, after := _, guard := _ }) (v := ?_) rfl (by kernel_rfl) (by kernel_rfl) (by kernel_rfl) (fun _ _ _ h => h) (Or.inl ⟨by rfl, ?_⟩) (by assumption) ?_
                        rotate_left
                        · (intro w hSw; (try dsimp only at hSw); go_simp; try (with_reducible rfl))
                        try simp only [Act.put, List.setIfInBounds_toArray, List.set_cons_zero, List.set_cons_succ]
                        refine wpAnyH_take (i := 27) (oi := { dst := _, op := _, type := _, pos := _, after := _, guard := _ }) (v := ?_) rfl (by kernel_rfl) (by kernel_rfl) (by kernel_rfl) (fun _ _ _ h => h) (Or.inl ⟨by rfl, ?_⟩) (by assumption) ?_
                        rotate_left
                        · (intro w hSw; (try dsimp only at hSw); go_simp; try (with_reducible rfl))
                        try simp only [Act.put, List.setIfInBounds_toArray, List.set_cons_zero, List.set_cons_succ]
                        refine wpAnyH_done (by kernel_rfl) ?_ _
                        have HBZ := hid (HB8.out.trans (hHeld.2.mono HB8.out.size))
                        clear hHeld
                        go_wp2
                        go_ret
                        exact ⟨rfl, HBZ.out⟩
                      · have bx : (d.x == 0) = true := by simp [hx]
                        have b_y : (d.y == 0) = false := by simp [hy]
                        have hlt := HDOT.out (fun e => hy (by rw [e])) (by first | rfl | trivial)
                        have bl : decide (q.x * d.x + q.y * d.y < sv) = true := decide_eq_true hlt
                        clear hx hy HDOT
                        refine wp_region_held_drew (S := (fun wx => (wx.cell? ⟨w.heap.size, 0, none⟩ = some (.int .i64 q.x) ∧ wx.cell? ⟨w.heap.size, 1, none⟩ = some (.int .i64 q.y) ∧ wx.cell? ⟨w.heap.size + 1, 0, none⟩ = some (.int .i64 d.x) ∧ wx.cell? ⟨w.heap.size + 1, 1, none⟩ = some (.int .i64 d.y)) ∧ Below w8.heap.size w8 wx)) (by kernel_rfl) ?_ (fun hHeld => ?_)
                        · (first | exact HK.out _ (Below.refl _ _).drew | (go_split_ands; first | exact HK.out _ (keepB (by assumption) hb9) | exact HK.out _ (keepB (by assumption) hbS)))
                        refine wpAnyH_take (i := 0) (oi := { dst := _, op := _, type := _, pos := _, after := _, guard := _ }) (v := ?_) rfl (by kernel_rfl) (by kernel_rfl) (by kernel_rfl) (fun _ _ _ h => h) (Or.inl ⟨by rfl, ?_⟩) (by assumption) ?_
                        rotate_left
                        · (intro w hSw; (try dsimp only at hSw); go_simp; try (with_reducible rfl))
                        try simp only [Act.put, List.setIfInBounds_toArray, List.set_cons_zero, List.set_cons_succ]
                        refine wpAnyH_take (i := 1) (oi := { dst := _, op := _, type := _, pos := _, after := _, guard := _ }) (v := ?_) rfl (by kernel_rfl) (by kernel_rfl) (by kernel_rfl) (fun _ _ _ h => h) (Or.inl ⟨by rfl, ?_⟩) (by assumption) ?_
                        rotate_left
                        · (intro w hSw; (try dsimp only at hSw); go_simp; try (with_reducible rfl))
                        try simp only [Act.put, List.setIfInBounds_toArray, List.set_cons_zero, List.set_cons_succ]
                        refine wpAnyH_take (i := 2) (oi := { dst := _, op := _, type := _, pos := _, after := _, guard := _ }) (v := ?_) rfl (by kernel_rfl) (by kernel_rfl) (by kernel_rfl) (fun _ _ _ h => h) (Or.inl ⟨by rfl, ?_⟩) (by assumption) ?_
                        rotate_left
                        · (intro w hSw; (try dsimp only at hSw); go_simp; try (with_reducible rfl))
                        try simp only [Act.put, List.setIfInBounds_toArray, List.set_cons_zero, List.set_cons_succ]
                        refine wpAnyH_take (i := 3) (oi := { dst := _, op := _, type := _, pos := _, after := _, guard := _ }) (v := ?_) rfl (by kernel_rfl) (by kernel_rfl) (by kernel_rfl) (fun _ _ _ h => h) (Or.inl ⟨by rfl, ?_⟩) (by assumption) ?_
                        rotate_left
                        · (intro w hSw; (try dsimp only at hSw); go_simp; try (with_reducible rfl))
                        try simp only [Act.put, List.setIfInBounds_toArray, List.set_cons_zero, List.set_cons_succ]
                        refine wpAnyH_take (i := 4) (oi := { dst := _, op := _, type := _, pos := _, after := _, guard := _ }) (v := ?_) rfl (by kernel_rfl) (by kernel_rfl) (by kernel_rfl) (fun _ _ _ h => h) (Or.inl ⟨by rfl, ?_⟩) (by assumption) ?_
                        rotate_left
                        · (intro w hSw; (try dsimp only at hSw); go_simp; try (with_reducible rfl))
                        try simp only [Act.put, List.setIfInBounds_toArray, List.set_cons_zero, List.set_cons_succ]
                        refine wpAnyH_take (i := 5) (oi := { dst := _, op := _, type := _, pos := _, after := _, guard := _ }) (v := ?_) rfl (by kernel_rfl) (by kernel_rfl) (by kernel_rfl) (fun _ _ _ h => h) (Or.inl ⟨by rfl, ?_⟩) (by assumption) ?_
                        rotate_left
                        · (intro w hSw; (try dsimp only at hSw); go_simp; try (with_reducible rfl))
                        try simp only [Act.put, List.setIfInBounds_toArray, List.set_cons_zero, List.set_cons_succ]
                        refine wpAnyH_take (i := 6) (oi := { dst := _, op := _, type := _, pos := _, after := _, guard := _ }) (v := ?_) rfl (by kernel_rfl) (by kernel_rfl) (by kernel_rfl) (fun _ _ _ h => h) (Or.inl ⟨by rfl, ?_⟩) (by assumption) ?_
                        rotate_left
                        · (intro w hSw; (try dsimp only at hSw); go_simp; try (with_reducible rfl))
                        try simp only [Act.put, List.setIfInBounds_toArray, List.set_cons_zero, List.set_cons_succ]
                        refine wpAnyH_take (i := 7) (oi := { dst := _, op := _, type := _, pos := _, after := _, guard := _ }) (v := ?_) rfl (by kernel_rfl) (by kernel_rfl) (by kernel_rfl) (fun _ _ _ h => h) (Or.inl ⟨by rfl, ?_⟩) (by assumption) ?_
                        rotate_left
                        · (intro w hSw; (try dsimp only at hSw); go_simp; try (with_reducible rfl))
                        try simp only [Act.put, List.setIfInBounds_toArray, List.set_cons_zero, List.set_cons_succ]
                        refine wpAnyH_take (i := 8) (oi := { dst := _, op := _, type := _, pos := _, after := _, guard := _ }) (v := ?_) rfl (by kernel_rfl) (by kernel_rfl) (by kernel_rfl) (fun _ _ _ h => h) (Or.inl ⟨by rfl, ?_⟩) (by assumption) ?_
                        rotate_left
                        · (intro w hSw; (try dsimp only at hSw); go_simp; try (with_reducible rfl))
                        try simp only [Act.put, List.setIfInBounds_toArray, List.set_cons_zero, List.set_cons_succ]
                        refine wpAnyH_take (i := 9) (oi := { dst := _, op := _, type := _, pos := _, after := _, guard := _ }) (v := ?_) rfl (by kernel_rfl) (by kernel_rfl) (by kernel_rfl) (fun _ _ _ h => h) (Or.inl ⟨by rfl, ?_⟩) (by assumption) ?_
                        rotate_left
                        · (intro w hSw; (try dsimp only at hSw); go_simp; try (with_reducible rfl))
                        try simp only [Act.put, List.setIfInBounds_toArray, List.set_cons_zero, List.set_cons_succ]
                        refine wpAnyH_take (i := 10) (oi := { dst := _, op := _, type := _, pos := _, after := _, guard := _ }) (v := ?_) rfl (by kernel_rfl) (by kernel_rfl) (by kernel_rfl) (fun _ _ _ h => h) (Or.inl ⟨by rfl, ?_⟩) (by assumption) ?_
                        rotate_left
                        · (intro w hSw; (try dsimp only at hSw); go_simp; try (with_reducible rfl))
                        try simp only [Act.put, List.setIfInBounds_toArray, List.set_cons_zero, List.set_cons_succ]
                        refine wpAnyH_take (i := 11) (oi := { dst := _, op := _, type := _, pos := _, after := _, guard := _ }) (v := ?_) rfl (by kernel_rfl) (by kernel_rfl) (by kernel_rfl) (fun _ _ _ h => h) (Or.inl ⟨by rfl, ?_⟩) (by assumption) ?_
                        rotate_left
                        · (intro w hSw; (try dsimp only at hSw); go_simp; try (with_reducible rfl))
                        try simp only [Act.put, List.setIfInBounds_toArray, List.set_cons_zero, List.set_cons_succ]
                        refine wpAnyH_take (i := 12) (oi := { dst := _, op := _, type := _, pos := _, after := _, guard := _ }) (v := ?_) rfl (by kernel_rfl) (by kernel_rfl) (by kernel_rfl) (fun _ _ _ h => h) (Or.inl ⟨by rfl, ?_⟩) (by assumption) ?_
                        rotate_left
                        · (intro w hSw; (try dsimp only at hSw); go_simp; try (with_reducible rfl))
                        try simp only [Act.put, List.setIfInBounds_toArray, List.set_cons_zero, List.set_cons_succ]
                        refine wpAnyH_take (i := 13) (oi := { dst := _, op := _, type := _, pos := _, after := _, guard := _ }) (v := ?_) rfl (by kernel_rfl) (by kernel_rfl) (by kernel_rfl) (fun _ _ _ h => h) (Or.inl ⟨by rfl, ?_⟩) (by assumption) ?_
                        rotate_left
                        · (intro w hSw; (try dsimp only at hSw); go_simp; try (with_reducible rfl))
                        try simp only [Act.put, List.setIfInBounds_toArray, List.set_cons_zero, List.set_cons_succ]
                        refine wpAnyH_take (i := 14) (oi := { dst := _, op := _, type := _, pos := _, after := _, guard := _ }) (v := ?_) rfl (by kernel_rfl) (by kernel_rfl) (by kernel_rfl) (fun _ _ _ h => h) (Or.inl ⟨by rfl, ?_⟩) (by assumption) ?_
                        rotate_left
                        · (intro w hSw; (try dsimp only at hSw); go_simp; try (with_reducible rfl))
                        try simp only [Act.put, List.setIfInBounds_toArray, List.set_cons_zero, List.set_cons_succ]
                        refine wpAnyH_take (i := 15) (oi := { dst := _, op := _, type := _, pos := _, after := _, guard := _ }) (v := ?_) rfl (by kernel_rfl) (by kernel_rfl) (by kernel_rfl) (fun _ _ _ h => h) (Or.inl ⟨by rfl, ?_⟩) (by assumption) ?_
                        rotate_left
                        · (intro w hSw; (try dsimp only at hSw); go_simp; try (with_reducible rfl))
                        try simp only [Act.put, List.setIfInBounds_toArray, List.set_cons_zero, List.set_cons_succ]
                        refine wpAnyH_take (i := 16) (oi := { dst := _, op := _, type := _, pos := _, after := _, guard := _ }) (v := ?_) rfl (by kernel_rfl) (by kernel_rfl) (by kernel_rfl) (fun _ _ _ h => h) (Or.inl ⟨by rfl, ?_⟩) (by assumption) ?_
                        rotate_left
                        · (intro w hSw; (try dsimp only at hSw); go_simp; try (with_reducible rfl))
                        try simp only [Act.put, List.setIfInBounds_toArray, List.set_cons_zero, List.set_cons_succ]
                        refine wpAnyH_take (i := 17) (oi := { dst := _, op := _, type := _, pos := _, after := _, guard := _ }) (v := ?_) rfl (by kernel_rfl) (by kernel_rfl) (by kernel_rfl) (fun _ _ _ h => h) (Or.inl ⟨by rfl, ?_⟩) (by assumption) ?_
                        rotate_left
                        · (intro w hSw; (try dsimp only at hSw); go_simp; try (with_reducible rfl))
                        try simp only [Act.put, List.setIfInBounds_toArray, List.set_cons_zero, List.set_cons_succ]
                        refine wpAnyH_take (i := 18) (oi := { dst := _, op := _, type := _, pos := _, after := _, guard := _ }) (v := ?_) rfl (by kernel_rfl) (by kernel_rfl) (by kernel_rfl) (fun _ _ _ h => h) (Or.inl ⟨by rfl, ?_⟩) (by assumption) ?_
                        rotate_left
                        · (intro w hSw; (try dsimp only at hSw); go_simp; try (with_reducible rfl))
                        try simp only [Act.put, List.setIfInBounds_toArray, List.set_cons_zero, List.set_cons_succ]
                        refine wpAnyH_take (i := 19) (oi := { dst := _, op := _, type := _, pos := _, after := _, guard := _ }) (v := ?_) rfl (by kernel_rfl) (by kernel_rfl) (by kernel_rfl) (fun _ _ _ h => h) (Or.inl ⟨by rfl, ?_⟩) (by assumption) ?_
                        rotate_left
                        · (intro w hSw; (try dsimp only at hSw); go_simp; try (with_reducible rfl))
                        try simp only [Act.put, List.setIfInBounds_toArray, List.set_cons_zero, List.set_cons_succ]
                        refine wpAnyH_take (i := 20) (oi := { dst := _, op := _, type := _, pos := _, after := _, guard := _ }) (v := ?_) rfl (by kernel_rfl) (by kernel_rfl) (by kernel_rfl) (fun _ _ _ h => h) (Or.inl ⟨by rfl, ?_⟩) (by assumption) ?_
                        rotate_left
                        · (intro w hSw; (try dsimp only at hSw); go_simp; try (with_reducible rfl))
                        try simp only [Act.put, List.setIfInBounds_toArray, List.set_cons_zero, List.set_cons_succ]
                        refine wpAnyH_ready (rs := [21]) (by kernel_rfl) (by simp) ?_
                        refine AllReadyH.cons (o := { dst := _, op := _, type := _, pos := _, after := _, guard := _ }) rfl (fun K hK => ?_) AllReadyH.nil
                        go_simp
                        (go_at_call 22; with_reducible refine (HSU.out _ ?_).mono ?_; (go_split_ands; assumption); rintro e wS ⟨rfl, hbS⟩)
                        go_wp2_with fail
                        refine hK.out _ _ ?_ (fun hHeld => ?_)
                        · (first | exact HK.out _ (Below.refl _ _).drew | (go_split_ands; first | exact HK.out _ (keepB (by assumption) hb9) | exact HK.out _ (keepB (by assumption) hbS)))
                        clear hK K
                        try simp only [Act.put, List.setIfInBounds_toArray, List.set_cons_zero, List.set_cons_succ]
                        refine wpAnyH_take (i := 22) (oi := { dst := _, op := _, type := _, pos := _, after := _, guard := _ }) (v := ?_) rfl (by kernel_rfl) (by kernel_rfl) (by kernel_rfl) (fun _ _ _ h => h) (Or.inl ⟨by rfl, ?_⟩) (by assumption) ?_
                        rotate_left
                        · (intro w hSw; (try dsimp only at hSw); go_simp; try (with_reducible rfl))
                        try simp only [Act.put, List.setIfInBounds_toArray, List.set_cons_zero, List.set_cons_succ]
                        refine wpAnyH_take (i := 23) (oi := { dst := _, op := _, type := _, pos := _, after := _, guard := _ }) (v := ?_) rfl (by kernel_rfl) (by kernel_rfl) (by kernel_rfl) (fun _ _ _ h => h) (Or.inl ⟨by rfl, ?_⟩) (by assumption) ?_
                        rotate_left
                        · (intro w hSw; (try dsimp only at hSw); go_simp; try (with_reducible rfl))
                        try simp only [Act.put, List.setIfInBounds_toArray, List.set_cons_zero, List.set_cons_succ]
                        refine wpAnyH_take (i := 24) (oi := { dst := _, op := _, type := _, pos := _, after := _, guard := _ }) (v := ?_) rfl (by kernel_rfl) (by kernel_rfl) (by kernel_rfl) (fun _ _ _ h => h) (Or.inl ⟨by rfl, ?_⟩) (by assumption) ?_
                        rotate_left
                        · (intro w hSw; (try dsimp only at hSw); go_simp; try (with_reducible rfl))
                        try simp only [Act.put, List.setIfInBounds_toArray, List.set_cons_zero, List.set_cons_succ]
                        refine wpAnyH_ready (rs := [25]) (by kernel_rfl) (by simp) ?_
                        refine AllReadyH.cons (o := { dst := _, op := _, type := _, pos := _, after := _, guard := _ }) rfl (fun K hK => ?_) AllReadyH.nil
                        go_simp
                        (go_at_call 11; with_reducible refine (awake_any _).mono ?_; rintro e w9 ⟨rfl, hb9⟩)
                        go_wp2_with fail
                        refine hK.out _ _ ?_ (fun hHeld => ?_)
                        · (first | exact HK.out _ (Below.refl _ _).drew | (go_split_ands; first | exact HK.out _ (keepB (by assumption) hb9) | exact HK.out _ (keepB (by assumption) hbS)))
                        clear hK K
                        try simp only [Act.put, List.setIfInBounds_toArray, List.set_cons_zero, List.set_cons_succ]
                        refine wpAnyH_take (i := 26) (oi := { dst := _, op := _, type := _, pos := _, after := _, guard := _ }) (v := ?_) rfl (by kernel_rfl) (by kernel_rfl) (by kernel_rfl) (fun _ _ _ h => h) (Or.inl ⟨by rfl, ?_⟩) (by assumption) ?_
                        rotate_left
                        · (intro w hSw; (try dsimp only at hSw); go_simp; try (with_reducible rfl))
                        try simp only [Act.put, List.setIfInBounds_toArray, List.set_cons_zero, List.set_cons_succ]
                        refine wpAnyH_take (i := 27) (oi := { dst := _, op := _, type := _, pos := _, after := _, guard := _ }) (v := ?_) rfl (by kernel_rfl) (by kernel_rfl) (by kernel_rfl) (fun _ _ _ h => h) (Or.inl ⟨by rfl, ?_⟩) (by assumption) ?_
                        rotate_left
                        · (intro w hSw; (try dsimp only at hSw); go_simp; try (with_reducible rfl))
                        try simp only [Act.put, List.setIfInBounds_toArray, List.set_cons_zero, List.set_cons_succ]
                        refine wpAnyH_done (by kernel_rfl) ?_ _
                        have HBZ := hid (HB8.out.trans (hHeld.2.mono HB8.out.size))
                        clear hHeld
                        go_wp2
                        go_ret
                        exact ⟨rfl, HBZ.out⟩
                    · have bx : (d.x == 0) = false := by simp [hx]
                      have hlt := HDOT.out (fun e => hx (by rw [e])) (by first | rfl | trivial)
                      have bl : decide (q.x * d.x + q.y * d.y < sv) = true := decide_eq_true hlt
                      clear hx HDOT
                      refine wp_region_held_drew (S := (fun wx => (wx.cell? ⟨w.heap.size, 0, none⟩ = some (.int .i64 q.x) ∧ wx.cell? ⟨w.heap.size, 1, none⟩ = some (.int .i64 q.y) ∧ wx.cell? ⟨w.heap.size + 1, 0, none⟩ = some (.int .i64 d.x) ∧ wx.cell? ⟨w.heap.size + 1, 1, none⟩ = some (.int .i64 d.y)) ∧ Below w8.heap.size w8 wx)) (by kernel_rfl) ?_ (fun hHeld => ?_)
                      · (first | exact HK.out _ (Below.refl _ _).drew | (go_split_ands; first | exact HK.out _ (keepB (by assumption) hb9) | exact HK.out _ (keepB (by assumption) hbS)))
                      refine wpAnyH_take (i := 0) (oi := { dst := _, op := _, type := _, pos := _, after := _, guard := _ }) (v := ?_) rfl (by kernel_rfl) (by kernel_rfl) (by kernel_rfl) (fun _ _ _ h => h) (Or.inl ⟨by rfl, ?_⟩) (by assumption) ?_
                      rotate_left
                      · (intro w hSw; (try dsimp only at hSw); go_simp; try (with_reducible rfl))
                      try simp only [Act.put, List.setIfInBounds_toArray, List.set_cons_zero, List.set_cons_succ]
                      refine wpAnyH_take (i := 1) (oi := { dst := _, op := _, type := _, pos := _, after := _, guard := _ }) (v := ?_) rfl (by kernel_rfl) (by kernel_rfl) (by kernel_rfl) (fun _ _ _ h => h) (Or.inl ⟨by rfl, ?_⟩) (by assumption) ?_
                      rotate_left
                      · (intro w hSw; (try dsimp only at hSw); go_simp; try (with_reducible rfl))
                      try simp only [Act.put, List.setIfInBounds_toArray, List.set_cons_zero, List.set_cons_succ]
                      refine wpAnyH_take (i := 2) (oi := { dst := _, op := _, type := _, pos := _, after := _, guard := _ }) (v := ?_) rfl (by kernel_rfl) (by kernel_rfl) (by kernel_rfl) (fun _ _ _ h => h) (Or.inl ⟨by rfl, ?_⟩) (by assumption) ?_
                      rotate_left
                      · (intro w hSw; (try dsimp only at hSw); go_simp; try (with_reducible rfl))
                      try simp only [Act.put, List.setIfInBounds_toArray, List.set_cons_zero, List.set_cons_succ]
                      refine wpAnyH_take (i := 3) (oi := { dst := _, op := _, type := _, pos := _, after := _, guard := _ }) (v := ?_) rfl (by kernel_rfl) (by kernel_rfl) (by kernel_rfl) (fun _ _ _ h => h) (Or.inl ⟨by rfl, ?_⟩) (by assumption) ?_
                      rotate_left
                      · (intro w hSw; (try dsimp only at hSw); go_simp; try (with_reducible rfl))
                      try simp only [Act.put, List.setIfInBounds_toArray, List.set_cons_zero, List.set_cons_succ]
                      refine wpAnyH_take (i := 4) (oi := { dst := _, op := _, type := _, pos := _, after := _, guard := _ }) (v := ?_) rfl (by kernel_rfl) (by kernel_rfl) (by kernel_rfl) (fun _ _ _ h => h) (Or.inl ⟨by rfl, ?_⟩) (by assumption) ?_
                      rotate_left
                      · (intro w hSw; (try dsimp only at hSw); go_simp; try (with_reducible rfl))
                      try simp only [Act.put, List.setIfInBounds_toArray, List.set_cons_zero, List.set_cons_succ]
                      refine wpAnyH_take (i := 5) (oi := { dst := _, op := _, type := _, pos := _, after := _, guard := _ }) (v := ?_) rfl (by kernel_rfl) (by kernel_rfl) (by kernel_rfl) (fun _ _ _ h => h) (Or.inl ⟨by rfl, ?_⟩) (by assumption) ?_
                      rotate_left
                      · (intro w hSw; (try dsimp only at hSw); go_simp; try (with_reducible rfl))
                      try simp only [Act.put, List.setIfInBounds_toArray, List.set_cons_zero, List.set_cons_succ]
                      refine wpAnyH_take (i := 6) (oi := { dst := _, op := _, type := _, pos := _, after := _, guard := _ }) (v := ?_) rfl (by kernel_rfl) (by kernel_rfl) (by kernel_rfl) (fun _ _ _ h => h) (Or.inl ⟨by rfl, ?_⟩) (by assumption) ?_
                      rotate_left
                      · (intro w hSw; (try dsimp only at hSw); go_simp; try (with_reducible rfl))
                      try simp only [Act.put, List.setIfInBounds_toArray, List.set_cons_zero, List.set_cons_succ]
                      refine wpAnyH_take (i := 7) (oi := { dst := _, op := _, type := _, pos := _, after := _, guard := _ }) (v := ?_) rfl (by kernel_rfl) (by kernel_rfl) (by kernel_rfl) (fun _ _ _ h => h) (Or.inl ⟨by rfl, ?_⟩) (by assumption) ?_
                      rotate_left
                      · (intro w hSw; (try dsimp only at hSw); go_simp; try (with_reducible rfl))
                      try simp only [Act.put, List.setIfInBounds_toArray, List.set_cons_zero, List.set_cons_succ]
                      refine wpAnyH_take (i := 8) (oi := { dst := _, op := _, type := _, pos := _, after := _, guard := _ }) (v := ?_) rfl (by kernel_rfl) (by kernel_rfl) (by kernel_rfl) (fun _ _ _ h => h) (Or.inl ⟨by rfl, ?_⟩) (by assumption) ?_
                      rotate_left
                      · (intro w hSw; (try dsimp only at hSw); go_simp; try (with_reducible rfl))
                      try simp only [Act.put, List.setIfInBounds_toArray, List.set_cons_zero, List.set_cons_succ]
                      refine wpAnyH_take (i := 9) (oi := { dst := _, op := _, type := _, pos := _, after := _, guard := _ }) (v := ?_) rfl (by kernel_rfl) (by kernel_rfl) (by kernel_rfl) (fun _ _ _ h => h) (Or.inl ⟨by rfl, ?_⟩) (by assumption) ?_
                      rotate_left
                      · (intro w hSw; (try dsimp only at hSw); go_simp; try (with_reducible rfl))
                      try simp only [Act.put, List.setIfInBounds_toArray, List.set_cons_zero, List.set_cons_succ]
                      refine wpAnyH_take (i := 10) (oi := { dst := _, op := _, type := _, pos := _, after := _, guard := _ }) (v := ?_) rfl (by kernel_rfl) (by kernel_rfl) (by kernel_rfl) (fun _ _ _ h => h) (Or.inl ⟨by rfl, ?_⟩) (by assumption) ?_
                      rotate_left
                      · (intro w hSw; (try dsimp only at hSw); go_simp; try (with_reducible rfl))
                      try simp only [Act.put, List.setIfInBounds_toArray, List.set_cons_zero, List.set_cons_succ]
                      refine wpAnyH_take (i := 11) (oi := { dst := _, op := _, type := _, pos := _, after := _, guard := _ }) (v := ?_) rfl (by kernel_rfl) (by kernel_rfl) (by kernel_rfl) (fun _ _ _ h => h) (Or.inl ⟨by rfl, ?_⟩) (by assumption) ?_
                      rotate_left
                      · (intro w hSw; (try dsimp only at hSw); go_simp; try (with_reducible rfl))
                      try simp only [Act.put, List.setIfInBounds_toArray, List.set_cons_zero, List.set_cons_succ]
                      refine wpAnyH_take (i := 12) (oi := { dst := _, op := _, type := _, pos := _, after := _, guard := _ }) (v := ?_) rfl (by kernel_rfl) (by kernel_rfl) (by kernel_rfl) (fun _ _ _ h => h) (Or.inl ⟨by rfl, ?_⟩) (by assumption) ?_
                      rotate_left
                      · (intro w hSw; (try dsimp only at hSw); go_simp; try (with_reducible rfl))
                      try simp only [Act.put, List.setIfInBounds_toArray, List.set_cons_zero, List.set_cons_succ]
                      refine wpAnyH_take (i := 13) (oi := { dst := _, op := _, type := _, pos := _, after := _, guard := _ }) (v := ?_) rfl (by kernel_rfl) (by kernel_rfl) (by kernel_rfl) (fun _ _ _ h => h) (Or.inl ⟨by rfl, ?_⟩) (by assumption) ?_
                      rotate_left
                      · (intro w hSw; (try dsimp only at hSw); go_simp; try (with_reducible rfl))
                      try simp only [Act.put, List.setIfInBounds_toArray, List.set_cons_zero, List.set_cons_succ]
                      refine wpAnyH_take (i := 14) (oi := { dst := _, op := _, type := _, pos := _, after := _, guard := _ }) (v := ?_) rfl (by kernel_rfl) (by kernel_rfl) (by kernel_rfl) (fun _ _ _ h => h) (Or.inl ⟨by rfl, ?_⟩) (by assumption) ?_
                      rotate_left
                      · (intro w hSw; (try dsimp only at hSw); go_simp; try (with_reducible rfl))
                      try simp only [Act.put, List.setIfInBounds_toArray, List.set_cons_zero, List.set_cons_succ]
                      refine wpAnyH_take (i := 15) (oi := { dst := _, op := _, type := _, pos := _, after := _, guard := _ }) (v := ?_) rfl (by kernel_rfl) (by kernel_rfl) (by kernel_rfl) (fun _ _ _ h => h) (Or.inl ⟨by rfl, ?_⟩) (by assumption) ?_
                      rotate_left
                      · (intro w hSw; (try dsimp only at hSw); go_simp; try (with_reducible rfl))
                      try simp only [Act.put, List.setIfInBounds_toArray, List.set_cons_zero, List.set_cons_succ]
                      refine wpAnyH_take (i := 16) (oi := { dst := _, op := _, type := _, pos := _, after := _, guard := _ }) (v := ?_) rfl (by kernel_rfl) (by kernel_rfl) (by kernel_rfl) (fun _ _ _ h => h) (Or.inl ⟨by rfl, ?_⟩) (by assumption) ?_
                      rotate_left
                      · (intro w hSw; (try dsimp only at hSw); go_simp; try (with_reducible rfl))
                      try simp only [Act.put, List.setIfInBounds_toArray, List.set_cons_zero, List.set_cons_succ]
                      refine wpAnyH_take (i := 17) (oi := { dst := _, op := _, type := _, pos := _, after := _, guard := _ }) (v := ?_) rfl (by kernel_rfl) (by kernel_rfl) (by kernel_rfl) (fun _ _ _ h => h) (Or.inl ⟨by rfl, ?_⟩) (by assumption) ?_
                      rotate_left
                      · (intro w hSw; (try dsimp only at hSw); go_simp; try (with_reducible rfl))
                      try simp only [Act.put, List.setIfInBounds_toArray, List.set_cons_zero, List.set_cons_succ]
                      refine wpAnyH_take (i := 18) (oi := { dst := _, op := _, type := _, pos := _, after := _, guard := _ }) (v := ?_) rfl (by kernel_rfl) (by kernel_rfl) (by kernel_rfl) (fun _ _ _ h => h) (Or.inl ⟨by rfl, ?_⟩) (by assumption) ?_
                      rotate_left
                      · (intro w hSw; (try dsimp only at hSw); go_simp; try (with_reducible rfl))
                      try simp only [Act.put, List.setIfInBounds_toArray, List.set_cons_zero, List.set_cons_succ]
                      refine wpAnyH_take (i := 19) (oi := { dst := _, op := _, type := _, pos := _, after := _, guard := _ }) (v := ?_) rfl (by kernel_rfl) (by kernel_rfl) (by kernel_rfl) (fun _ _ _ h => h) (Or.inl ⟨by rfl, ?_⟩) (by assumption) ?_
                      rotate_left
                      · (intro w hSw; (try dsimp only at hSw); go_simp; try (with_reducible rfl))
                      try simp only [Act.put, List.setIfInBounds_toArray, List.set_cons_zero, List.set_cons_succ]
                      refine wpAnyH_take (i := 20) (oi := { dst := _, op := _, type := _, pos := _, after := _, guard := _ }) (v := ?_) rfl (by kernel_rfl) (by kernel_rfl) (by kernel_rfl) (fun _ _ _ h => h) (Or.inl ⟨by rfl, ?_⟩) (by assumption) ?_
                      rotate_left
                      · (intro w hSw; (try dsimp only at hSw); go_simp; try (with_reducible rfl))
                      try simp only [Act.put, List.setIfInBounds_toArray, List.set_cons_zero, List.set_cons_succ]
                      refine wpAnyH_ready (rs := [21]) (by kernel_rfl) (by simp) ?_
                      refine AllReadyH.cons (o := { dst := _, op := _, type := _, pos := _, after := _, guard := _ }) rfl (fun K hK => ?_) AllReadyH.nil
                      go_simp
                      (go_at_call 22; with_reducible refine (HSU.out _ ?_).mono ?_; (go_split_ands; assumption); rintro e wS ⟨rfl, hbS⟩)
                      go_wp2_with fail
                      refine hK.out _ _ ?_ (fun hHeld => ?_)
                      · (first | exact HK.out _ (Below.refl _ _).drew | (go_split_ands; first | exact HK.out _ (keepB (by assumption) hb9) | exact HK.out _ (keepB (by assumption) hbS)))
                      clear hK K
                      try simp only [Act.put, List.setIfInBounds_toArray, List.set_cons_zero, List.set_cons_succ]
                      refine wpAnyH_take (i := 22) (oi := { dst := _, op := _, type := _, pos := _, after := _, guard := _ }) (v := ?_) rfl (by kernel_rfl) (by kernel_rfl) (by kernel_rfl) (fun _ _ _ h => h) (Or.inl ⟨by rfl, ?_⟩) (by assumption) ?_
                      rotate_left
                      · (intro w hSw; (try dsimp only at hSw); go_simp; try (with_reducible rfl))
                      try simp only [Act.put, List.setIfInBounds_toArray, List.set_cons_zero, List.set_cons_succ]
                      refine wpAnyH_take (i := 23) (oi := { dst := _, op := _, type := _, pos := _, after := _, guard := _ }) (v := ?_) rfl (by kernel_rfl) (by kernel_rfl) (by kernel_rfl) (fun _ _ _ h => h) (Or.inl ⟨by rfl, ?_⟩) (by assumption) ?_
                      rotate_left
                      · (intro w hSw; (try dsimp only at hSw); go_simp; try (with_reducible rfl))
                      try simp only [Act.put, List.setIfInBounds_toArray, List.set_cons_zero, List.set_cons_succ]
                      refine wpAnyH_take (i := 24) (oi := { dst := _, op := _, type := _, pos := _, after := _, guard := _ }) (v := ?_) rfl (by kernel_rfl) (by kernel_rfl) (by kernel_rfl) (fun _ _ _ h => h) (Or.inl ⟨by rfl, ?_⟩) (by assumption) ?_
                      rotate_left
                      · (intro w hSw; (try dsimp only at hSw); go_simp; try (with_reducible rfl))
                      try simp only [Act.put, List.setIfInBounds_toArray, List.set_cons_zero, List.set_cons_succ]
                      refine wpAnyH_ready (rs := [25]) (by kernel_rfl) (by simp) ?_
                      refine AllReadyH.cons (o := { dst := _, op := _, type := _, pos := _, after := _, guard := _ }) rfl (fun K hK => ?_) AllReadyH.nil
                      go_simp
                      (go_at_call 11; with_reducible refine (awake_any _).mono ?_; rintro e w9 ⟨rfl, hb9⟩)
                      go_wp2_with fail
                      refine hK.out _ _ ?_ (fun hHeld => ?_)
                      · (first | exact HK.out _ (Below.refl _ _).drew | (go_split_ands; first | exact HK.out _ (keepB (by assumption) hb9) | exact HK.out _ (keepB (by assumption) hbS)))
                      clear hK K
                      try simp only [Act.put, List.setIfInBounds_toArray, List.set_cons_zero, List.set_cons_succ]
                      refine wpAnyH_take (i := 26) (oi := { dst := _, op := _, type := _, pos := _, after := _, guard := _ }) (v := ?_) rfl (by kernel_rfl) (by kernel_rfl) (by kernel_rfl) (fun _ _ _ h => h) (Or.inl ⟨by rfl, ?_⟩) (by assumption) ?_
                      rotate_left
                      · (intro w hSw; (try dsimp only at hSw); go_simp; try (with_reducible rfl))
                      try simp only [Act.put, List.setIfInBounds_toArray, List.set_cons_zero, List.set_cons_succ]
                      refine wpAnyH_take (i := 27) (oi := { dst := _, op := _, type := _, pos := _, after := _, guard := _ }) (v := ?_) rfl (by kernel_rfl) (by kernel_rfl) (by kernel_rfl) (fun _ _ _ h => h) (Or.inl ⟨by rfl, ?_⟩) (by assumption) ?_
                      rotate_left
                      · (intro w hSw; (try dsimp only at hSw); go_simp; try (with_reducible rfl))
                      try simp only [Act.put, List.setIfInBounds_toArray, List.set_cons_zero, List.set_cons_succ]
                      refine wpAnyH_done (by kernel_rfl) ?_ _
                      have HBZ := hid (HB8.out.trans (hHeld.2.mono HB8.out.size))
                      clear hHeld
                      go_wp2
                      go_ret
                      exact ⟨rfl, HBZ.out⟩
          · have hiv := insV_no (q := q) he
            rw [hiv]
            have heb : (hullE l == 0) = false := by simp [he]
            have heb2 : (hullE l != 0) = true := by simp [he]
            clear he hiv
            generalize hullE l = er at *
            have hee : (er == er) = true := by simp
            go_wp2_with fail
            ((with_reducible refine (awake_any _).mono ?_); rintro e w6 ⟨rfl, hb6⟩)
            go_wp2
            go_ret
            exact ⟨rfl, HB5.out.trans (hb6.mono HB5.out.size)⟩
end Go.Proofs.Ytopmolpnmpchoaa
