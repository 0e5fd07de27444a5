/- The walk of the law ConvexOrder: it returns true. -/
import Derived.Test.YtopmolpnmpchoaaCvOpen
import Derived.Deep.DeepCutAuto
import Derived.Deep.RegionLaw
namespace Go.Proofs.Ytopmolpnmpchoaa
open Go.RowKit

theorem step_append_rd {P : Program} {w : World} {ops : Array Oper} {o : Oper} {a : Act} {K : Act → World → Prop} {Q : Exit → Act → World → Prop} {E : Prop} (hgd : o.guard = none) (s x : Operand) (t : TypeId)
    (ho : o.op = .call { callee := .builtin .append, args := #[s, x], argTypes := #[t, t] })
    (base : Nat) (e : TypeId) (i : TypeInfo) (z : Value) (size bytes : Nat) (ht : P.underlying t = some (.slice e)) (hi : P.info? e = some i) (hz : i.zero = some z)
    (hsize : i.size = size) (hby : i.bytes = bytes) (hzs : z.cells.size = size) (hsz : 0 < size)
    (v : Value) (n : Nat) (xs : List Value) (hs : a.eval s = v) (hown : w.ownsRow base e size v n xs)
    (A : Option Addr) (m c : Nat) (news : List Value) (hx : a.eval x = .slice A m c) (hl : news.length = m * size)
    (hA : A = none → m = 0 ∧ c = 0) (hnews : ∀ ad, A = some ad → ∀ j u, news[j]? = some u → w.cell? (ad.add j) = some u) (h1 : ∀ u ∈ news, u.oneCell' = true)
    (h63 : n + m ≤ maxLen) (hbytes : (n + m) * bytes ≤ 140737488355328) (hbase : base ≤ w.heap.size)
    (h : ∀ v' w', w'.ownsRow base e size v' (n + m) (xs ++ news) → w.grownBy w' v.ownBlock → K (a.put o.dst v') w') :
    if Region.wanted o (yielded ops a.tmps) = true then Oper.wp P o a w K Q else E := by
  have hw : Region.wanted o (yielded ops a.tmps) = true := by simp [Region.wanted, hgd]
  rw [if_pos hw]
  exact wp_append_rd s x t ho base e i z size bytes ht hi hz hsize hby hzs hsz v n xs hs hown A m c news hx hl hA hnews h1 h63 hbytes hbase h
theorem own_mono {w : World} {base base' e size n : Nat} {v : Value} {xs : List Value} (h : w.ownsRow base e size v n xs) (hb : base' ≤ base) : w.ownsRow base' e size v n xs := by
  refine ⟨h.1, ?_⟩
  rcases h.2 with h0 | ⟨g, cap, cur, hv, h1, h2⟩
  · exact .inl h0
  · exact .inr ⟨g, cap, cur, hv, by omega, h2⟩

set_option maxRecDepth 100000 in
set_option maxHeartbeats 4000000 in
theorem convexOrder_walk (A : Option Addr) (cap : Nat) (l : List Pt) (tn : Int) (w : World) (h : PSl w A cap l) (hm : l.length ≤ 9223372036854775807) (t0 : 0 ≤ tn) (t1 : tn ≤ 255) :
    Calls Try.prog 8 #[.slice A l.length cap, .int .u8 tn] w fun e w' => e = .returned (.bool true) ∧ Below w.heap.size w w' := by
  have H := hid h
  have hcap := h.cap
  clear h
  obtain ⟨i0, hi0, hz0, hz1, hz2⟩ := info_parts infoPt
  by_cases hl0 : l = []
  · subst hl0
    go_enter Try.func8, Try.ntmps8
    go_wp2_with fail
    ((with_reducible refine (awake_any _).mono ?_); rintro e w1 ⟨rfl, hb1⟩)
    go_wp2
    go_ret
    exact ⟨rfl, hb1⟩
  · have hpos : 0 < l.length := List.length_pos_iff.2 hl0
    have hlb : ((l.length : Int) == 0) = false := by simp only [beq_eq_false_iff_ne]; omega
    by_cases hl : 60 < l.length
    · go_enter Try.func8, Try.ntmps8
      go_wp2_with fail
      ((with_reducible refine (awake_any _).mono ?_); rintro e w1 ⟨rfl, hb1⟩)
      go_wp2
      go_ret
      exact ⟨rfl, hb1⟩
    · obtain ⟨k, hk, hkl⟩ : ∃ k : Nat, tn.tmod (l.length : Int) = (k : Int) ∧ k < l.length := by
        refine ⟨(tn % (l.length : Int)).toNat, ?_, ?_⟩
        · rw [Int.tmod_eq_emod_of_nonneg t0]
          have := Int.emod_nonneg tn (show (l.length : Int) ≠ 0 by omega)
          omega
        · have := Int.emod_lt_of_pos tn (show (0 : Int) < (l.length : Int) by omega)
          omega
      have hk2 : tn % (l.length : Int) = (k : Int) := by rw [← Int.tmod_eq_emod_of_nonneg t0]; exact hk
      have hwt : IntKind.i64.wrap tn = tn := by rw [IntWalk.i64_in _ (by omega)]
      obtain ⟨b, off, p, hA, hB, hd, c0, c1⟩ := H.out.rd.at_ (Below.refl _ _) hkl
      subst hA
      have HDr := hid (H.out.rd.drop hkl)
      have HTk := hid (H.out.rd.take k)
      have hdl : (l.drop k).length = l.length - k := by simp
      have htl : (l.take k).length = k := by simp; omega
      have HMEM : Hid (∀ q, q ∈ l ↔ q ∈ (l.drop k ++ l.take k).reverse ++ [p]) := fun q => by
        constructor
        · intro hq
          have hq' : q ∈ l.take k ++ l.drop k := by rw [List.take_append_drop]; exact hq
          rcases List.mem_append.1 hq' with hq' | hq'
          · exact List.mem_append_left _ (List.mem_reverse.2 (List.mem_append_right _ hq'))
          · exact List.mem_append_left _ (List.mem_reverse.2 (List.mem_append_left _ hq'))
        · intro hq
          rcases List.mem_append.1 hq with hq | hq
          · rcases List.mem_append.1 (List.mem_reverse.1 hq) with hq | hq
            · exact List.mem_of_mem_drop hq
            · exact List.mem_of_mem_take hq
          · simp at hq; rw [hq]; exact List.mem_of_getElem? hd
      have HLW : Hid (hullE l = hullE ((l.drop k ++ l.take k).reverse ++ [p]) ∧ hullV l = hullV ((l.drop k ++ l.take k).reverse ++ [p])) :=
        law_order (by omega) (by simp; omega) HMEM.out
      clear hd
      have hml : (l.drop k ++ l.take k).length = l.length := by simp; omega
      generalize hR1 : l.drop k = R1 at *
      generalize hR2 : l.take k = R2 at *
      have HLEN1 := hid hdl
      have HLEN2 := hid htl
      have HML := hid hml
      clear hR1 hR2 hdl htl hml
      have i1 : (0 : Int) ≤ (k : Int) := by omega
      have i2 : (k : Int) < (l.length : Int) := by omega
      have i3 : (k : Int) ≤ (l.length : Int) := by omega
      have i4 : (k : Int) ≤ (cap : Int) := by omega
      have i5 : (l.length : Int) ≤ (cap : Int) := by omega
      have hck : ¬ cap = k := by omega
      have HOW : Hid ((w.alloc (.cells #[] 31)).ownsRow w.heap.size 31 2 (.slice (some ⟨w.heap.size, 0, none⟩) 0 0) 0 []) := World.ownsRow_made w #[] 0 (Nat.le_refl _) (Nat.zero_le _) rfl
      have HD1 : Hid (PRd (w.alloc (.cells #[] 31)) w.heap.size (some ⟨b, off + k * 2, none⟩) R1) := HDr.out.below (below1 w _)
      go_enter Try.func8, Try.ntmps8
      go_wp2_with fail
      go_cut [6] (fun s6 wx => (∃ A' c', s6 = .slice A' l.length c' ∧ wx.ownsRow w.heap.size 31 2 s6 l.length (pCells (R1 ++ R2))) ∧ Below w.heap.size w wx)
      case first =>
        go_region_law (first
          | (refine step_append_rd (by rfl) _ _ _ (by rfl) w.heap.size 31 i0 _ 2 16 Try.underlying22 hi0 hz0 hz1 hz2 rfl (by omega) (.slice (some ⟨w.heap.size, 0, none⟩) 0 0) 0 [] (by rfl) HOW.out (some ⟨b, off + k * 2, none⟩) (l.length - k) (cap - k) (pCells R1) (by rfl) (by rw [pCells_len, HLEN1.out]) (fun e => (by cases e)) HD1.out.news (pCells_one R1) (by unfold maxLen; omega) (by omega) (by simp) ?_; intro v1 w1 hown1 hgrow1)
          | (refine step_append_rd (by rfl) _ _ _ (by rfl) w.heap.size 31 i0 _ 2 16 Try.underlying22 hi0 hz0 hz1 hz2 rfl (by omega) v1 (0 + (l.length - k)) ([] ++ pCells R1) (by rfl) hown1 (some ⟨b, off, none⟩) k cap (pCells R2) (by rfl) (by rw [pCells_len, HLEN2.out]) (fun e => (by cases e)) (HTk.out.below ((below1 w (.cells #[] 31)).drew.grown hgrow1 (by simp) (fun g hg => by simp [Value.ownBlock] at hg; omega))).news (pCells_one R2) (by unfold maxLen; omega) (by omega) (by have := hgrow1.size; simp at this; omega) ?_; intro v2 w2 hown2 hgrow2))
        all_goals
          have HB1 : Hid (Below w.heap.size w w1) := (below1 w (.cells #[] 31)).drew.grown hgrow1 (by simp) (fun g hg => by simp [Value.ownBlock] at hg; omega)
          have HB2 : Hid (Below w.heap.size w w2) := own_grow_below hown1 HB1.out (Nat.le_refl _) HB1.out.size hgrow2
          have HO2 : Hid (w2.ownsRow w.heap.size 31 2 v2 l.length (pCells (R1 ++ R2))) := by
            show World.ownsRow _ _ _ _ _ _ _
            rw [pCells_app]
            rw [List.nil_append, show 0 + (l.length - k) + k = l.length by omega] at hown2
            exact hown2
          obtain ⟨A2, c2, rfl, _, _⟩ := own_slice HO2.out
          clear hown1 hgrow1 hown2 hgrow2
          go_wp2_with fail
          go_meet
          exact ⟨⟨A2, c2, rfl, HO2.out⟩, HB2.out⟩
      case rest =>
        obtain ⟨⟨A2, c2, rfl, ho2⟩, hb2⟩ := hcut
        obtain ⟨w2, rfl⟩ : ∃ w2 : World, w2 = wc := ⟨_, rfl⟩
        have HO2 := hid ho2
        have HB2 := hid hb2
        have d0 := (hb2.cell (p := ⟨b, _, none⟩) hB).trans c0
        have d1 := (hb2.cell (p := ⟨b, _, none⟩) hB).trans c1
        have hbw : b < w2.heap.size := by have := hb2.size; omega
        have HRV : Hid (∀ wx, Below w2.heap.size w2 wx → Calls Try.prog 27 #[.slice A2 l.length c2] wx fun e w' => (∃ A' c', e = .returned (.slice A' l.length c') ∧ w'.ownsRow wx.heap.size 31 2 (.slice A' l.length c') l.length (pCells (R1 ++ R2).reverse)) ∧ Below wx.heap.size wx w') := fun wx hb => by
          have hp : PSl w2 A2 c2 (R1 ++ R2) := PSl.of_own (n := l.length) (by rw [HML.out]; exact HO2.out)
          have := reversed_any A2 c2 (R1 ++ R2) wx (hp.keep hb).rd (by rw [HML.out]; omega)
          rw [HML.out] at this
          exact this
        have HMR : Hid ((R1 ++ R2).reverse.length = l.length) := by show _ = _; rw [List.length_reverse, HML.out]
        have HMM : Hid (((R1 ++ R2).reverse ++ [p]).length = l.length + 1) := by show _ = _; rw [List.length_append, HMR.out]; rfl
        have hs2 := hb2.size
        clear hb2 ho2 c0 c1
        generalize (R1 ++ R2).reverse = RV at *
        have HLIT := hid (heap_alloc_new w2 (.cells #[.int .i64 p.x, .int .i64 p.y] 31))
        go_wp2_with fail
        go_cut [6] (fun s6 wx => (∃ A' c', s6 = .slice A' (l.length + 1) c' ∧ wx.ownsRow w2.heap.size 31 2 s6 (l.length + 1) (pCells (RV ++ [p]))) ∧ Below w2.heap.size w2 wx)
        case first =>
          go_region_law (first
            | (refine step_append_lies _ (by rfl) _ _ _ (by rfl) w2.heap.size 31 i0 _ 2 16 Try.underlying22 hi0 hz0 hz1 hz2 rfl (by omega) (.slice AA l.length cA) l.length (pCells RV) (by rfl) (hoA.alloc (.cells #[.int .i64 p.x, .int .i64 p.y] 31)) ⟨wA.heap.size, 0, none⟩ 1 1 [.int .i64 p.x, .int .i64 p.y] (by rfl) (by rfl) (World.news_of_block (cs := #[.int .i64 p.x, .int .i64 p.y]) (t := 31) (fr := (0, 0)) (heap_alloc_new wA (.cells #[.int .i64 p.x, .int .i64 p.y] 31))) (by simp [Value.oneCell']) (by omega) (by unfold maxLen; omega) (by omega) (by have := hbA.size; simp; omega) (wA.heap.size + 1) (by simp) ?_; intro gg capg w6 hown6 hgrow hat hlt6; have hB6 : Below w2.heap.size w2 w6 := own_grow_below (hoA.alloc _) (hbA.alloc hbA.size _) (Nat.le_refl _) (by have := hbA.size; simp; omega) hgrow)
            | (refine step_append_lies _ (by rfl) _ _ _ (by rfl) w2.heap.size 31 i0 _ 2 16 Try.underlying22 hi0 hz0 hz1 hz2 rfl (by omega) (.slice AA l.length cA) l.length (pCells RV) (by rfl) hoA ⟨w2.heap.size, 0, none⟩ 1 1 [.int .i64 p.x, .int .i64 p.y] (by rfl) (by rfl) (World.news_of_block (cs := #[.int .i64 p.x, .int .i64 p.y]) (t := 31) (fr := (0, 0)) ((hbX.block _ (by simp)).trans HLIT.out)) (by simp [Value.oneCell']) (by omega) (by unfold maxLen; omega) (by omega) (by have := hbA.size; omega) wA.heap.size rfl ?_; intro gg capg w6 hown6 hgrow hat hlt6; have hB6 : Below w2.heap.size w2 w6 := own_grow_below hoA hbA (Nat.le_refl _) hbA.size hgrow)
            | (go_simp; go_at_call 27; with_reducible refine (HRV.out _ (by first | exact (Below.refl _ _).drew | exact (below1 w2 _).drew)).mono ?_; rintro e wA ⟨⟨AA, cA, rfl, hoX⟩, hbX⟩; have hoA := own_mono (base' := w2.heap.size) hoX (by simp); have hbA : Below w2.heap.size w2 wA := (by first | exact keepB (Below.refl w2.heap.size w2).drew hbX | exact keepB (below1 w2 _).drew hbX); have e0 := (hbA.cell (p := ⟨b, _, none⟩) hbw).trans d0; have e1 := (hbA.cell (p := ⟨b, _, none⟩) hbw).trans d1; clear hoX))
          all_goals
            have HO6 : Hid (w6.ownsRow w2.heap.size 31 2 (.slice (some ⟨gg, 0, none⟩) (l.length + 1) capg) (l.length + 1) (pCells (RV ++ [p]))) := by
              show World.ownsRow _ _ _ _ _ _ _
              rw [pCells_snoc]; exact hown6
            have HB6 := hid hB6
            clear hown6 hgrow hat hB6
            go_wp2_with fail
            go_meet
            exact ⟨⟨_, _, rfl, HO6.out⟩, HB6.out⟩
        case rest =>
          obtain ⟨⟨A3, c3, rfl, ho3⟩, hb3⟩ := hcut
          obtain ⟨w3, rfl⟩ : ∃ w3 : World, w3 = wc := ⟨_, rfl⟩
          have HB3 := hid (HB2.out.trans (hb3.mono HB2.out.size))
          have HM3 : Hid (PSl w3 A3 c3 (RV ++ [p])) := PSl.of_own (n := l.length + 1) (by rw [HMM.out]; exact ho3)
          have H3 := hid (H.out.keep HB3.out)
          clear hb3 ho3 d0 d1
          have hml3 := HMM.out
          have HML3 := hid hml3
          clear hml3
          generalize RV ++ [p] = M at *
          have HCM : Hid (∀ wx, PSl wx A3 c3 M → Calls Try.prog 12 #[.slice A3 (l.length + 1) c3] wx fun e w' => HullPost wx M e w') := fun wx hp => by
            have := Hull_any A3 c3 M wx hp (by rw [HML3.out]; omega)
            rw [HML3.out] at this
            exact this
          obtain ⟨hE, hV⟩ := HLW.out
          have HHE := hid hE
          have HHV := hid hV
          clear hE hV
          go_wp2_with fail
          ((with_reducible refine (Hull_any _ cap l _ H3.out hm).mono ?_); rintro e w4 ⟨⟨A4, c4, rfl, hs4⟩, hb4⟩)
          have HB4 := hid (HB3.out.trans (hb4.mono HB3.out.size))
          have HM4 := hid (HM3.out.keep hb4)
          have HS4 := hid hs4
          clear hb4 hs4
          go_wp2_with fail
          ((with_reducible refine (HCM.out _ HM4.out).mono ?_); rintro e w5 ⟨⟨A5, c5, rfl, hs5⟩, hb5⟩)
          rw [← HHE.out, ← HHV.out]
          rw [← HHV.out] at hs5
          have HB5 := hid (HB4.out.trans (hb5.mono HB4.out.size))
          have HS5 := hid (HS4.out.keep hb5)
          have HT5 := hid hs5
          have hvl := (hullV_len (l := l)).2
          clear hb5 hs5 HLW HHE HHV HCM
          generalize hullV l = v at *
          generalize hullE l = er at *
          have b1 : decide (v = v) = true := decide_eq_true rfl
          have b2 : (er == er) = true := by simp
          go_wp2_with fail
          ((with_reducible refine (same_any A4 A5 c4 c5 v v _ HS5.out.rd HT5.out.rd (by omega)).mono ?_); rintro e w6 ⟨rfl, hb6⟩)
          have HB6 := hid (HB5.out.trans (hb6.mono HB5.out.size))
          clear hb6
          go_wp2_with fail
          ((with_reducible refine (awake_any _).mono ?_); rintro e w7 ⟨rfl, hb7⟩)
          go_wp2
          go_ret
          exact ⟨rfl, HB6.out.trans (hb7.mono HB6.out.size)⟩
end Go.Proofs.Ytopmolpnmpchoaa
