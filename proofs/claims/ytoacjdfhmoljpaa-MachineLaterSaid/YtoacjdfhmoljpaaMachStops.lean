/- The walk of machine.stops: it returns the times at which the machine is down, joined; nothing that lay in memory is changed. -/
import Derived.Test.YtoacjdfhmoljpaaMachSort
import Derived.Deep.QuietTactic
import Derived.BigQuiet
import Derived.RegionTactic
import Derived.BigRegion
namespace Go.Proofs.Ytoacjdfhmoljpaa
open Go.RowKit
theorem infoSpan : (Try.prog.info? 42).map (fun i => (i.zero, i.size, i.bytes)) = some (some (.agg #[.int .i64 0, .int .i64 0]), 2, 16) := by kernel_rfl
theorem clip_take_succ {l : List Dn} {k : Nat} {d : Dn} (h : l[k]? = some d) (m lo hi : Int) : clip (l.take (k + 1)) m lo hi = clip (l.take k) m lo hi ++ (clip1 m lo hi d).toList := by
  unfold clip; rw [List.take_add_one, h, List.filterMap_append]; cases hc : clip1 m lo hi d <;> simp [hc]
theorem clip_len (l : List Dn) (m lo hi : Int) : (clip l m lo hi).length ≤ l.length := List.length_filterMap_le _ _
theorem clip_yes {l : List Dn} {k : Nat} {d : Dn} (h : l[k]? = some d) {m lo hi x y : Int} (hm : d.m = m) (hx : x = max d.f lo) (hy : y = min d.t hi) (hlt : x < y) : clip (l.take (k + 1)) m lo hi = clip (l.take k) m lo hi ++ [⟨x, y⟩] := by
  rw [clip_take_succ h]; unfold clip1; rw [if_pos ⟨hm, by omega⟩, hx, hy]; rfl
theorem clip_no {l : List Dn} {k : Nat} {d : Dn} (h : l[k]? = some d) {m lo hi x y : Int} (hx : x = max d.f lo) (hy : y = min d.t hi) (hlt : ¬ (d.m = m ∧ x < y)) : clip (l.take (k + 1)) m lo hi = clip (l.take k) m lo hi := by
  rw [clip_take_succ h]; unfold clip1; rw [if_neg (by omega)]; simp
theorem own_grow_below {B : Nat} {w w0 w' : World} {v : Value} {base e size n : Nat} {xs : List Value} (hown : w.ownsRow base e size v n xs) (hb : Below B w0 w) (hB : B ≤ base) (hBw : B ≤ w.heap.size) (hg : w.grownBy w' v.ownBlock) : Below B w0 w' := by
  refine hb.grown hg hBw (fun k hk => ?_)
  have := (hown.lt k hk).1
  omega

theorem own_last {w : World} {base e g cap q : Nat} {J : List Sp} {x : Sp} (h : w.ownsRow base e 2 (.slice (some ⟨g, 0, none⟩) J.length cap) J.length (spCells J)) (hx : J.getLast? = some x) (hq : J.length = q + 1) :
    w.cell? ⟨g, q * 2, none⟩ = some (.int .i64 x.a) ∧ w.cell? ⟨g, q * 2 + 1, none⟩ = some (.int .i64 x.b) ∧ w.frozen? ⟨g, q * 2 + 1, none⟩ = false := by
  have hi : J[q]? = some x := by rw [List.getLast?_eq_getElem?, hq] at hx; exact hx
  obtain ⟨h1, h2⟩ := spCells_at J q x hi
  exact ⟨(h.cellAt _ (by omega)).trans h1, (h.cellAt _ (by omega)).trans h2, h.frozenAt _⟩
theorem join_take_succ {D : List Sp} {k : Nat} {s : Sp} (h : D[k]? = some s) : join (D.take (k + 1)) = joinStep (join (D.take k)) s := by
  unfold join; rw [List.take_add_one, h]; simp [List.foldl_append]
theorem World.ownsRow.drewN {w : World} {base e size n : Nat} {v : Value} {xs : List Value} (h : w.ownsRow base e size v n xs) (k : Nat) : (w.drewN k).ownsRow base e size v n xs := h
theorem spCells_set {J : List Sp} {x : Sp} {q : Nat} (hx : J.getLast? = some x) (hq : J.length = q + 1) (y : Int) : (spCells J).set (q * 2 + 1) (.int .i64 y) = spCells (J.dropLast ++ [(⟨x.a, y⟩ : Sp)]) := by
  have hs := getLast_split hx
  have hl : J.dropLast.length = q := by rw [List.length_dropLast]; omega
  generalize J.dropLast = I at *
  subst hs
  rw [spCells_snoc, spCells_snoc, List.set_append_right _ _ (by rw [spCells_len]; omega), spCells_len, hl, show q * 2 + 1 - q * 2 = 1 from by omega]
  rfl
theorem own_store {w : World} {base e g cap q : Nat} {J : List Sp} {x : Sp} (h : w.ownsRow base e 2 (.slice (some ⟨g, 0, none⟩) J.length cap) J.length (spCells J)) (hx : J.getLast? = some x) (hq : J.length = q + 1) (n : Nat) (o : Obj) (y : Int) :
    (((w.alloc o).drewN n).setCell ⟨g, q * 2 + 1, none⟩ (.int .i64 y)).ownsRow base e 2 (.slice (some ⟨g, 0, none⟩) (q + 1) cap) (J.dropLast ++ [(⟨x.a, y⟩ : Sp)]).length (spCells (J.dropLast ++ [(⟨x.a, y⟩ : Sp)])) := by
  have h1 := (World.ownsRow.stored (w := (w.alloc o).drewN n) (World.ownsRow.drewN (h.alloc o) n) (q * 2 + 1) (.int .i64 y)).1
  rw [spCells_set hx hq, hq] at h1
  rw [show (J.dropLast ++ [(⟨x.a, y⟩ : Sp)]).length = q + 1 from by simp [hq]]
  exact h1
theorem below_drewN {B : Nat} {a w : World} (h : Below B a w) (n : Nat) : Below B a (w.drewN n) := ⟨h.os, h.tape, h.output, h.size, h.block⟩
theorem below_store {B g j n : Nat} {w0 w : World} (h : Below B w0 w) (hB : B ≤ w.heap.size) (hg : B ≤ g) (o : Obj) (u : Value) : Below B w0 (((w.alloc o).drewN n).setCell ⟨g, j, none⟩ u) :=
  (below_drewN (h.alloc hB o) n).setCell hg u
theorem own_slice {w : World} {base e size n : Nat} {v : Value} {xs : List Value} (h : w.ownsRow base e size v n xs) : ∃ A c, v = .slice A n c := by
  rcases h.2 with ⟨rfl, rfl⟩ | ⟨g, cap, cur, rfl, _⟩
  · exact ⟨_, _, rfl⟩
  · exact ⟨_, _, rfl⟩
set_option maxHeartbeats 1000000 in
theorem stops_any (A : Option Addr) (cap : Nat) (l : List Dn) (m lo hi : Int) (w : World) (h : DRd w w.heap.size A l) (hn : l.length ≤ 1000) :
    Calls Try.prog 20 #[.slice A l.length cap, .int .i64 m, .agg #[.int .i64 lo, .int .i64 hi]] w fun e w' => (∃ A' cap' J, Stops (isUp l m) lo hi J ∧ J.length ≤ l.length ∧ e = .returned (.slice A' J.length cap') ∧ SRd w' w'.heap.size A' J) ∧ Below w.heap.size w w' := by
  have H := Lib.hid h
  clear h
  obtain ⟨i0, hi0, hz0, hz1, hz2⟩ := info_parts infoSpan
  go_enter Try.func20, Try.ntmps20
  go_wp2
  go_loopw [7, 9, 10, 17] (fun v _ _ i wr => ∃ k : Nat, k ≤ l.length ∧ i = .int .i64 k ∧ wr.ownsRow (w.heap.size + 1) 42 2 v (clip (l.take k) m lo hi).length (spCells (clip (l.take k) m lo hi)) ∧ Below (w.heap.size + 1) (w.alloc (.cells #[.int .i64 lo, .int .i64 hi] 42)) wr) (fun _ _ _ i _ => l.length - (intOf i).toNat)
  case atStart => exact ⟨0, Nat.zero_le _, rfl, ⟨by simp [clip, spCells], .inl ⟨rfl, rfl⟩⟩, Below.refl _ _⟩
  case round =>
    obtain ⟨k, hk, rfl, hown, hb⟩ := hrel
    have hsz := hb.size
    rw [World.size_alloc] at hsz
    have hsz' : w.heap.size < wr.heap.size := by omega
    have hb' : Below w.heap.size w wr := ((Below.refl _ _).alloc (Nat.le_refl _) _).trans (hb.mono (by omega))
    have hcl := clip_len (l.take k) m lo hi
    have htk : (l.take k).length ≤ k := List.length_take_le _ _
    by_cases hlt : k < l.length
    · obtain ⟨b, off, d, rfl, hB, hd, c0, c1, c2⟩ := H.out.at_ hb' hlt
      have e0 : wr.cell? ⟨w.heap.size, 0, none⟩ = some (.int .i64 lo) := (hb.cell (p := ⟨w.heap.size, 0, none⟩) (by simp)).trans (by simp [go_sem])
      have e1 : wr.cell? ⟨w.heap.size, 1, none⟩ = some (.int .i64 hi) := (hb.cell (p := ⟨w.heap.size, 1, none⟩) (by simp)).trans (by simp [go_sem])
      obtain ⟨x, hx⟩ : ∃ x, x = max d.f lo := ⟨_, rfl⟩
      obtain ⟨y, hy⟩ : ∃ y, y = min d.t hi := ⟨_, rfl⟩
      have ex : max d.f lo = x := hx.symm
      have ey : min d.t hi = y := hy.symm
      have HOWN := Lib.hid hown
      have HB := Lib.hid hb
      clear hown hb
      by_cases hc : d.m = m ∧ x < y
      · have HC := Lib.hid (clip_yes hd hc.1 hx hy hc.2)
        have hmb : (d.m == m) = true := by simp [hc.1]
        have hxy := hc.2
        clear hc hd hx hy
        go_wp2_with (at_builtin; refine wpList_append_own _ rfl (.tmp 43) (.tmp 45) 38 rfl (w.heap.size + 1) 42 i0 _ 2 16 Try.underlying38 hi0 hz0 hz1 hz2 rfl (by decide) _ _ _ rfl (((HOWN.out.alloc _).alloc _).alloc _) ⟨wr.heap.size + 1 + 1, 0, none⟩ 1 1 [.int .i64 x, .int .i64 y] rfl rfl ?c1 ?c2 ?c3 ?c4 ?c5 ?_)
        case c1 => have := cell_two_new ((wr.alloc (.cells #[.int .i64 d.m, .int .i64 d.f, .int .i64 d.t] 36)).alloc (.cells #[.int .i64 x, .int .i64 y] 42)) (.int .i64 x) (.int .i64 y) 42; simpa using this
        case c2 => intro u hu; simp at hu; rcases hu with rfl | rfl <;> rfl
        case c3 => unfold maxLen; omega
        case c4 => omega
        case c5 => simp; omega
        intro v' w' hown' hgrow _
        have HO' : Hid (w'.ownsRow (w.heap.size + 1) 42 2 v' (clip (l.take (k + 1)) m lo hi).length (spCells (clip (l.take (k + 1)) m lo hi))) := by
          show World.ownsRow _ _ _ _ _ _ _
          rw [HC.out, spCells_snoc, List.length_append]; exact hown'
        have HB' : Hid (Below (w.heap.size + 1) (w.alloc (.cells #[.int .i64 lo, .int .i64 hi] 42)) w') :=
          own_grow_below (((HOWN.out.alloc _).alloc _).alloc _) (((HB.out.alloc (by omega) _).alloc (by simp; omega) _).alloc (by simp; omega) _) (Nat.le_refl _) (by simp; omega) hgrow
        clear hown' hgrow
        go_wp2
        go_roundw
        case rel => exact ⟨k + 1, by omega, by go_num, HO'.out, HB'.out⟩
        case measure => simp [intOf]; omega
      · have HC := Lib.hid (clip_no hd hx hy hc)
        have HB2 := Lib.hid ((HB.out.alloc hsz (.cells #[.int .i64 d.m, .int .i64 d.f, .int .i64 d.t] 36)).alloc (by simp; omega) (.cells #[.int .i64 x, .int .i64 y] 42))
        have HO2 : Hid (((wr.alloc (.cells #[.int .i64 d.m, .int .i64 d.f, .int .i64 d.t] 36)).alloc (.cells #[.int .i64 x, .int .i64 y] 42)).ownsRow (w.heap.size + 1) 42 2 u7 (clip (l.take (k + 1)) m lo hi).length (spCells (clip (l.take (k + 1)) m lo hi))) := by
          show World.ownsRow _ _ _ _ _ _ _
          rw [HC.out]; exact (HOWN.out.alloc _).alloc _
        by_cases hm : d.m = m
        · have hmb : (d.m == m) = true := by simp [hm]
          have hxy : ¬ x < y := fun h => hc ⟨hm, h⟩
          have HM := Lib.hid hm
          clear hc hd hx hy hm
          go_wp2
          go_roundw
          case rel => exact ⟨k + 1, by omega, by go_num, HO2.out, HB2.out⟩
          case measure => simp [intOf]; omega
        · have hmb : (d.m == m) = false := by simp [hm]
          clear hc hd hx hy hm
          go_wp2
          go_roundw
          case rel => exact ⟨k + 1, by omega, by go_num, HO2.out, HB2.out⟩
          case measure => simp [intOf]; omega
    · have hkl : k = l.length := by omega
      subst hkl
      rw [List.take_length] at hown hcl
      obtain ⟨A1, cap1, rfl⟩ := own_slice hown
      have HL := Lib.hid (clip_len l m lo hi)
      go_wp2_with fail
      ((with_reducible refine (sort_any (w.heap.size + 1) (clip l m lo hi) A1 cap1 _ hown (by omega)).mono ?_); rintro e w2 ⟨rfl, ⟨D, hperm, hso, hrd⟩, hb2⟩)
      have hDl : D.length ≤ l.length := by have := hperm.length_eq; omega
      have HDL := Lib.hid hperm.length_eq
      rw [← HDL.out]
      have hbw : Below w.heap.size w w2 := hb'.trans (hb2.mono (by omega))
      have hszw := hbw.size
      have HST := Lib.hid (stops_ok hperm hso)
      have HR := Lib.hid hrd
      clear hperm hso hrd hown hb hb2 hcl hb' htk
      go_wp2_with fail
      go_loopw [11, 13, 14, 52] (fun v _ _ i wr => ∃ k : Nat, k ≤ D.length ∧ i = .int .i64 k ∧ wr.ownsRow w2.heap.size 42 2 v (join (D.take k)).length (spCells (join (D.take k))) ∧ (join (D.take k)).length ≤ k ∧ Below w2.heap.size w2 wr) (fun _ _ _ i _ => D.length - (intOf i).toNat)
      case atStart => exact ⟨0, Nat.zero_le _, rfl, ⟨by simp [join, spCells], .inl ⟨rfl, rfl⟩⟩, by simp [join], Below.refl _ _⟩
      case round =>
        obtain ⟨k, hk, rfl, hown, hJk, hb⟩ := hrel
        have hsz := hb.size
        by_cases hlt : k < D.length
        · obtain ⟨b, off, s, rfl, hB, hd, c0, c1⟩ := HR.out.at_ hb hlt
          have HJ := Lib.hid (join_take_succ hd)
          have HB := Lib.hid hb
          clear hd hb
          generalize join (D.take k) = J at *
          cases hJ : J.getLast? with
          | none =>
            have hJe : J = [] := List.getLast?_eq_none_iff.1 hJ
            subst hJe
            have HJ' : Hid (join (D.take (k + 1)) = [s]) := HJ
            obtain ⟨A2, cap2, rfl⟩ := own_slice hown
            have HOWN := Lib.hid hown
            have hz : decide ((0 : Int) < 0) = false := by decide
            clear hown hJ HJ
            go_wp2
            go_quiet (fail)
            go_wp2_with (at_builtin; refine wpList_append_own _ rfl (.tmp 85) (.tmp 87) 38 rfl w2.heap.size 42 i0 _ 2 16 Try.underlying38 hi0 hz0 hz1 hz2 rfl (by decide) _ _ _ rfl ((World.ownsRow.drewN (HOWN.out.alloc _) _).alloc _) ⟨wr.heap.size + 1, 0, none⟩ 1 1 [.int .i64 s.a, .int .i64 s.b] rfl rfl ?d1 ?d2 ?d3 ?d4 ?d5 ?_)
            case d1 => have := cell_two_new ((wr.alloc (.cells #[.int .i64 s.a, .int .i64 s.b] 42)).drewN nq) (.int .i64 s.a) (.int .i64 s.b) 42; simpa using this
            case d2 => intro u hu; simp at hu; rcases hu with rfl | rfl <;> rfl
            case d3 => unfold maxLen; simp
            case d4 => simp
            case d5 => simp; omega
            intro v' w' hown' hgrow _
            have HB' : Hid (Below w2.heap.size w2 w') :=
              own_grow_below ((World.ownsRow.drewN (HOWN.out.alloc _) _).alloc _) ((below_drewN (HB.out.alloc (by omega) _) _).alloc (by simp; omega) _) (Nat.le_refl _) (by simp; omega) hgrow
            have HO' : Hid (w'.ownsRow w2.heap.size 42 2 v' (join (D.take (k + 1))).length (spCells (join (D.take (k + 1))))) := by
              show World.ownsRow _ _ _ _ _ _ _
              rw [HJ'.out]; exact hown'
            clear hown' hgrow
            go_wp2
            go_roundw
            case rel => exact ⟨k + 1, by omega, by go_num, HO'.out, by rw [HJ'.out]; simp, HB'.out⟩
            case measure => simp [intOf]; omega
          | some x =>
            have hJs := getLast_split hJ
            obtain ⟨q, hq⟩ : ∃ q, J.dropLast.length = q := ⟨_, rfl⟩
            have hJl : J.length = q + 1 := by rw [hJs]; simp [hq]
            obtain ⟨g, cap2, rfl, hg1, hg2⟩ := hown.form (by omega)
            have hc := own_last hown hJ hJl
            have HOWN0 := Lib.hid hown
            rw [hJl] at hown ⊢ hJk
            have HOWN := Lib.hid hown
            have HJl := Lib.hid hJl
            have HJL := Lib.hid hJ
            obtain ⟨ca, cb, cf⟩ := hc
            clear hown hJ hJs hJl hq
            have hq0 : (0 : Int) ≤ q := by omega
            have hq1 : (0 : Int) < (q : Int) + 1 := by omega
            have hw1 : IntKind.i64.wrap ((q : Int) + 1 - 1) = q := by rw [IntWalk.i64_in _ (by omega)]; omega
            obtain ⟨y, hy⟩ : ∃ y, y = max x.b s.b := ⟨_, rfl⟩
            have ey : max x.b s.b = y := hy.symm
            by_cases hle : s.a ≤ x.b
            · have HJ' : Hid (join (D.take (k + 1)) = J.dropLast ++ [⟨x.a, y⟩]) := by
                have := HJ.out; unfold joinStep at this; rw [HJL.out] at this; simp only [if_pos hle] at this; rw [hy]; exact this
              clear hy HJ
              go_wp2
              go_quiet (fail)
              go_wp2
              go_region
              go_wp2
              go_roundw
              case rel =>
                refine ⟨k + 1, by omega, by go_num, ?_, ?_, ?_⟩
                · rw [HJ'.out]; exact own_store HOWN0.out HJL.out HJl.out (nq + 1) _ y
                · rw [HJ'.out]; simp [HJl.out]; omega
                · exact below_store HB.out (by omega) hg1 _ _
              case measure => simp [intOf]; omega
            · have HJ' : Hid (join (D.take (k + 1)) = J ++ [s]) := by
                have := HJ.out; unfold joinStep at this; rw [HJL.out] at this; simp only [if_neg hle] at this; exact this
              clear hy ey HJ
              go_wp2
              go_quiet (fail)
              go_wp2_with (at_builtin; refine wpList_append_own _ rfl (.tmp 85) (.tmp 87) 38 rfl w2.heap.size 42 i0 _ 2 16 Try.underlying38 hi0 hz0 hz1 hz2 rfl (by decide) _ _ _ rfl ((World.ownsRow.drewN (HOWN.out.alloc _) _).alloc _) ⟨wr.heap.size + 1, 0, none⟩ 1 1 [.int .i64 s.a, .int .i64 s.b] rfl rfl ?e1 ?e2 ?e3 ?e4 ?e5 ?_)
              case e1 => have := cell_two_new ((wr.alloc (.cells #[.int .i64 s.a, .int .i64 s.b] 42)).drewN nq) (.int .i64 s.a) (.int .i64 s.b) 42; simpa using this
              case e2 => intro u hu; simp at hu; rcases hu with rfl | rfl <;> rfl
              case e3 => unfold maxLen; omega
              case e4 => omega
              case e5 => simp; omega
              intro v' w' hown' hgrow _
              have HB' : Hid (Below w2.heap.size w2 w') :=
                own_grow_below ((World.ownsRow.drewN (HOWN.out.alloc _) _).alloc _) ((below_drewN (HB.out.alloc (by omega) _) _).alloc (by simp; omega) _) (Nat.le_refl _) (by simp; omega) hgrow
              have HO' : Hid (w'.ownsRow w2.heap.size 42 2 v' (join (D.take (k + 1))).length (spCells (join (D.take (k + 1))))) := by
                show World.ownsRow _ _ _ _ _ _ _
                rw [HJ'.out]; rw [spCells_snoc, List.length_append, HJl.out]; exact hown'
              clear hown' hgrow
              go_wp2
              go_roundw
              case rel => exact ⟨k + 1, by omega, by go_num, HO'.out, by rw [HJ'.out]; simp [HJl.out]; omega, HB'.out⟩
              case measure => simp [intOf]; omega
        · have hkl : k = D.length := by omega
          subst hkl
          rw [List.take_length] at hown hJk
          obtain ⟨A2, cap2, rfl⟩ := own_slice hown
          go_wp2
          go_ret
          exact ⟨⟨A2, cap2, join D, HST.out, by omega, rfl, SRd.of_own hown⟩, hbw.trans (hb.mono (by omega))⟩
end Go.Proofs.Ytoacjdfhmoljpaa
