/- The walk of convex.border: one half of the hull. -/
import Derived.Test.YtopmolpnmpchoaaCvReverse
import Derived.Test.YtopmolpnmpchoaaAppend
import Derived.Deep.RegionHeld3
import Derived.Deep.RegionWith
import Derived.Outline
import Derived.Handy
namespace Go.Proofs.Ytopmolpnmpchoaa
open Go.RowKit

theorem keepB {a b c : World} (h : Below a.heap.size a b) (k : Below b.heap.size b c) : Below a.heap.size a c := h.trans (k.mono h.size)
theorem own_belowT {w w' : World} {base e size n : Nat} {v : Value} {xs : List Value} (h : w.ownsRow base e size v n xs) (hb : Below w.heap.size w w') : w'.ownsRow base e size v n xs := by
  refine h.kept (row := none) ⟨hb.os, hb.tape, hb.output, hb.size, fun k hk _ => hb.block k hk⟩ ?_
  by_cases e : v.ownBlock = none
  · exact .inl e
  · exact .inr e
theorem own_grow_below {B : Nat} {w w0 w' : World} {v : Value} {base e size n : Nat} {xs : List Value} (hown : w.ownsRow base e size v n xs) (hb : Below B w0 w) (hB : B ≤ base) (hBw : B ≤ w.heap.size) (hg : w.grownBy w' v.ownBlock) : Below B w0 w' := by
  refine hb.grown hg hBw (fun k hk => ?_)
  have := (hown.lt k hk).1
  omega
theorem infoPt : (Try.prog.info? 31).map (fun i => (i.zero, i.size, i.bytes)) = some (some (.agg #[.int .i64 0, .int .i64 0]), 2, 16) := by kernel_rfl
def sliceLen : Value → Nat
  | .slice _ n _ => n
  | _ => 0
theorem pop_mem (p : Pt) : ∀ (s : List Pt), ∀ q ∈ pop p s, q ∈ s
  | [], q, h => by unfold pop at h; exact h
  | [_], q, h => by unfold pop at h; exact h
  | b :: a :: r, q, h => by
    unfold pop at h
    split at h
    · exact List.mem_cons_of_mem _ (pop_mem p (a :: r) q h)
    · exact h
theorem chain_mem : ∀ (n : Nat) (l : List Pt), l.length = n → ∀ q ∈ chain l, q ∈ l := by
  intro n
  induction n with
  | zero => intro l h q hq; rw [List.eq_nil_of_length_eq_zero h] at hq; cases hq
  | succ n ih =>
    intro l h q hq
    rcases snoc_or l with rfl | ⟨l', p, rfl⟩
    · simp at h
    · rw [chain_snoc] at hq
      unfold push at hq
      rcases List.mem_cons.1 hq with rfl | hq
      · simp
      · exact List.mem_append_left _ (ih l' (by simpa using h) q (pop_mem p _ q hq))
theorem chain_take {l : List Pt} {k : Nat} {p : Pt} (h : l[k]? = some p) : chain (l.take (k + 1)) = p :: pop p (chain (l.take k)) := by
  rw [List.take_add_one, h]; exact chain_snoc _ _
theorem pop_go {p a b : Pt} {r : List Pt} (h : crs a b p ≤ 0) : pop p (b :: a :: r) = pop p (a :: r) := by
  conv => lhs; unfold pop
  rw [if_pos h]
theorem pop_stay {p a b : Pt} {r : List Pt} (h : ¬ crs a b p ≤ 0) : pop p (b :: a :: r) = b :: a :: r := by
  conv => lhs; unfold pop
  rw [if_neg h]
theorem pop_short {p : Pt} {s : List Pt} (h : s.length ≤ 1) : pop p s = s := by
  match s, h with
  | [], _ => unfold pop; rfl
  | [_], _ => unfold pop; rfl

set_option maxRecDepth 100000 in
set_option maxHeartbeats 4000000 in
theorem border_any (A : Option Addr) (cap : Nat) (l : List Pt) (w : World) (h : PRd w w.heap.size A l) (hb : Bd l) (hn : l.length ≤ 1000000) (hl : 0 < l.length) :
    Calls Try.prog 45 #[.slice A l.length cap] w fun e w' => (∃ A' c', e = .returned (.slice A' (chain l).tail.length c') ∧ w'.ownsRow w.heap.size 31 2 (.slice A' (chain l).tail.length c') (chain l).tail.length (pCells (chain l).tail.reverse)) ∧ Below w.heap.size w w' := by
  have H := hid h
  have HBd := hid hb
  clear h hb
  obtain ⟨i0, hi0, hz0, hz1, hz2⟩ := info_parts infoPt
  go_enter Try.func45, Try.ntmps45
  go_wp2_with fail
  go_loopw [3, 5, 8] (fun v _ i wr => ∃ k : Nat, k ≤ l.length ∧ i = .int .i64 k ∧ Hid (wr.ownsRow w.heap.size 31 2 v (chain (l.take k)).length (pCells (chain (l.take k)).reverse)) ∧ Hid (Below w.heap.size w wr)) (fun _ _ i _ => l.length - (intOf i).toNat)
  case atStart => exact ⟨0, Nat.zero_le _, rfl, ⟨by simp [chain, pCells], .inl ⟨rfl, rfl⟩⟩, Below.refl _ _⟩
  case round =>
    obtain ⟨k, hk, rfl, HO, HB⟩ := hrel
    have hcl := chain_len (l.take k)
    rw [List.length_take, Nat.min_eq_left hk] at hcl
    by_cases hlt : k < l.length
    · obtain ⟨b, off, p, rfl, hB, hd, c0, c1⟩ := H.out.at_ HB.out hlt
      have HC := hid (chain_take hd)
      have HD := hid hd
      clear hd
      have hpin := HBd.out p (List.mem_of_getElem? HD.out)
      have HPin := hid hpin
      have HSin : Hid (∀ q ∈ chain (l.take k), In 8388608 q) := fun q hq => HBd.out q (List.mem_of_mem_take (chain_mem _ _ rfl q hq))
      clear hpin
      generalize chain (l.take k) = s0 at *
      obtain ⟨wo, rfl⟩ : ∃ wo : World, wo = wr := ⟨_, rfl⟩
      have hso := HB.out.size
      go_wp2_with fail
      go_loopw [3] (fun v wr => ∃ s : List Pt, Hid (pop p s = pop p s0) ∧ Hid (∀ q ∈ s, In 8388608 q) ∧ s.length ≤ k ∧ Hid (wr.ownsRow w.heap.size 31 2 v s.length (pCells s.reverse)) ∧ wr.cell? ⟨wo.heap.size, 0, none⟩ = some (.int .i64 p.x) ∧ wr.cell? ⟨wo.heap.size, 1, none⟩ = some (.int .i64 p.y) ∧ wo.heap.size < wr.heap.size ∧ Hid (Below w.heap.size w wr)) (fun v _ => sliceLen v)
      case atStart => exact ⟨s0, rfl, HSin.out, hcl, HO.out.alloc _, by simp [go_sem], by simp [go_sem], by simp, HB.out.alloc hso _⟩
      case round =>
        obtain ⟨s, HP, HIn, hsk, HO2, e0, e1, hsw, HB2⟩ := hrel
        by_cases hs1 : s.length ≤ 1
        · have HPS : Hid (pop p s0 = s) := by show _ = _; rw [← HP.out]; exact pop_short hs1
          have HCN : Hid (chain (l.take (k + 1)) = p :: s) := by show _ = _; rw [HC.out, HPS.out]
          obtain ⟨A1, ca, rfl, _, _⟩ := own_slice HO2.out
          have hq1 : decide ((1 : Int) < (s.length : Int)) = false := by simp; omega
          clear hs1
          go_wp2_with fail
          go_quiet (fail)
          go_wp2_with (at_builtin; refine wpList_append_own _ rfl (.tmp 37) (.tmp 39) 22 rfl w.heap.size 31 i0 _ 2 16 Try.underlying22 hi0 hz0 hz1 hz2 rfl (by decide) _ _ _ rfl ((own_drewN HO2.out _).alloc _) ⟨wr.heap.size, 0, none⟩ 1 1 [.int .i64 p.x, .int .i64 p.y] rfl rfl ?c1 ?c2 ?c3 ?c4 ?c5 ?_)
          case c1 => have := cell_two_new (wr.drewN nq) (.int .i64 p.x) (.int .i64 p.y) 31; simpa using this
          case c2 => intro u hu; simp at hu; rcases hu with rfl | rfl <;> rfl
          case c3 => unfold maxLen; omega
          case c4 => omega
          case c5 => have := HB2.out.size; simp; omega
          intro v' w' hown' hgrow _
          have HO' : Hid (w'.ownsRow w.heap.size 31 2 v' (chain (l.take (k + 1))).length (pCells (chain (l.take (k + 1))).reverse)) := by
            show World.ownsRow _ _ _ _ _ _ _
            rw [HCN.out, List.reverse_cons, pCells_snoc, List.length_cons]; exact hown'
          have HB' : Hid (Below w.heap.size w w') :=
            own_grow_below ((own_drewN HO2.out _).alloc _) ((below_drewN HB2.out _).alloc (by have := HB2.out.size; simp; omega) _) (Nat.le_refl _) (by have := HB2.out.size; simp; omega) hgrow
          clear hown' hgrow
          go_wp2_with fail
          go_roundw
          case rel => exact ⟨k + 1, by omega, by go_num, HO'.out, HB'.out⟩
          case measure => simp [intOf]; omega
        · match s, hs1, HP, HIn, hsk, HO2 with
          | [], hs1, _, _, _, _ => exact absurd (by simp) hs1
          | [_], hs1, _, _, _, _ => exact absurd (by simp) hs1
          | b' :: a :: r, hs1, HP, HIn, hsk, HO2 =>
            clear hs1
            obtain ⟨n, hrn⟩ : ∃ n, r.length = n := ⟨_, rfl⟩
            have hlen : (b' :: a :: r).length = n + 2 := by simp [hrn]
            rw [hlen] at HO2 hsk
            obtain ⟨g, cg, rfl, hg1, hg2⟩ := HO2.out.form (by omega)
            obtain ⟨a0, a1⟩ := own_at HO2.out (i := n) (p := a) (by simp [hrn])
            obtain ⟨b0, b1⟩ := own_at HO2.out (i := n + 1) (p := b') (by simp [hrn])
            have ha := HIn.out a (by simp)
            have hb' := HIn.out b' (by simp)
            have HCR : Hid (∀ wx, Calls Try.prog 36 #[.agg #[.int .i64 a.x, .int .i64 a.y], .agg #[.int .i64 b'.x, .int .i64 b'.y], .agg #[.int .i64 p.x, .int .i64 p.y]] wx fun e w' => e = .returned (.int .i64 (crs a b' p)) ∧ Below wx.heap.size wx w') := fun wx => cross_any a b' p wx ha hb' HPin.out
            have HK : Hid (∀ wx, Below wr.heap.size wr wx → (wx.cell? ⟨g, n * 2, none⟩ = some (.int .i64 a.x) ∧ wx.cell? ⟨g, n * 2 + 1, none⟩ = some (.int .i64 a.y) ∧ wx.cell? ⟨g, (n + 1) * 2, none⟩ = some (.int .i64 b'.x) ∧ wx.cell? ⟨g, (n + 1) * 2 + 1, none⟩ = some (.int .i64 b'.y) ∧ wx.cell? ⟨wo.heap.size, 0, none⟩ = some (.int .i64 p.x) ∧ wx.cell? ⟨wo.heap.size, 1, none⟩ = some (.int .i64 p.y)) ∧ Below wr.heap.size wr wx) :=
              fun wx hb => ⟨⟨(hb.cell (p := ⟨g, _, none⟩) hg2).trans a0, (hb.cell (p := ⟨g, _, none⟩) hg2).trans a1, (hb.cell (p := ⟨g, _, none⟩) hg2).trans b0, (hb.cell (p := ⟨g, _, none⟩) hg2).trans b1, (hb.cell (p := ⟨wo.heap.size, _, none⟩) hsw).trans e0, (hb.cell (p := ⟨wo.heap.size, _, none⟩) hsw).trans e1⟩, hb⟩
            clear ha hb' hlen
            have hq1 : decide ((1 : Int) < (n : Int) + 2) = true := by simp; omega
            have hw2 : IntKind.i64.wrap ((n : Int) + 2 - 2) = n := by rw [IntWalk.i64_in _ (by omega)]; omega
            have hw1 : IntKind.i64.wrap ((n : Int) + 2 - 1) = (n : Int) + 1 := by rw [IntWalk.i64_in _ (by omega)]; omega
            have hw3 : IntKind.i64.wrap (n : Int) = n := by rw [IntWalk.i64_in _ (by omega)]
            have hw4 : IntKind.i64.wrap ((n : Int) + 1) = (n : Int) + 1 := by rw [IntWalk.i64_in _ (by omega)]
            have i1 : (0 : Int) ≤ (n : Int) := by omega
            have i2 : (0 : Int) ≤ (n : Int) + 1 := by omega
            have i3 : (n : Int) < (n : Int) + 2 := by omega
            have i4 : (n : Int) + 1 < (n : Int) + 2 := by omega
            go_wp2_with fail
            go_region_held3 (fun wx => (wx.cell? ⟨g, n * 2, none⟩ = some (.int .i64 a.x) ∧ wx.cell? ⟨g, n * 2 + 1, none⟩ = some (.int .i64 a.y) ∧ wx.cell? ⟨g, (n + 1) * 2, none⟩ = some (.int .i64 b'.x) ∧ wx.cell? ⟨g, (n + 1) * 2 + 1, none⟩ = some (.int .i64 b'.y) ∧ wx.cell? ⟨wo.heap.size, 0, none⟩ = some (.int .i64 p.x) ∧ wx.cell? ⟨wo.heap.size, 1, none⟩ = some (.int .i64 p.y)) ∧ Below wr.heap.size wr wx)
              (first | exact HK.out _ (Below.refl _ _).drew | (go_split_ands; exact HK.out _ (keepB (by assumption) hb7)))
              (first | (go_at_call 36; refine (HCR.out _).mono ?_; rintro e w7 ⟨rfl, hb7⟩))
            rename_i hSl
            have HBZ := hid hSl.2
            have HO3 := hid (own_belowT HO2.out HBZ.out)
            have e2 := (HBZ.out.cell (p := ⟨wo.heap.size, 0, none⟩) hsw).trans e0
            have e3 := (HBZ.out.cell (p := ⟨wo.heap.size, 1, none⟩) hsw).trans e1
            have HB3 := hid (HB2.out.trans (HBZ.out.mono HB2.out.size))
            have hs7 := HBZ.out.size
            clear hSl hb7 a0 a1 b0 b1 e0 e1
            rename World => w8
            have HGO : Hid (crs a b' p ≤ 0 → pop p (b' :: a :: r) = pop p (a :: r)) := fun h => pop_go h
            have HST : Hid (¬ crs a b' p ≤ 0 → pop p (b' :: a :: r) = b' :: a :: r) := fun h => pop_stay h
            generalize crs a b' p = c at *
            by_cases hc : c ≤ 0
            · have HPN : Hid (pop p (a :: r) = pop p s0) := by show _ = _; rw [← HP.out, HGO.out hc]
              have hcap : (n : Int) + 1 ≤ (cg : Int) := by
                obtain ⟨_, _, _, _, hcc, _⟩ := own_block HO3.out
                omega
              have HO4 : Hid (w8.ownsRow w.heap.size 31 2 (.slice (some ⟨g, 0, none⟩) (n + 1) cg) (n + 1) (pCells (a :: r).reverse)) := by
                have h1 : (b' :: a :: r).reverse.length = n + 2 := by simp [hrn]
                have h2 := HO3.out
                rw [← h1] at h2
                have h3 := own_cut h2 (m := n + 1) (by omega)
                rw [List.reverse_cons, List.take_append_of_le_length (by simp [hrn]), List.take_of_length_le (by simp [hrn])] at h3
                exact h3
              go_wp2_with fail
              go_roundw
              case rel => exact ⟨a :: r, HPN.out, fun q hq => HIn.out q (List.mem_cons_of_mem _ hq), by simp [hrn]; omega, by rw [List.length_cons, hrn]; exact HO4.out, e2, e3, by omega, HB3.out⟩
              case measure => simp [sliceLen]
            · have HCN : Hid (chain (l.take (k + 1)) = p :: b' :: a :: r) := by show _ = _; rw [HC.out, ← HP.out, HST.out hc]
              go_wp2_with (at_builtin; refine wpList_append_own _ rfl (.tmp 37) (.tmp 39) 22 rfl w.heap.size 31 i0 _ 2 16 Try.underlying22 hi0 hz0 hz1 hz2 rfl (by decide) _ _ _ rfl (HO3.out.alloc _) ⟨w8.heap.size, 0, none⟩ 1 1 [.int .i64 p.x, .int .i64 p.y] rfl rfl (by have := cell_two_new w8 (.int .i64 p.x) (.int .i64 p.y) 31; simpa using this) (by intro u hu; simp at hu; rcases hu with rfl | rfl <;> rfl) (by unfold maxLen; omega) (by omega) (by have := HB3.out.size; simp; omega) ?_)
              intro v' w' hown' hgrow _
              have HO' : Hid (w'.ownsRow w.heap.size 31 2 v' (chain (l.take (k + 1))).length (pCells (chain (l.take (k + 1))).reverse)) := by
                show World.ownsRow _ _ _ _ _ _ _
                rw [HCN.out, show (p :: b' :: a :: r).reverse = (r.reverse ++ [a, b']) ++ [p] by simp, pCells_snoc, List.length_cons, List.length_cons, List.length_cons, hrn]; exact hown'
              have HB' : Hid (Below w.heap.size w w') :=
                own_grow_below (HO3.out.alloc _) (HB3.out.alloc (by have := HB3.out.size; omega) _) (Nat.le_refl _) (by have := HB3.out.size; simp; omega) hgrow
              clear hown' hgrow
              go_wp2_with fail
              go_roundw
              case rel => exact ⟨k + 1, by omega, by go_num, HO'.out, HB'.out⟩
              case measure => simp [intOf]; omega
    · obtain rfl : l.length = k := by omega
      rw [List.take_length] at HO hcl
      have hne : chain l ≠ [] := by
        intro e
        rcases snoc_or l with h | ⟨l', q, h⟩
        · rw [h] at hl; simp at hl
        · rw [h, chain_snoc] at e; cases e
      obtain ⟨n, hcn⟩ : ∃ n, (chain l).length = n + 1 := ⟨(chain l).length - 1, by have := List.length_pos_iff.2 hne; omega⟩
      have HT : Hid (w = w) := rfl
      rw [hcn] at HO
      obtain ⟨g, cg, rfl, hg1, hg2⟩ := HO.out.form (by omega)
      have HF : Hid (wr.ownsRow w.heap.size 31 2 (.slice (some ⟨g, 0, none⟩) n cg) n (pCells (chain l).tail.reverse)) := by
        have h1 : (chain l).reverse.length = n + 1 := by simp [hcn]
        have h2 := HO.out
        rw [← h1] at h2
        have h3 := own_cut h2 (m := n) (by omega)
        cases hx : chain l with
        | nil => exact absurd hx hne
        | cons c r =>
          rw [hx] at h3 hcn
          simp at hcn
          rw [List.reverse_cons, List.take_append_of_le_length (by simp [hcn]), List.take_of_length_le (by simp [hcn])] at h3
          exact h3
      have hcap : (n : Int) ≤ (cg : Int) := by
        obtain ⟨_, _, _, _, hcc, _⟩ := own_block HO.out
        omega
      have HTL : Hid ((chain l).length - 1 = n) := by show _ = _; omega
      have hw1 : IntKind.i64.wrap ((n : Int) + 1 - 1) = n := by rw [IntWalk.i64_in _ (by omega)]; omega
      have hw2 : IntKind.i64.wrap (n : Int) = n := by rw [IntWalk.i64_in _ (by omega)]
      have i1 : (0 : Int) ≤ (n : Int) := by omega
      clear hcn
      go_wp2
      go_ret
      simp only [HTL.out]
      exact ⟨⟨_, _, rfl, HF.out⟩, HB.out⟩
end Go.Proofs.Ytopmolpnmpchoaa
