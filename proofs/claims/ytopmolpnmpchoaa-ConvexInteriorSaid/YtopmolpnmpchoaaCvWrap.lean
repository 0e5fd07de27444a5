/- The walk of the reference's wrap: gift wrapping. -/
import Derived.Test.YtopmolpnmpchoaaCvLeast
import Derived.Deep.DeepCutAuto
import Derived.Deep.CutBlock
namespace Go.Proofs.Ytopmolpnmpchoaa
open Go.RowKit

/-- Block b is just the spot p. -/
def Box (w : World) (b : Nat) (p : Pt) : Prop := w.heap[b]? = some (.cells #[.int .i64 p.x, .int .i64 p.y] 31 (0, 0))
theorem Box.lt {w : World} {b : Nat} {p : Pt} (h : Box w b p) : b < w.heap.size := by
  unfold Box at h
  by_cases hb : b < w.heap.size
  · exact hb
  · rw [Array.getElem?_eq_none (by omega)] at h; cases h
theorem Box.x {w : World} {b : Nat} {p : Pt} (h : Box w b p) : w.cell? ⟨b, 0, none⟩ = some (.int .i64 p.x) := by unfold Box at h; simp [World.cell?, h]
theorem Box.y {w : World} {b : Nat} {p : Pt} (h : Box w b p) : w.cell? ⟨b, 1, none⟩ = some (.int .i64 p.y) := by unfold Box at h; simp [World.cell?, h]
theorem Box.free {w : World} {b : Nat} {p : Pt} (h : Box w b p) (i : Nat) : w.frozen? ⟨b, i, none⟩ = false := by unfold Box at h; simp [World.frozen?, h]
theorem Box.new (w : World) (p : Pt) : Box (w.alloc (.cells #[.int .i64 p.x, .int .i64 p.y] 31)) w.heap.size p := heap_alloc_new w _
theorem Box.below {w w' : World} {B b : Nat} {p : Pt} (h : Box w b p) (hb : Below B w w') (hB : b < B) : Box w' b p := (hb.block b hB).trans h
theorem Box.alloc {w : World} {b : Nat} {p : Pt} (h : Box w b p) (o : Obj) : Box (w.alloc o) b p := (Below.heap_alloc w o b h.lt).trans h
theorem Box.far {w : World} {b : Nat} {p : Pt} (h : Box w b p) {a : Addr} (hne : b ≠ a.block) (u : Value) : Box (w.setCell a u) b p := (heap_setCell_other w a b u (fun e => hne (by rw [e]))).trans h
theorem Box.put {w : World} {b : Nat} {p : Pt} (h : Box w b p) (q : Pt) : Box ((w.setCell ⟨b, 0, none⟩ (.int .i64 q.x)).setCell ⟨b, 1, none⟩ (.int .i64 q.y)) b q := by
  unfold Box at *
  rw [heap_setCell_same _ b 1 _ _ _ (heap_setCell_same w b 0 _ _ _ h)]
  simp
theorem Box.grown {w w' : World} {b : Nat} {p : Pt} {r : Option Nat} (h : Box w b p) (hg : w.grownBy w' r) (hne : some b ≠ r) : Box w' b p := (hg.block b h.lt hne).trans h

theorem pt_cases (p q : Pt) : p = q ∨ (p.x == q.x) = false ∨ (p.x = q.x ∧ (p.y == q.y) = false) := by
  by_cases hx : p.x = q.x
  · by_cases hy : p.y = q.y
    · exact .inl (Pt.same hx hy)
    · exact .inr (.inr ⟨hx, by simp only [beq_eq_false_iff_ne]; exact hy⟩)
  · exact .inr (.inl (by simp only [beq_eq_false_iff_ne]; exact hx))
theorem pt_ne1 {p q : Pt} (h : (p.x == q.x) = false) : p ≠ q := by
  intro e; rw [e] at h; simp at h
theorem pt_ne2 {p q : Pt} (h : (p.y == q.y) = false) : p ≠ q := by
  intro e; rw [e] at h; simp at h
def tk (a n q : Pt) : Prop := q ≠ a ∧ (n = a ∨ crs a n q < 0 ∨ (crs a n q = 0 ∧ dist a n < dist a q))
instance (a n q : Pt) : Decidable (tk a n q) := by unfold tk; infer_instance
theorem scan1_tk (a n q : Pt) : scan1 a n q = if tk a n q then q else n := rfl
theorem scan_take {a : Pt} {l : List Pt} {k : Nat} {q : Pt} (n : Pt) (h : l[k]? = some q) : scan a (l.take (k + 1)) n = scan1 a (scan a (l.take k) n) q := by
  unfold scan
  rw [List.take_add_one, h, List.foldl_append]; rfl
theorem tk_same (a n : Pt) : tk a n a = False := by unfold tk; simp
theorem tk_first {a q : Pt} (h : q ≠ a) : tk a a q = True := by unfold tk; simp [h]
theorem tk_neg {a n q : Pt} (h : q ≠ a) (hc : crs a n q < 0) : tk a n q = True := by unfold tk; simp [h, hc]
theorem tk_pos {a n q : Pt} (hn : n ≠ a) (hc : 0 < crs a n q) : tk a n q = False := by
  unfold tk
  simp only [hn, false_or, eq_iff_iff, iff_false]
  rintro ⟨_, h | h⟩ <;> omega
theorem tk_zero {a n q : Pt} (h : q ≠ a) (hn : n ≠ a) (hc : crs a n q = 0) : tk a n q = (dist a n < dist a q) := by unfold tk; simp [h, hn, hc]

theorem ownsRow_setCell_below' {w : World} {base e size n : Nat} {v : Value} {xs : List Value} {a : Addr} (h : w.ownsRow base e size v n xs) (ha : a.block < base) (u : Value) : (w.setCell a u).ownsRow base e size v n xs := by
  refine ⟨h.1, ?_⟩
  rcases h.2 with h0 | ⟨g, cap, cur, hv, h1, h2, h3⟩
  · exact .inl h0
  · exact .inr ⟨g, cap, cur, hv, h1, (heap_setCell_other w a g u (by omega)).trans h2, h3⟩
set_option maxRecDepth 100000 in
set_option maxHeartbeats 8000000 in
theorem wrap_any (A : Option Addr) (cap : Nat) (l : List Pt) (w : World) (h : PSl w A cap l) (hb : Bd l) (hl : 0 < l.length) (hn : l.length ≤ 1000000) :
    Calls Try.prog 34 #[.slice A l.length cap] w fun e w' => (∃ A' c' s, s ∈ l ∧ (∀ q ∈ l, ¬ Less q s) ∧ e = .returned (.slice A' (wrapF l s l.length [s] s).length c') ∧ PSl w' A' c' (wrapF l s l.length [s] s)) ∧ Below w.heap.size w w' := by
  have H := hid h
  have HBd := hid hb
  clear h hb
  obtain ⟨i0, hi0, hz0, hz1, hz2⟩ := info_parts infoPt
  have hlb : ((l.length : Int) == 0) = false := by simp; intro e; rw [e] at hl; simp at hl
  have hne : ¬ l = [] := by intro e; rw [e] at hl; simp at hl
  go_enter Try.func34, Try.ntmps34
  go_wp2_with fail
  ((with_reducible refine (least_any A cap l _ H.out hl hn).mono ?_); rintro e w1 ⟨⟨A1, c1, m, s, hms, hmin, rfl, hs1⟩, hb1⟩)
  have HMS := hid hms
  have HMin := hid hmin
  have HB1 := hid hb1
  have H1 := hid (H.out.keep hb1)
  have hsi := HBd.out s (List.mem_of_getElem? hms)
  have HSI := hid hsi
  obtain ⟨b1, o1, s', hA1, hB1, hd1, e0, e1⟩ := hs1.rd.at_ (Below.refl _ _) (k := 0) (by
    have := (List.getElem?_eq_some_iff.1 hms).1
    simp; omega)
  obtain rfl : s' = s := by
    have hm := (List.getElem?_eq_some_iff.1 hms).1
    rw [List.getElem?_append_left (by simp; omega), List.getElem?_drop, Nat.add_zero, hms] at hd1
    injection hd1 with h; exact h.symm
  subst hA1
  simp only [Nat.zero_mul, Nat.add_zero] at e0 e1
  have hs1l : (0 : Int) < (l.length : Int) := by omega
  clear hms hmin hb1 hs1 hd1 hsi
  obtain ⟨R, hR⟩ : ∃ R, wrapF l s' l.length [s'] s' = R := ⟨_, rfl⟩
  have HR := hid hR
  clear hR
  go_wp2_with fail
  have HBA : Hid (Box ((w1.alloc (.cells #[.int .i64 s'.x, .int .i64 s'.y] 31)).alloc (.cells #[.int .i64 s'.x, .int .i64 s'.y] 31)) w1.heap.size s') := (Box.new w1 s').alloc _
  have HOA : Hid (((w1.alloc (.cells #[.int .i64 s'.x, .int .i64 s'.y] 31)).alloc (.cells #[.int .i64 s'.x, .int .i64 s'.y] 31)).ownsRow (w1.heap.size + 1) 31 2 (.slice (some ⟨w1.heap.size + 1, 0, none⟩) 1 1) [s'].length (pCells [s'])) := by
    have := World.ownsRow_lit (base := w1.heap.size + 1) (e := 31) (size := 2) (w1.alloc (.cells #[.int .i64 s'.x, .int .i64 s'.y] 31)) #[.int .i64 s'.x, .int .i64 s'.y] 1 (by simp) (by unfold maxLen; omega) rfl
    rw [World.size_alloc] at this
    exact this
  have HBB : Hid (Below w1.heap.size w1 ((w1.alloc (.cells #[.int .i64 s'.x, .int .i64 s'.y] 31)).alloc (.cells #[.int .i64 s'.x, .int .i64 s'.y] 31))) := below2 _ _ _
  go_loopw [4, 5, 6, 7, 8] (fun v i _ _ _ wr => ∃ (k : Nat) (a : Pt) (out : List Pt), k ≤ l.length ∧ i = .int .i64 k ∧ Hid (wrapF l s' (l.length - k) out a = R) ∧ Hid (out[0]? = some s') ∧ out.length ≤ k + 1 ∧ Hid (In 8388608 a) ∧ Hid (Box wr w1.heap.size a) ∧ Hid (wr.ownsRow (w1.heap.size + 1) 31 2 v out.length (pCells out)) ∧ Hid (Below w1.heap.size w1 wr)) (fun _ i _ _ _ _ => l.length - (intOf i).toNat)
  case atStart => exact ⟨0, s', [s'], Nat.zero_le _, rfl, HR.out, rfl, by simp, HSI.out, HBA.out, HOA.out, HBB.out⟩
  case round =>
    obtain ⟨k, a, out, hk, rfl, HWF, HO0, hol, HAI, HBXA, HO, HB⟩ := hrel
    by_cases hlt : k < l.length
    · obtain ⟨m', hm'⟩ : ∃ m', l.length - k = m' + 1 := ⟨l.length - k - 1, by omega⟩
      rw [hm'] at HWF
      have HM := hid hm'
      clear hm'
      obtain ⟨wo, rfl⟩ : ∃ wo : World, wo = wr := ⟨_, rfl⟩
      have HBW := hid (HB1.out.trans (HB.out.mono HB1.out.size))
      have HLo := hid (H1.out.keep HB.out)
      have a0 := HBXA.out.x
      have a1 := HBXA.out.y
      have hoz : w1.heap.size < wo.heap.size := HBXA.out.lt
      go_wp2_with fail
      clear a0 a1
      go_loopw [7, 8] (fun i _ wr => ∃ (t : Nat) (n : Pt), t ≤ l.length ∧ i = .int .i64 t ∧ Hid (n = scan a (l.take t) a) ∧ Hid (In 8388608 n) ∧ Hid (Box wr wo.heap.size n) ∧ Hid (Below wo.heap.size wo wr)) (fun i _ _ => l.length - (intOf i).toNat)
      case atStart => exact ⟨0, a, Nat.zero_le _, rfl, rfl, HAI.out, Box.new wo a, below1 _ _⟩
      case round =>
        obtain ⟨t, n, ht, rfl, HN, HNI, HBX, HBI⟩ := hrel
        by_cases hlt2 : t < l.length
        · obtain ⟨b, off, q, hA, hB, hd, c0, c1⟩ := HLo.out.rd.at_ HBI.out hlt2
          subst hA
          have HQI := hid (HBd.out q (List.mem_of_getElem? hd))
          have HSC : Hid (scan a (l.take (t + 1)) a = if tk a n q then q else n) := by
            show _ = _
            rw [scan_take a hd, ← HN.out, scan1_tk]
          have hbw : b < wr.heap.size := by have := HBI.out.size; omega
          have hxa : w1.heap.size < wr.heap.size := by have := HBI.out.size; omega
          have hxn : wo.heap.size < wr.heap.size := HBX.out.lt
          have HBXA2 := hid (HBXA.out.below HBI.out hoz)
          have HCR : Hid (∀ wx, Calls Try.prog 25 #[.agg #[.int .i64 a.x, .int .i64 a.y], .agg #[.int .i64 n.x, .int .i64 n.y], .agg #[.int .i64 q.x, .int .i64 q.y]] wx fun e w' => e = .returned (.int .i64 (crs a n q)) ∧ Below wx.heap.size wx w') := fun wx => refCross_any a n q wx HAI.out HNI.out HQI.out
          have HD1 : Hid (∀ wx, Calls Try.prog 48 #[.agg #[.int .i64 a.x, .int .i64 a.y], .agg #[.int .i64 q.x, .int .i64 q.y]] wx fun e w' => e = .returned (.int .i64 (dist a q)) ∧ Below wx.heap.size wx w') := fun wx => distance_any a q wx HAI.out HQI.out
          have HD2 : Hid (∀ wx, Calls Try.prog 48 #[.agg #[.int .i64 a.x, .int .i64 a.y], .agg #[.int .i64 n.x, .int .i64 n.y]] wx fun e w' => e = .returned (.int .i64 (dist a n)) ∧ Below wx.heap.size wx w') := fun wx => distance_any a n wx HAI.out HNI.out
          have HK : Hid (∀ wx, Below wr.heap.size wr wx → (wx.cell? ⟨w1.heap.size, 0, none⟩ = some (.int .i64 a.x) ∧ wx.cell? ⟨w1.heap.size, 1, none⟩ = some (.int .i64 a.y) ∧ wx.cell? ⟨wo.heap.size, 0, none⟩ = some (.int .i64 n.x) ∧ wx.cell? ⟨wo.heap.size, 1, none⟩ = some (.int .i64 n.y) ∧ wx.cell? ⟨b, off + t * 2, none⟩ = some (.int .i64 q.x) ∧ wx.cell? ⟨b, off + t * 2 + 1, none⟩ = some (.int .i64 q.y)) ∧ Below wr.heap.size wr wx) :=
            fun wx hb => ⟨⟨(HBXA2.out.below hb hxa).x, (HBXA2.out.below hb hxa).y, (HBX.out.below hb hxn).x, (HBX.out.below hb hxn).y, (hb.cell (p := ⟨b, _, none⟩) hbw).trans c0, (hb.cell (p := ⟨b, _, none⟩) hbw).trans c1⟩, hb⟩
          clear hd c0 c1
          have j0 : (0 : Int) ≤ (t : Int) := by omega
          have j1 : (t : Int) < (l.length : Int) := by omega
          go_wp2_with fail
          go_region_held3 (fun wx => (wx.cell? ⟨w1.heap.size, 0, none⟩ = some (.int .i64 a.x) ∧ wx.cell? ⟨w1.heap.size, 1, none⟩ = some (.int .i64 a.y) ∧ wx.cell? ⟨wo.heap.size, 0, none⟩ = some (.int .i64 n.x) ∧ wx.cell? ⟨wo.heap.size, 1, none⟩ = some (.int .i64 n.y) ∧ wx.cell? ⟨b, off + t * 2, none⟩ = some (.int .i64 q.x) ∧ wx.cell? ⟨b, off + t * 2 + 1, none⟩ = some (.int .i64 q.y)) ∧ Below wr.heap.size wr wx)
            (first | exact HK.out _ (Below.refl _ _).drew | (go_split_ands; exact HK.out _ (keepB (by assumption) hb7)))
            (first | (go_at_call 25; refine (HCR.out _).mono ?_; rintro e w7 ⟨rfl, hb7⟩))
          rename_i hSl
          have HBZ := hid hSl.2
          clear hSl hb7
          rename World => w8
          go_wp2_with fail
          go_cut [68] (fun s68 wx => s68 = .bool (decide (tk a n q)) ∧ Below w8.heap.size w8 wx)
          case first =>
            obtain ⟨⟨x0, x1, y0, y1, z0, z1⟩, _⟩ := HK.out w8 HBZ.out
            --CASES
            rcases pt_cases q a with hE | hx | ⟨hx, hy⟩
            · have HE := hid hE
              clear hE
              have HT : Hid (decide (tk a n q) = false) := decide_eq_false (by rw [HE.out, tk_same]; exact id)
              rw [HE.out] at z0 z1
              generalize crs a n q = c at *
              clear HK HD1 HD2
              go_quiet (fail)
              go_wp2_with fail
              go_meet
              exact ⟨congrArg Value.bool HT.out.symm, below_drewN (Below.refl _ _) _⟩
            · have HQA : Hid (q ≠ a) := pt_ne1 hx
              rcases pt_cases n a with hEN | hnx | ⟨hnx, hny⟩
              · have HEN := hid hEN
                clear hEN
                have HT : Hid (decide (tk a n q) = true) := decide_eq_true (by rw [HEN.out, tk_first HQA.out]; trivial)
                rw [HEN.out] at y0 y1
                generalize crs a n q = c at *
                clear HK HD1 HD2
                go_quiet (fail)
                go_wp2_with fail
                go_meet
                exact ⟨congrArg Value.bool HT.out.symm, below_drewN (Below.refl _ _) _⟩
              · have HNA : Hid (n ≠ a) := pt_ne1 hnx
                rcases Int.lt_trichotomy (crs a n q) 0 with hc | hc | hc
                · skip
                  have HT : Hid (decide (tk a n q) = true) := decide_eq_true (by rw [tk_neg HQA.out hc]; trivial)
                  generalize crs a n q = c at *
                  clear HK HD1 HD2
                  go_quiet (fail)
                  go_wp2_with fail
                  go_meet
                  exact ⟨congrArg Value.bool HT.out.symm, below_drewN (Below.refl _ _) _⟩
                · skip
                  have HT : Hid (decide (tk a n q) = decide (dist a n < dist a q)) := by show _ = _; simp only [tk_zero HQA.out HNA.out hc]
                  have hcb : (crs a n q == 0) = true := by simp [hc]
                  have hcn : ¬ crs a n q < 0 := by omega
                  clear hc
                  generalize crs a n q = c at *
                  have HK8 : Hid (∀ wx, Below w8.heap.size w8 wx → (wx.cell? ⟨w1.heap.size, 0, none⟩ = some (.int .i64 a.x) ∧ wx.cell? ⟨w1.heap.size, 1, none⟩ = some (.int .i64 a.y) ∧ wx.cell? ⟨wo.heap.size, 0, none⟩ = some (.int .i64 n.x) ∧ wx.cell? ⟨wo.heap.size, 1, none⟩ = some (.int .i64 n.y) ∧ wx.cell? ⟨b, off + t * 2, none⟩ = some (.int .i64 q.x) ∧ wx.cell? ⟨b, off + t * 2 + 1, none⟩ = some (.int .i64 q.y)) ∧ Below w8.heap.size w8 wx) := fun wx hb => ⟨(HK.out wx (keepB HBZ.out hb)).1, hb⟩
                  clear HK x0 x1 y0 y1 z0 z1
                  go_region_held3 (fun wx => (wx.cell? ⟨w1.heap.size, 0, none⟩ = some (.int .i64 a.x) ∧ wx.cell? ⟨w1.heap.size, 1, none⟩ = some (.int .i64 a.y) ∧ wx.cell? ⟨wo.heap.size, 0, none⟩ = some (.int .i64 n.x) ∧ wx.cell? ⟨wo.heap.size, 1, none⟩ = some (.int .i64 n.y) ∧ wx.cell? ⟨b, off + t * 2, none⟩ = some (.int .i64 q.x) ∧ wx.cell? ⟨b, off + t * 2 + 1, none⟩ = some (.int .i64 q.y)) ∧ Below w8.heap.size w8 wx)
                    (first | exact HK8.out _ (Below.refl _ _).drew | (go_split_ands; exact HK8.out _ (keepB (by assumption) hb7)))
                    (first | (go_at_call 48; with_reducible refine (HD1.out _).mono ?_; rintro e w7 ⟨rfl, hb7⟩) | (go_at_call 48; with_reducible refine (HD2.out _).mono ?_; rintro e w7 ⟨rfl, hb7⟩))
                  all_goals
                    rename_i hSl
                    have HBY := hid hSl.2
                    clear hSl
                    go_wp2_with fail
                    go_meet
                    exact ⟨congrArg Value.bool HT.out.symm, HBY.out⟩
                · skip
                  have HT : Hid (decide (tk a n q) = false) := decide_eq_false (by rw [tk_pos HNA.out hc]; exact id)
                  generalize crs a n q = c at *
                  have hcb : (c == 0) = false := by simp; omega
                  have hcn : ¬ c < 0 := by omega
                  clear hc
                  clear HK HD1 HD2
                  go_quiet (fail)
                  go_wp2_with fail
                  go_meet
                  exact ⟨congrArg Value.bool HT.out.symm, below_drewN (Below.refl _ _) _⟩
              · have HNA : Hid (n ≠ a) := pt_ne2 hny
                rw [hnx] at y0 HK HD2
                clear hnx
                rcases Int.lt_trichotomy (crs a n q) 0 with hc | hc | hc
                · skip
                  have HT : Hid (decide (tk a n q) = true) := decide_eq_true (by rw [tk_neg HQA.out hc]; trivial)
                  generalize crs a n q = c at *
                  clear HK HD1 HD2
                  go_quiet (fail)
                  go_wp2_with fail
                  go_meet
                  exact ⟨congrArg Value.bool HT.out.symm, below_drewN (Below.refl _ _) _⟩
                · skip
                  have HT : Hid (decide (tk a n q) = decide (dist a n < dist a q)) := by show _ = _; simp only [tk_zero HQA.out HNA.out hc]
                  have hcb : (crs a n q == 0) = true := by simp [hc]
                  have hcn : ¬ crs a n q < 0 := by omega
                  clear hc
                  generalize crs a n q = c at *
                  have HK8 : Hid (∀ wx, Below w8.heap.size w8 wx → (wx.cell? ⟨w1.heap.size, 0, none⟩ = some (.int .i64 a.x) ∧ wx.cell? ⟨w1.heap.size, 1, none⟩ = some (.int .i64 a.y) ∧ wx.cell? ⟨wo.heap.size, 0, none⟩ = some (.int .i64 a.x) ∧ wx.cell? ⟨wo.heap.size, 1, none⟩ = some (.int .i64 n.y) ∧ wx.cell? ⟨b, off + t * 2, none⟩ = some (.int .i64 q.x) ∧ wx.cell? ⟨b, off + t * 2 + 1, none⟩ = some (.int .i64 q.y)) ∧ Below w8.heap.size w8 wx) := fun wx hb => ⟨(HK.out wx (keepB HBZ.out hb)).1, hb⟩
                  clear HK x0 x1 y0 y1 z0 z1
                  go_region_held3 (fun wx => (wx.cell? ⟨w1.heap.size, 0, none⟩ = some (.int .i64 a.x) ∧ wx.cell? ⟨w1.heap.size, 1, none⟩ = some (.int .i64 a.y) ∧ wx.cell? ⟨wo.heap.size, 0, none⟩ = some (.int .i64 a.x) ∧ wx.cell? ⟨wo.heap.size, 1, none⟩ = some (.int .i64 n.y) ∧ wx.cell? ⟨b, off + t * 2, none⟩ = some (.int .i64 q.x) ∧ wx.cell? ⟨b, off + t * 2 + 1, none⟩ = some (.int .i64 q.y)) ∧ Below w8.heap.size w8 wx)
                    (first | exact HK8.out _ (Below.refl _ _).drew | (go_split_ands; exact HK8.out _ (keepB (by assumption) hb7)))
                    (first | (go_at_call 48; with_reducible refine (HD1.out _).mono ?_; rintro e w7 ⟨rfl, hb7⟩) | (go_at_call 48; with_reducible refine (HD2.out _).mono ?_; rintro e w7 ⟨rfl, hb7⟩))
                  all_goals
                    rename_i hSl
                    have HBY := hid hSl.2
                    clear hSl
                    go_wp2_with fail
                    go_meet
                    exact ⟨congrArg Value.bool HT.out.symm, HBY.out⟩
                · skip
                  have HT : Hid (decide (tk a n q) = false) := decide_eq_false (by rw [tk_pos HNA.out hc]; exact id)
                  generalize crs a n q = c at *
                  have hcb : (c == 0) = false := by simp; omega
                  have hcn : ¬ c < 0 := by omega
                  clear hc
                  clear HK HD1 HD2
                  go_quiet (fail)
                  go_wp2_with fail
                  go_meet
                  exact ⟨congrArg Value.bool HT.out.symm, below_drewN (Below.refl _ _) _⟩
            · have HQA : Hid (q ≠ a) := pt_ne2 hy
              rw [hx] at z0 HK HD1
              clear hx
              rcases pt_cases n a with hEN | hnx | ⟨hnx, hny⟩
              · have HEN := hid hEN
                clear hEN
                have HT : Hid (decide (tk a n q) = true) := decide_eq_true (by rw [HEN.out, tk_first HQA.out]; trivial)
                rw [HEN.out] at y0 y1
                generalize crs a n q = c at *
                clear HK HD1 HD2
                go_quiet (fail)
                go_wp2_with fail
                go_meet
                exact ⟨congrArg Value.bool HT.out.symm, below_drewN (Below.refl _ _) _⟩
              · have HNA : Hid (n ≠ a) := pt_ne1 hnx
                rcases Int.lt_trichotomy (crs a n q) 0 with hc | hc | hc
                · skip
                  have HT : Hid (decide (tk a n q) = true) := decide_eq_true (by rw [tk_neg HQA.out hc]; trivial)
                  generalize crs a n q = c at *
                  clear HK HD1 HD2
                  go_quiet (fail)
                  go_wp2_with fail
                  go_meet
                  exact ⟨congrArg Value.bool HT.out.symm, below_drewN (Below.refl _ _) _⟩
                · skip
                  have HT : Hid (decide (tk a n q) = decide (dist a n < dist a q)) := by show _ = _; simp only [tk_zero HQA.out HNA.out hc]
                  have hcb : (crs a n q == 0) = true := by simp [hc]
                  have hcn : ¬ crs a n q < 0 := by omega
                  clear hc
                  generalize crs a n q = c at *
                  have HK8 : Hid (∀ wx, Below w8.heap.size w8 wx → (wx.cell? ⟨w1.heap.size, 0, none⟩ = some (.int .i64 a.x) ∧ wx.cell? ⟨w1.heap.size, 1, none⟩ = some (.int .i64 a.y) ∧ wx.cell? ⟨wo.heap.size, 0, none⟩ = some (.int .i64 n.x) ∧ wx.cell? ⟨wo.heap.size, 1, none⟩ = some (.int .i64 n.y) ∧ wx.cell? ⟨b, off + t * 2, none⟩ = some (.int .i64 a.x) ∧ wx.cell? ⟨b, off + t * 2 + 1, none⟩ = some (.int .i64 q.y)) ∧ Below w8.heap.size w8 wx) := fun wx hb => ⟨(HK.out wx (keepB HBZ.out hb)).1, hb⟩
                  clear HK x0 x1 y0 y1 z0 z1
                  go_region_held3 (fun wx => (wx.cell? ⟨w1.heap.size, 0, none⟩ = some (.int .i64 a.x) ∧ wx.cell? ⟨w1.heap.size, 1, none⟩ = some (.int .i64 a.y) ∧ wx.cell? ⟨wo.heap.size, 0, none⟩ = some (.int .i64 n.x) ∧ wx.cell? ⟨wo.heap.size, 1, none⟩ = some (.int .i64 n.y) ∧ wx.cell? ⟨b, off + t * 2, none⟩ = some (.int .i64 a.x) ∧ wx.cell? ⟨b, off + t * 2 + 1, none⟩ = some (.int .i64 q.y)) ∧ Below w8.heap.size w8 wx)
                    (first | exact HK8.out _ (Below.refl _ _).drew | (go_split_ands; exact HK8.out _ (keepB (by assumption) hb7)))
                    (first | (go_at_call 48; with_reducible refine (HD1.out _).mono ?_; rintro e w7 ⟨rfl, hb7⟩) | (go_at_call 48; with_reducible refine (HD2.out _).mono ?_; rintro e w7 ⟨rfl, hb7⟩))
                  all_goals
                    rename_i hSl
                    have HBY := hid hSl.2
                    clear hSl
                    go_wp2_with fail
                    go_meet
                    exact ⟨congrArg Value.bool HT.out.symm, HBY.out⟩
                · skip
                  have HT : Hid (decide (tk a n q) = false) := decide_eq_false (by rw [tk_pos HNA.out hc]; exact id)
                  generalize crs a n q = c at *
                  have hcb : (c == 0) = false := by simp; omega
                  have hcn : ¬ c < 0 := by omega
                  clear hc
                  clear HK HD1 HD2
                  go_quiet (fail)
                  go_wp2_with fail
                  go_meet
                  exact ⟨congrArg Value.bool HT.out.symm, below_drewN (Below.refl _ _) _⟩
              · have HNA : Hid (n ≠ a) := pt_ne2 hny
                rw [hnx] at y0 HK HD2
                clear hnx
                rcases Int.lt_trichotomy (crs a n q) 0 with hc | hc | hc
                · skip
                  have HT : Hid (decide (tk a n q) = true) := decide_eq_true (by rw [tk_neg HQA.out hc]; trivial)
                  generalize crs a n q = c at *
                  clear HK HD1 HD2
                  go_quiet (fail)
                  go_wp2_with fail
                  go_meet
                  exact ⟨congrArg Value.bool HT.out.symm, below_drewN (Below.refl _ _) _⟩
                · skip
                  have HT : Hid (decide (tk a n q) = decide (dist a n < dist a q)) := by show _ = _; simp only [tk_zero HQA.out HNA.out hc]
                  have hcb : (crs a n q == 0) = true := by simp [hc]
                  have hcn : ¬ crs a n q < 0 := by omega
                  clear hc
                  generalize crs a n q = c at *
                  have HK8 : Hid (∀ wx, Below w8.heap.size w8 wx → (wx.cell? ⟨w1.heap.size, 0, none⟩ = some (.int .i64 a.x) ∧ wx.cell? ⟨w1.heap.size, 1, none⟩ = some (.int .i64 a.y) ∧ wx.cell? ⟨wo.heap.size, 0, none⟩ = some (.int .i64 a.x) ∧ wx.cell? ⟨wo.heap.size, 1, none⟩ = some (.int .i64 n.y) ∧ wx.cell? ⟨b, off + t * 2, none⟩ = some (.int .i64 a.x) ∧ wx.cell? ⟨b, off + t * 2 + 1, none⟩ = some (.int .i64 q.y)) ∧ Below w8.heap.size w8 wx) := fun wx hb => ⟨(HK.out wx (keepB HBZ.out hb)).1, hb⟩
                  clear HK x0 x1 y0 y1 z0 z1
                  go_region_held3 (fun wx => (wx.cell? ⟨w1.heap.size, 0, none⟩ = some (.int .i64 a.x) ∧ wx.cell? ⟨w1.heap.size, 1, none⟩ = some (.int .i64 a.y) ∧ wx.cell? ⟨wo.heap.size, 0, none⟩ = some (.int .i64 a.x) ∧ wx.cell? ⟨wo.heap.size, 1, none⟩ = some (.int .i64 n.y) ∧ wx.cell? ⟨b, off + t * 2, none⟩ = some (.int .i64 a.x) ∧ wx.cell? ⟨b, off + t * 2 + 1, none⟩ = some (.int .i64 q.y)) ∧ Below w8.heap.size w8 wx)
                    (first | exact HK8.out _ (Below.refl _ _).drew | (go_split_ands; exact HK8.out _ (keepB (by assumption) hb7)))
                    (first | (go_at_call 48; with_reducible refine (HD1.out _).mono ?_; rintro e w7 ⟨rfl, hb7⟩) | (go_at_call 48; with_reducible refine (HD2.out _).mono ?_; rintro e w7 ⟨rfl, hb7⟩))
                  all_goals
                    rename_i hSl
                    have HBY := hid hSl.2
                    clear hSl
                    go_wp2_with fail
                    go_meet
                    exact ⟨congrArg Value.bool HT.out.symm, HBY.out⟩
                · skip
                  have HT : Hid (decide (tk a n q) = false) := decide_eq_false (by rw [tk_pos HNA.out hc]; exact id)
                  generalize crs a n q = c at *
                  have hcb : (c == 0) = false := by simp; omega
                  have hcn : ¬ c < 0 := by omega
                  clear hc
                  clear HK HD1 HD2
                  go_quiet (fail)
                  go_wp2_with fail
                  go_meet
                  exact ⟨congrArg Value.bool HT.out.symm, below_drewN (Below.refl _ _) _⟩
            --ENDCASES
          case rest =>
            obtain ⟨rfl, hb9⟩ := hcut
            obtain ⟨w9, rfl⟩ : ∃ w9 : World, w9 = wc := ⟨_, rfl⟩
            have HB9 := hid (keepB HBZ.out hb9)
            clear hb9
            have HBW9 := hid (HBI.out.trans (HB9.out.mono HBI.out.size))
            obtain ⟨⟨x0, x1, y0, y1, z0, z1⟩, _⟩ := HK.out w9 HB9.out
            have HBX9 := hid (HBX.out.below HB9.out hxn)
            have f0 := HBX9.out.free 0
            have f1 := HBX9.out.free 1
            clear HK HCR HD1 HD2
            generalize hbl : decide (tk a n q) = bl at *
            cases bl with
            | true =>
              have HS2 : Hid (scan a (l.take (t + 1)) a = q) := by show _ = _; rw [HSC.out, if_pos (of_decide_eq_true hbl)]
              clear hbl HSC
              go_wp2_with fail
              go_roundw
              case rel => exact ⟨t + 1, q, by omega, by go_num, HS2.out.symm, HQI.out, HBX9.out.put q, (HBW9.out.setCell (p := ⟨wo.heap.size, 0, none⟩) (Nat.le_refl _) _).setCell (p := ⟨wo.heap.size, 1, none⟩) (Nat.le_refl _) _⟩
              case measure => simp [intOf]; omega
            | false =>
              have HS2 : Hid (scan a (l.take (t + 1)) a = n) := by show _ = _; rw [HSC.out, if_neg (of_decide_eq_false hbl)]
              clear hbl HSC
              go_wp2_with fail
              go_roundw
              case rel => exact ⟨t + 1, n, by omega, by go_num, HS2.out.symm, HNI.out, HBX9.out, HBW9.out⟩
              case measure => simp [intOf]; omega
        · obtain rfl : l.length = t := by omega
          rw [List.take_length] at HN
          have HOr := hid (own_belowT HO.out HBI.out)
          have HBXA3 := hid (HBXA.out.below HBI.out hoz)
          have HBr := hid (HB.out.trans (HBI.out.mono HB.out.size))
          have hol0 : 0 < out.length := (List.getElem?_eq_some_iff.1 HO0.out).1
          obtain ⟨g, cg, rfl, hg1, hg2⟩ := HOr.out.form hol0
          obtain ⟨s0, s1⟩ := own_at HOr.out HO0.out
          simp only [Nat.zero_mul, Nat.zero_add] at s0 s1
          have a0 := HBXA3.out.x
          have a1 := HBXA3.out.y
          have n0 := HBX.out.x
          have n1 := HBX.out.y
          have HSTEP : Hid (R = if n = s' ∨ n = a then out else wrapF l s' m' (out ++ [n]) n) := by
            show _ = _
            rw [← HWF.out, HN.out]
            rfl
          have HNE : Hid ((Value.slice (some ⟨g, 0, none⟩) out.length cg).ownBlock ≠ some wo.heap.size) := by
            intro e
            have := (HO.out.lt _ e).2
            omega
          have j1 : (0 : Int) < (out.length : Int) := by omega
          clear HN
          go_wp2_with fail
          go_cut [82] (fun s82 wx => s82 = .bool (decide (n = s' ∨ n = a)) ∧ ∃ nn, wx = wr.drewN nn)
          case first =>
            rcases pt_cases n s' with hE | hx | ⟨hx, hy⟩
            · have HT : Hid (decide (n = s' ∨ n = a) = true) := decide_eq_true (.inl hE)
              rw [hE] at n0 n1
              clear hE
              go_quiet (fail)
              go_wp2_with fail
              go_meet
              exact ⟨congrArg Value.bool HT.out.symm, _, rfl⟩
            all_goals
              have HNS : Hid (n ≠ s') := by first | exact pt_ne1 hx | exact pt_ne2 hy
              try (rw [← hx] at s0; clear hx)
              rcases pt_cases n a with hEN | hnx | ⟨hnx, hny⟩
              · have HT : Hid (decide (n = s' ∨ n = a) = true) := decide_eq_true (.inr hEN)
                have HEN := hid hEN
                clear hEN
                rw [← HEN.out] at a0 a1
                go_quiet (fail)
                go_wp2_with fail
                go_meet
                exact ⟨congrArg Value.bool HT.out.symm, _, rfl⟩
              all_goals
                have HT : Hid (decide (n = s' ∨ n = a) = false) := decide_eq_false (by
                  rintro (h | h)
                  · exact HNS.out h
                  · first | exact pt_ne1 hnx h | exact pt_ne2 hny h)
                try (rw [← hnx] at a0; clear hnx)
                go_quiet (fail)
                go_wp2_with fail
                go_meet
                exact ⟨congrArg Value.bool HT.out.symm, _, rfl⟩
          case rest =>
            obtain ⟨rfl, nn, rfl⟩ := hcut
            generalize hbl : decide (n = s' ∨ n = a) = bl at *
            cases bl with
            | true =>
              have HF : Hid (R = out) := by show _ = _; rw [HSTEP.out, if_pos (of_decide_eq_true hbl)]
              clear hbl HSTEP
              go_wp2
              go_ret
              refine ⟨⟨some ⟨g, 0, none⟩, cg, s', List.mem_of_getElem? HMS.out, HMin.out, ?_, ?_⟩, HB1.out.trans ((below_drewN HBr.out nn).mono HB1.out.size)⟩
              · rw [HR.out, HF.out]; rfl
              · rw [HR.out, HF.out]; exact PSl.of_own (own_drewN HOr.out nn)
            | false =>
              have HF : Hid (wrapF l s' m' (out ++ [n]) n = R) := by show _ = _; rw [HSTEP.out, if_neg (of_decide_eq_false hbl)]
              clear hbl HSTEP s0 s1 a0 a1
              have hrz := HBr.out.size
              go_wp2_with (at_builtin; refine wpList_append_own _ rfl (.tmp 84) (.tmp 86) 22 rfl (w1.heap.size + 1) 31 i0 _ 2 16 Try.underlying22 hi0 hz0 hz1 hz2 rfl (by decide) _ _ _ rfl ((own_drewN HOr.out nn).alloc _) ⟨wr.heap.size, 0, none⟩ 1 1 [.int .i64 n.x, .int .i64 n.y] rfl rfl (by have := cell_two_new (wr.drewN nn) (.int .i64 n.x) (.int .i64 n.y) 31; simpa using this) (by intro u hu; simp at hu; rcases hu with rfl | rfl <;> rfl) (by unfold maxLen; omega) (by omega) (by have := HBXA3.out.lt; simp; omega) ?_)
              intro v' w' hown' hgrow _
              have HO' : Hid (w'.ownsRow (w1.heap.size + 1) 31 2 v' (out ++ [n]).length (pCells (out ++ [n]))) := by
                show World.ownsRow _ _ _ _ _ _ _
                rw [pCells_snoc, List.length_append]; exact hown'
              have HB' : Hid (Below w1.heap.size w1 w') := own_grow_below ((own_drewN HOr.out nn).alloc _) ((below_drewN HBr.out nn).alloc hrz _) (by omega) (by simp; omega) hgrow
              have HBX' : Hid (Box w' wo.heap.size n) := Box.grown (w := (wr.drewN nn).alloc (.cells #[.int .i64 n.x, .int .i64 n.y] 31)) (Box.alloc (w := wr.drewN nn) HBX.out _) hgrow (fun e => HNE.out e.symm)
              have HBXA' : Hid (Box w' w1.heap.size a) := Box.grown (w := (wr.drewN nn).alloc (.cells #[.int .i64 n.x, .int .i64 n.y] 31)) (Box.alloc (w := wr.drewN nn) HBXA3.out _) hgrow (fun e => by have := (HOr.out.lt _ e.symm).1; omega)
              have HAL : Hid (out.length + 1 ≤ k + 1 + 1) := by show _ ≤ _; omega
              have n2 := HBX'.out.x
              have n3 := HBX'.out.y
              have b0 := HBXA'.out.x
              have b1' := HBXA'.out.y
              have f0 := HBXA'.out.free 0
              have f1 := HBXA'.out.free 1
              clear hown' hgrow n0 n1
              go_wp2_with fail
              go_roundw
              case rel =>
                refine ⟨k + 1, n, out ++ [n], by omega, by go_num, ?_, ?_, by rw [List.length_append]; exact HAL.out, HNI.out, HBXA'.out.put n, ?_, ?_⟩
                · show _ = _
                  rw [show l.length - (k + 1) = m' by have := HM.out; omega]; exact HF.out
                · show _ = _
                  rw [List.getElem?_append_left hol0]; exact HO0.out
                · exact ownsRow_setCell_below' (ownsRow_setCell_below' HO'.out (by show w1.heap.size < _; omega) _) (by show w1.heap.size < _; omega) _
                · exact (HB'.out.setCell (p := ⟨w1.heap.size, 0, none⟩) (Nat.le_refl _) _).setCell (p := ⟨w1.heap.size, 1, none⟩) (Nat.le_refl _) _
              case measure => simp [intOf]; omega
    · obtain rfl : l.length = k := by omega
      rw [Nat.sub_self] at HWF
      have HF : Hid (R = out) := HWF.out.symm
      obtain ⟨A2, c2, rfl, _, _⟩ := own_slice HO.out
      go_wp2
      go_ret
      refine ⟨⟨A2, c2, s', List.mem_of_getElem? HMS.out, HMin.out, ?_, ?_⟩, HB1.out.trans (HB.out.mono HB1.out.size)⟩
      · rw [HR.out, HF.out]; rfl
      · rw [HR.out, HF.out]; exact PSl.of_own HO.out
end Go.Proofs.Ytopmolpnmpchoaa
