/- The law FlowTickets: its walk. -/
import Derived.Test.YtelgkangojmhdaaFlowLaw5
import Derived.Deep.RegionHeld3
namespace Go.Proofs.Ytelgkangojmhdaa
open Go.RowKit

theorem wf_u8 {x : Int} (h : (Lit.int .u8 x).wf = true) : 0 ≤ x ∧ x ≤ 255 := by
  unfold Lit.wf at h
  simp only [Bool.and_eq_true, decide_eq_true_eq] at h
  have h1 : IntKind.u8.min = 0 := by decide
  have h2 : IntKind.u8.max = 255 := by decide
  rw [h1, h2] at h
  exact h
theorem step_append_rd {P : Program} {w : World} {ops : Array Oper} {o : Oper} {a : Act} {K : Act → World → Prop} {Q : Exit → Act → World → Prop} {E : Prop} (hgd : o.guard = none) (s x : Operand) (t : TypeId)
    (ho : o.op = .call { callee := .builtin .append, args := #[s, x], argTypes := #[t, t] })
    (base : Nat) (e : TypeId) (i : TypeInfo) (z : Value) (size bytes : Nat) (ht : P.underlying t = some (.slice e)) (hi : P.info? e = some i) (hz : i.zero = some z)
    (hsize : i.size = size) (hby : i.bytes = bytes) (hzs : z.cells.size = size) (hsz : 0 < size)
    (v : Value) (n : Nat) (xs : List Value) (hs : a.eval s = v) (hown : w.ownsRow base e size v n xs)
    (A : Option Addr) (m c : Nat) (news : List Value) (hx : a.eval x = .slice A m c) (hl : news.length = m * size)
    (hA : A = none → m = 0 ∧ c = 0) (hnews : ∀ ad, A = some ad → ∀ j u, news[j]? = some u → w.cell? (ad.add j) = some u) (h1 : ∀ u ∈ news, u.oneCell' = true)
    (h63 : n + m ≤ maxLen) (hbytes : (n + m) * bytes ≤ 140737488355328) (hbase : base ≤ w.heap.size)
    (h : ∀ v' w', w'.ownsRow base e size v' (n + m) (xs ++ news) → w.grownBy w' v.ownBlock → K (a.put o.dst v') w') :
    if Region.wanted o (yielded ops a.tmps) = true then Oper.wp P o a w K Q else E := by
  have hw : Region.wanted o (yielded ops a.tmps) = true := by simp [Region.wanted, hgd]
  rw [if_pos hw]
  exact wp_append_rd s x t ho base e i z size bytes ht hi hz hsize hby hzs hsz v n xs hs hown A m c news hx hl hA hnews h1 h63 hbytes hbase h

def cutA (A : Option Addr) (k cap : Nat) : Option Addr := if cap = k then A else A.map fun a => a.add (k * 6)
theorem run_cutB (A : Option Addr) (len cap k : Nat) (hk : k ≤ len) (w : World) : (Instr.slice 24 (.slice A len cap) (some (.int .i64 (k : Int))) none none).run Try.prog w = .ok (.slice (cutA A k cap) (len - k) (cap - k)) w := by
  have h0 : (0 : Int) ≤ (k : Int) ∧ (k : Int) ≤ (len : Int) := by omega
  simp [Instr.slice, Instr.sliceBounds, Instr.sliceBound, asIntOf, run_underlying Try.underlying24, h0, cutA, go_sem]
  intro h
  omega
theorem run_topB (A : Option Addr) (len cap k : Nat) (hk : k ≤ cap) (w : World) : (Instr.slice 24 (.slice A len cap) none (some (.int .i64 (k : Int))) none).run Try.prog w = .ok (.slice A k cap) w := by
  have h0 : (0 : Int) ≤ (k : Int) ∧ (k : Int) ≤ (cap : Int) := by omega
  simp [Instr.slice, Instr.sliceBounds, Instr.sliceBound, asIntOf, run_underlying Try.underlying24, h0, go_sem]
  intro h
  omega
theorem BRd.cut {w : World} {B : Nat} {A : Option Addr} {bs : List Bn} {k cap : Nat} (h : BRd w B A bs) (hc : bs.length ≤ cap) : BRd w B (cutA A k cap) (bs.drop k) := by
  intro hne
  have hkl : k < bs.length := by
    by_cases hk : k < bs.length
    · exact hk
    · exact absurd (List.drop_eq_nil_of_le (by omega)) hne
  obtain ⟨b, off, e, hB, hcl⟩ := h (by intro e; subst e; simp at hkl)
  subst e
  refine ⟨b, off + k * 6, ?_, hB, fun i x hx => ?_⟩
  · unfold cutA
    rw [if_neg (by omega), Option.map_some, add_plain]
  · rw [List.getElem?_drop] at hx
    have := hcl (k + i) x hx
    rw [show off + k * 6 + i * 6 = off + (k + i) * 6 from by omega]
    exact this
theorem BRd.top {w : World} {B : Nat} {A : Option Addr} {bs : List Bn} (h : BRd w B A bs) (k : Nat) : BRd w B A (bs.take k) := by
  intro hne
  obtain ⟨b, off, e, hB, hc⟩ := h (by intro e; subst e; simp at hne)
  refine ⟨b, off, e, hB, fun j x hx => hc j x ?_⟩
  rw [List.getElem?_take] at hx
  split at hx
  · exact hx
  · cases hx
theorem cutA_none {A : Option Addr} {k cap : Nat} (h : cutA A k cap = none) : A = none := by
  unfold cutA at h
  split at h
  · exact h
  · cases A <;> simp_all
theorem own_nil {w : World} {base e size n c : Nat} {A : Option Addr} {xs : List Value} (h : w.ownsRow base e size (.slice A n c) n xs) (hA : A = none) : c = 0 := by
  rcases h.2 with ⟨hv, h0⟩ | ⟨g, cap, cur, hv, _⟩
  · injection hv
  · injection hv with h1; rw [hA] at h1; cases h1
theorem bnCells_app (p q : List Bn) : bnCells (p ++ q) = bnCells p ++ bnCells q := by unfold bnCells; rw [List.flatMap_append]
theorem brd_own {w : World} {base e : Nat} {l : List Bn} {A : Option Addr} {n c : Nat} (h : w.ownsRow base e 6 (.slice A n c) l.length (bnCells l)) : BRd w w.heap.size A l := BRd.of_own h

set_option maxRecDepth 100000 in
set_option maxHeartbeats 2000000 in
theorem flowTickets_walk (x : Ln) (n : Int) (w : World) (h : LnOk w x) (hwf : (Lit.int .u8 n).wf = true) : Calls Try.prog 11 #[x.val, .int .u8 n] w fun e w' => e = .returned (.bool true) ∧ Below w.heap.size w w' := by
  obtain ⟨A, cap, l, S, capS, ss, Ab, capB, bs, D, capD, ds⟩ := x
  unfold Ln.val
  simp only
  have HL : Hid (LnE w A cap l S capS ss Ab capB bs D capD ds) := Lib.hid h
  clear h
  have hn := wf_u8 hwf
  clear hwf
  go_enter Try.func11, Try.ntmps11
  go_wp2_with fail
  obtain ⟨w1, hw1, hk1, hb1⟩ := lnBox ⟨A, cap, l, S, capS, ss, Ab, capB, bs, D, capD, ds⟩ w
  simp only at hw1 hk1
  rw [← hw1]
  have HK1 := Lib.hid hk1
  have HB1 := Lib.hid hb1
  have HL1 := Lib.hid (HL.out.go hb1)
  clear hw1 hk1 hb1
  ((with_reducible refine (lnFewE HL1.out).mono ?_); rintro e w2 ⟨rfl, hb2⟩)
  have HB2 := Lib.hid (keepB HB1.out hb2)
  have HL2 := Lib.hid (HL1.out.go hb2)
  have HK2 := Lib.hid (HK1.out.below hb2 HK1.out.lt)
  clear hb2
  cases hf : fewL ⟨A, cap, l, S, capS, ss, Ab, capB, bs, D, capD, ds⟩ with
  | false =>
    clear hf
    go_wp2_with fail
    ((with_reducible refine (ex49_any _).mono ?_); rintro e w3 ⟨rfl, hb3⟩)
    have HB3 := Lib.hid (keepB HB2.out hb3)
    clear hb3
    go_wp2_with fail
    go_ret
    exact ⟨rfl, HB3.out⟩
  | true =>
    have HS := Lib.hid (fewL_ok hf)
    have hl5 : l.length ≤ 5 := (fewL_ok hf).l
    have hb70 : bs.length ≤ 70 := (fewL_ok hf).b
    have hd21 : ds.length ≤ 21 := (fewL_ok hf).d
    have hs20 : ss.length ≤ 20 := (fewL_ok hf).s2
    have hlen : (simRes l ss bs ds).2.length ≤ 350 := simRes_len HS.out
    clear hf
    have a0 := HK2.out.cell (i := 0) rfl
    have a1 := HK2.out.cell (i := 1) rfl
    have a2 := HK2.out.cell (i := 2) rfl
    have a3 := HK2.out.cell (i := 3) rfl
    go_wp2_with fail
    ((with_reducible refine (lnSimE HL2.out HS.out).mono ?_); rintro e w3 ⟨⟨A1, c1, rfl, h1, hc1⟩, hb3⟩)
    have HB3 := Lib.hid (keepB HB2.out hb3)
    have HL3 := Lib.hid (HL2.out.go hb3)
    have HK3 := Lib.hid (HK2.out.below hb3 HK2.out.lt)
    have H1 := Lib.hid h1
    clear hb3 h1 a0 a1 a2 a3
    rcases simRes_cases l ss bs ds with ⟨hne, hnil⟩ | ⟨hz, at_, hran⟩
    · generalize simRes l ss bs ds = R at *
      obtain ⟨R1, R2⟩ := R
      simp only at hne hnil
      subst hnil
      have hneb : (R1 != 0) = true := by simpa using hne
      clear hne
      go_wp2_with fail
      ((with_reducible refine (ex49_any _).mono ?_); rintro e w4 ⟨rfl, hb4⟩)
      have HB4 := Lib.hid (keepB HB3.out hb4)
      clear hb4
      go_wp2_with fail
      go_ret
      exact ⟨rfl, HB4.out⟩
    · have HRP : Hid (∀ bs' : List Bn, bs'.Perm bs → simRes l ss bs' ds = simRes l ss bs ds) := Lib.hid fun bs' hp => simRes_perm hp hz
      generalize simRes l ss bs ds = R at *
      obtain ⟨R1, ts⟩ := R
      simp only at hz hran hlen H1 hc1 ⊢
      subst hz
      have HR := Lib.hid hran
      clear hran
      obtain ⟨k, hk⟩ : ∃ k : Nat, min n (bs.length : Int) = (k : Int) := ⟨(min n (bs.length : Int)).toNat, by omega⟩
      have hkl : k ≤ bs.length := by omega
      have hwz : w.heap.size < w3.heap.size := HK3.out.lt
      have a0 := HK3.out.cell (i := 0) rfl
      have a1 := HK3.out.cell (i := 1) rfl
      have a2 := HK3.out.cell (i := 2) rfl
      have a3 := HK3.out.cell (i := 3) rfl
      go_wp2_with fail
      obtain ⟨w4, hw4, hk4, hb4⟩ := lnBox ⟨A, cap, l, S, capS, ss, Ab, capB, bs, D, capD, ds⟩ w3
      simp only at hw4 hk4
      rw [← hw4]
      have HB4 := Lib.hid (keepB HB3.out hb4)
      have HK4 := Lib.hid hk4
      have hb34 := hb4
      have HX4 := Lib.hid (HK3.out.below hb4 HK3.out.lt)
      have HL4 := Lib.hid (HL3.out.go hb4)
      have H1' := Lib.hid H1.out
      have hbc : bs.length ≤ capB := LnOk.bc HL.out
      have HBN : Hid (Ab = none → capB = 0) := Lib.hid (LnOk.bn HL.out)
      clear hw4 hk4 hb4 a0 a1 a2 a3 H1
      have HCUT := Lib.hid (HL4.out.b.cut (k := k) hbc)
      have HTOP := Lib.hid (HL4.out.b.top k)
      have hcut := run_cutB Ab bs.length capB k hkl
      have htop := run_topB Ab bs.length capB k (by omega)
      have HCN : Hid (cutA Ab k capB = none → bs.length - k = 0 ∧ capB - k = 0) := Lib.hid fun e => by have h1 := HBN.out (cutA_none e); omega
      have HTN : Hid (Ab = none → k = 0 ∧ capB = 0) := Lib.hid fun e => by have h1 := HBN.out e; omega
      have HKK : Hid (∀ wx, Below w3.heap.size w3 wx → wx.cell? ⟨w.heap.size, 2, none⟩ = some (.slice Ab bs.length capB) ∧ Below w3.heap.size w3 wx) :=
        Lib.hid fun wx hb => ⟨(HK3.out.below hb HK3.out.lt).cell (i := 2) rfl, hb⟩
      have hs34 : w3.heap.size ≤ w4.heap.size := hb34.size
      have HOW : Hid (((w4.alloc (.cells #[] 42)).drew).ownsRow w4.heap.size 42 6 (.slice (some ⟨w4.heap.size, 0, none⟩) 0 0) 0 []) := Lib.hid (World.ownsRow_made w4 #[] 0 (Nat.le_refl _) (Nat.zero_le _) rfl).drew
      have hld : (bs.drop k).length = bs.length - k := by simp
      have hlt2 : (bs.take k).length = k := by rw [List.length_take]; omega
      have HLD := Lib.hid hld
      have HLT := Lib.hid hlt2
      clear hld hlt2
      obtain ⟨i0, hi0, hz0, hz1, hz2⟩ := info_parts infoBn
      have hx4 : w4.heap.size ≤ w4.heap.size := Nat.le_refl _
      have kk0 : (0 : Int) ≤ (k : Int) := by omega
      have kk1 : (k : Int) ≤ (bs.length : Int) := by omega
      have kk2 : (k : Int) ≤ (capB : Int) := by omega
      go_region_held3 (fun wx => wx.cell? ⟨w.heap.size, 2, none⟩ = some (.slice Ab bs.length capB) ∧ Below w3.heap.size w3 wx)
        (first | (refine HKK.out _ ?_; go_grown; done))
        (first
          | (refine step_append_rd (by rfl) _ _ _ (by rfl) w4.heap.size 42 i0 _ 6 48 Try.underlying24 hi0 hz0 hz1 hz2 rfl (by decide) (.slice (some ⟨w4.heap.size, 0, none⟩) 0 0) 0 [] (by rfl) HOW.out (cutA Ab k capB) (bs.length - k) (capB - k) (bnCells (bs.drop k)) (by rfl) (by rw [bnCells_len, HLD.out]) HCN.out (HCUT.out.go ((below_new w4 (.cells #[] 42)).drew)).news (bnCells_one _) (by unfold maxLen; omega) (by omega) (by simp) ?_; intro v7 w7 hown7 hgrow7; obtain ⟨A7, c7, rfl⟩ := own_any hown7; have hB7 : Below w4.heap.size w4 w7 := ((below_new w4 (.cells #[] 42)).drew).grown hgrow7 (by simp) (fun g hg => (HOW.out.lt g hg).1); have hB37 : Below w3.heap.size w3 w7 := keepB hb34 hB7; have hs37 := hB37.size; have HO7 := Lib.hid hown7; clear hown7)
          | (refine step_append_rd (by rfl) _ _ _ (by rfl) w4.heap.size 42 i0 _ 6 48 Try.underlying24 hi0 hz0 hz1 hz2 rfl (by decide) (.slice A7 (0 + (bs.length - k)) c7) (0 + (bs.length - k)) ([] ++ bnCells (bs.drop k)) (by rfl) HO7.out Ab k capB (bnCells (bs.take k)) (by rfl) (by rw [bnCells_len, HLT.out]) HTN.out (HTOP.out.go hB7).news (bnCells_one _) (by unfold maxLen; omega) (by omega) hB7.size ?_; intro v8 w8 hown8 hgrow8; obtain ⟨A8, c8, rfl⟩ := own_any hown8; have hB8 : Below w4.heap.size w4 w8 := hB7.grown hgrow8 hB7.size (fun g hg => (HO7.out.lt g hg).1); have hB38 : Below w3.heap.size w3 w8 := keepB hb34 hB8; have hs38 := hB38.size; have cy8 := (HK4.out.below hB8 HK4.out.lt).cell (i := 2) rfl; have fy8 := (HK4.out.below hB8 HK4.out.lt).free 2; have HO8 := Lib.hid hown8; clear hown8))
      rename_i hSl
      clear hSl
      obtain ⟨bs', hbs'⟩ : ∃ bs' : List Bn, bs' = bs.drop k ++ bs.take k := ⟨_, rfl⟩
      have hperm : bs'.Perm bs := by rw [hbs']; exact List.perm_append_comm.trans (by rw [List.take_append_drop])
      have hl' : bs'.length = bs.length := hperm.length_eq
      have HO9 : Hid ((w8.setCell ⟨w3.heap.size, 2, none⟩ (.slice A8 bs.length c8)).ownsRow w4.heap.size 42 6 (.slice A8 bs'.length c8) bs'.length (bnCells bs')) := by
        have h1 := ownsRow_setCell_below HO8.out (a := ⟨w3.heap.size, 2, none⟩) HK4.out.lt (.slice A8 bs.length c8)
        rw [List.nil_append, ← bnCells_app, ← hbs', show 0 + (bs.length - k) + k = bs'.length from by omega] at h1
        exact Lib.hid h1
      have HK9 := Lib.hid ((HK4.out.below hB8 HK4.out.lt).put 2 (.slice A8 bs.length c8))
      have HB39 := Lib.hid (hB38.setCell (p := ⟨w3.heap.size, 2, none⟩) (Nat.le_refl _) (.slice A8 bs.length c8))
      clear hcut htop cy8 fy8 hgrow7 hgrow8 hB7 hB37 hs37 hs38 HO7 HOW HCUT HTOP HCN HTN HKK
      revert HO9 HK9 HB39
      generalize w8.setCell ⟨w3.heap.size, 2, none⟩ (.slice A8 bs.length c8) = w9
      intro HO9 HK9 HB39
      have HL9' := Lib.hid (HL3.out.go HB39.out)
      have HB9 := Lib.hid (keepB HB3.out HB39.out)
      have HBR := HO9.out
      have HLN : Hid (LnE w9 A cap l S capS ss A8 c8 bs' D capD ds) := by
        have g := HL9'.out
        have g' : LnOk w9 ⟨A, cap, l, S, capS, ss, Ab, capB, bs, D, capD, ds⟩ := HL9'.out
        have hsl : ss.length ≤ 9223372036854775807 := g'.sl
        have hdl : ds.length ≤ 9223372036854775807 := g'.dl
        refine Lib.hid (⟨g.o, g.s, BRd.of_own HO9.out, g.d, g.hcap, own_cap HO9.out, own_nil HO9.out, fun b hb => g'.br b (hperm.mem_iff.1 hb), fun b hb => g'.bt b (hperm.mem_iff.1 hb), hsl, ?_, hdl⟩ : LnOk w9 ⟨A, cap, l, S, capS, ss, A8, c8, bs', D, capD, ds⟩)
        show bs'.length ≤ _
        omega
      have HS9 : Hid (LnSm ⟨A, cap, l, S, capS, ss, A8, c8, bs', D, capD, ds⟩) := Lib.hid ⟨HS.out.l, HS.out.o, HS.out.s, HS.out.s2, by show bs'.length ≤ 70; omega, HS.out.d⟩
      have HT9 := Lib.hid (H1'.out.go HB39.out)
      have hk := lnSimE HLN.out HS9.out
      rw [HRP.out bs' hperm, hl'] at hk
      have HKC := Lib.hid hk
      have b0 := HK9.out.cell (i := 0) rfl
      have b1 := HK9.out.cell (i := 1) rfl
      have b2 := HK9.out.cell (i := 2) rfl
      have b3 := HK9.out.cell (i := 3) rfl
      clear hk hl' hbs' HBR
      go_wp2_with fail
      ((with_reducible refine HKC.out.mono ?_); rintro e w10 ⟨⟨A10, c10, rfl, h10, hc10⟩, hb10⟩)
      have HB10 := Lib.hid (keepB HB9.out hb10)
      have HT10 := Lib.hid (HT9.out.go hb10)
      have HU10 := Lib.hid h10
      clear hb10 h10 b0 b1 b2 b3
      go_wp2_with fail
      ((with_reducible refine (sameT_any A1 A10 c1 c10 ts ts _ HT10.out HU10.out (by omega) (by omega) rfl).mono ?_); rintro e w11 ⟨rfl, hb11⟩)
      have HB11 := Lib.hid (keepB HB10.out hb11)
      clear hb11
      go_wp2_with fail
      ((with_reducible refine (ex49_any _).mono ?_); rintro e w12 ⟨rfl, hb12⟩)
      have HB12 := Lib.hid (keepB HB11.out hb12)
      clear hb12
      go_wp2_with fail
      go_ret
      exact ⟨rfl, HB12.out⟩
end Go.Proofs.Ytelgkangojmhdaa
