/- The law LineDrops: plain law and walk. -/
import Derived.Test.YtlbkfphepneflaaLinePlain5
namespace Go.Proofs.Ytlbkfphepneflaa
open Go.RowKit

theorem mn_take {l : List Opn} {m i : Nat} (h : i < m) : mn (l.take m) i = mn l i := by
  unfold mn; rw [List.getD_eq_getElem?_getD, List.getD_eq_getElem?_getD, List.getElem?_take, if_pos h]
theorem af_take {l : List Opn} {m i : Nat} (h : i < m) : af (l.take m) i = af l i := by
  unfold af; rw [List.getD_eq_getElem?_getD, List.getD_eq_getElem?_getD, List.getElem?_take, if_pos h]
theorem load_take {l : List Opn} {m : Nat} (st : Nat → Int) (s : Int) : ∀ p : List Nat, (∀ i ∈ p, i < m) → load (l.take m) st s p = load l st s p := by
  intro p
  induction p with
  | nil => intro _; rfl
  | cons x p ih => intro h; simp only [load]; rw [ih fun i hi => h i (by simp [hi]), mn_take (h x (by simp))]
theorem drop_err {l : List Opn} {c : Int} {m : Nat} (h : bndErr l c = 0) (ho : ordErr (l.take m) = 0) : bndErr (l.take m) c = 0 := by
  obtain ⟨_, h2, h3, h4⟩ := bndErr_zero h
  refine bndErr_ok ho h2 h3 ?_
  rw [List.take_length, List.any_eq_false]
  intro o hm
  have := h4 o (List.mem_of_mem_take hm)
  unfold overB
  simp
  omega
theorem drop_law {l : List Opn} {c : Int} {m : Nat} (hm : l.length = m + 1) (h : bndErr l c = 0) (ho : ordErr (l.take m) = 0) (ha : ∀ o ∈ l, ∀ a ∈ o.after, a ≠ (m : Int)) :
    nSt (l.take m) c ≤ nSt l c ∧ nSt l c ≤ nSt (l.take m) c + 1 := by
  have hl := lineOk_of h
  have hl' := lineOk_of (drop_err h ho)
  have hlen : (l.take m).length = m := by rw [List.length_take]; omega
  have hv := bal_valid hl
  have hv' := bal_valid hl'
  constructor
  · have : Valid (l.take m) c (nSt l c) (balA l c) := by
      refine ⟨fun i hi => hv.rng i (by omega), fun i hi a hai => ?_, fun s => ?_⟩
      · rw [af_take (by omega)] at hai; exact hv.ord i (by omega) a hai
      · rw [hlen, load_take _ _ _ fun i hi => List.mem_range.1 hi]
        exact Int.le_trans (load_le hl _ s (show m ≤ l.length by omega) (Nat.le_refl _)) (hv.fit s)
    have := nSt_least hl' (by omega) this
    omega
  · have : Valid l c ((nSt (l.take m) c : Int) + 1) (fun i => if i = m then (nSt (l.take m) c : Int) else balA (l.take m) c i) := by
      refine ⟨fun i hi => ?_, fun i hi a hai => ?_, fun s => ?_⟩
      · show 0 ≤ (if i = m then (nSt (l.take m) c : Int) else balA (l.take m) c i) ∧ (if i = m then (nSt (l.take m) c : Int) else balA (l.take m) c i) < _
        by_cases e : i = m
        · rw [if_pos e]; omega
        · rw [if_neg e]; have := hv'.rng i (by omega); omega
      · show (if a.toNat = m then (nSt (l.take m) c : Int) else balA (l.take m) c a.toNat) ≤ (if i = m then (nSt (l.take m) c : Int) else balA (l.take m) c i)
        have hidx := hl.idx i hi a hai
        have hne := ha _ (getD_mem hi) a hai
        rw [if_neg (by omega)]
        by_cases e : i = m
        · rw [if_pos e]; have := hv'.rng a.toNat (by omega); omega
        · rw [if_neg e]
          exact hv'.ord i (by omega) a (by rw [af_take (by omega)]; exact hai)
      · have hlow : load l (fun i => if i = m then (nSt (l.take m) c : Int) else balA (l.take m) c i) s (List.range m) = load (l.take m) (balA (l.take m) c) s (List.range (l.take m).length) := by
          rw [hlen, load_take _ _ _ fun i hi => List.mem_range.1 hi]
          exact load_other _ fun i hi => if_neg (by have := List.mem_range.1 hi; omega)
        rw [hm, load_succ, hlow]
        have hmm := hl.m1 m (by omega)
        show _ + (if (if m = m then (nSt (l.take m) c : Int) else balA (l.take m) c m) = s then mn l m else 0) ≤ c
        rw [if_pos rfl]
        by_cases e : (nSt (l.take m) c : Int) = s
        · rw [if_pos e, load_none _ fun i hi => ?_]
          · omega
          · have := hv'.rng i (List.mem_range.1 hi); omega
        · rw [if_neg e]; have := hv'.fit s; omega
    have := nSt_least hl (by omega) this
    omega

set_option maxRecDepth 100000 in
set_option maxHeartbeats 4000000 in
theorem lineDrops_walk (A : Option Addr) (cap : Nat) (l : List Opn) (c : Int) (w : World) (h : ORd w w.heap.size A l) (hcap : l.length ≤ cap) :
    Calls Try.prog 10 #[.slice A l.length cap, .int .i64 c] w fun e w' => e = .returned (.bool true) ∧ Below w.heap.size w w' := by
  have HO := Lib.hid h
  clear h
  go_enter Try.func10, Try.ntmps10
  go_wp2_with fail
  ((with_reducible refine (few7 A cap l _ HO.out).mono ?_); rintro e w1 ⟨rfl, rfl⟩)
  cases hf : few l 7 with
  | false =>
    clear hf
    go_wp2_with fail
    ((with_reducible refine (ex_any _).mono ?_); rintro e w2 ⟨rfl, hb2⟩)
    go_wp2
    go_ret
    exact ⟨rfl, hb2⟩
  | true =>
    have hl7 := (few_small hf).1
    have HS := Lib.hid (few_small hf).2
    clear hf
    by_cases hl0 : l.length = 0
    · have hl0b : ((l.length : Int) == 0) = true := by simp; exact List.length_eq_zero_iff.1 hl0
      clear hl0
      go_wp2_with fail
      ((with_reducible refine (ex_any _).mono ?_); rintro e w2 ⟨rfl, hb2⟩)
      go_wp2
      go_ret
      exact ⟨rfl, hb2⟩
    · have hl0b : ((l.length : Int) == 0) = false := by simp; intro e; rw [e] at hl0; exact hl0 rfl
      obtain ⟨m, HM⟩ : ∃ m : Nat, Hid (l.length = m + 1) := ⟨l.length - 1, by show _ = _; omega⟩
      have hlm : (l.length : Int) - 1 = (m : Int) := by have := HM.out; omega
      have hm1 : m < l.length := by have := HM.out; omega
      have hm2 : l.length ≤ m + 1 := by have := HM.out; omega
      clear hl0
      go_wp2_with fail
      clear hlm hl0b
      go_loopw [7, 9, 30] (fun _ _ j wr => ∃ k : Nat, k ≤ l.length ∧ j = .int .i64 k ∧ (∀ o ∈ l.take k, ∀ a ∈ o.after, a ≠ (m : Int)) ∧ Below w.heap.size w wr) (fun _ _ j _ => l.length - (intOf j).toNat)
      case atStart => exact ⟨0, Nat.zero_le _, rfl, by simp, Below.refl _ _⟩
      case round =>
        obtain ⟨k, hk, rfl, hu, hb⟩ := hrel
        have HU := Lib.hid hu
        have HB := Lib.hid hb
        have hsz := hb.size
        clear hu hb
        by_cases hlt : k < l.length
        · obtain ⟨b, off, o, rfl, hB, hd, hat0⟩ := HO.out.at_ (Below.refl _ _) hlt
          obtain ⟨c0, c1, c2, ⟨Aa, ca, c3, a1, a2⟩, ⟨Au, cu, c4, u1, u2⟩⟩ := hat0
          have c0 := (HB.out.cell (p := ⟨b, _, none⟩) hB).trans c0
          have c1 := (HB.out.cell (p := ⟨b, _, none⟩) hB).trans c1
          have c2 := (HB.out.cell (p := ⟨b, _, none⟩) hB).trans c2
          have c3 := (HB.out.cell (p := ⟨b, _, none⟩) hB).trans c3
          have c4 := (HB.out.cell (p := ⟨b, _, none⟩) hB).trans c4
          have HA := Lib.hid a2
          have hso := (HS.out o (List.mem_of_getElem? hd)).2.1
          have HTK : Hid (l.take (k + 1) = l.take k ++ [o]) := by show _ = _; rw [List.take_add_one, hd]; rfl
          have HB2 := Lib.hid (HB.out.alloc hsz (.cells #[.string o.name, .int .i64 o.mach, .int .i64 o.mins, .slice Aa o.after.length ca, .slice Au o.uses.length cu] 38))
          clear hd a1 a2 u1 u2
          go_wp2_with fail
          revert HB2
          generalize wr.alloc (.cells #[.string o.name, .int .i64 o.mach, .int .i64 o.mins, .slice Aa o.after.length ca, .slice Au o.uses.length cu] 38) = w2
          intro HB2
          clear c0 c1 c2 c3 c4
          have hsz2 := HB2.out.size
          go_loop [9, 37] (fun _ j => ∃ i : Nat, i ≤ o.after.length ∧ j = .int .i64 i ∧ ∀ a ∈ o.after.take i, a ≠ (m : Int)) (fun _ j => o.after.length - (intOf j).toNat)
          case atStart => exact ⟨0, Nat.zero_le _, rfl, by simp⟩
          case round =>
            obtain ⟨i, hi, rfl, hv⟩ := hrel
            have HV := Lib.hid hv
            clear hv
            by_cases hil : i < o.after.length
            · obtain ⟨b2, off2, x, rfl, hB2, hdx, cx⟩ := HA.out.at_ HB2.out hil
              have HTX := Lib.hid (take_snoc' hdx)
              clear hdx
              by_cases hx : x = (m : Int)
              · have hxb : (x == (m : Int)) = true := by simp [hx]
                clear hx
                go_wp2_with fail
                ((with_reducible refine (ex_any _).mono ?_); rintro e w3 ⟨rfl, hb3⟩)
                have HB3 := Lib.hid (HB2.out.trans (hb3.mono hsz2))
                clear hb3
                go_wp2
                go_ret
                exact ⟨rfl, HB3.out⟩
              · have hxb : (x == (m : Int)) = false := by simp [hx]
                have HV' : Hid (∀ a ∈ o.after.take (i + 1), a ≠ (m : Int)) := fun a ha => by
                  rw [HTX.out] at ha
                  rcases List.mem_append.1 ha with ha | ha
                  · exact HV.out a ha
                  · simp at ha; subst ha; exact hx
                clear hx
                go_wp2
                go_round
                case rel => exact ⟨i + 1, by omega, by go_num, HV'.out⟩
                case measure => simp [intOf]; omega
            · obtain rfl : o.after.length = i := by omega
              have HU' : Hid (∀ x ∈ l.take (k + 1), ∀ a ∈ x.after, a ≠ (m : Int)) := fun x hx => by
                rw [HTK.out] at hx
                rcases List.mem_append.1 hx with hx | hx
                · exact HU.out x hx
                · simp at hx; subst hx; have := HV.out; rw [List.take_length] at this; exact this
              go_wp2
              go_roundw
              case rel => exact ⟨k + 1, by omega, by go_num, HU'.out, HB2.out⟩
              case measure => simp [intOf]; omega
        · obtain rfl : l.length = k := by omega
          have HUA : Hid (∀ x ∈ l, ∀ a ∈ x.after, a ≠ (m : Int)) := by have := HU.out; rw [List.take_length] at this; exact this
          have HOR := Lib.hid (HO.out.go HB.out)
          go_wp2_with fail
          ((with_reducible refine (balance_any A cap l c _ HOR.out (by omega) hcap HS.out).mono ?_); rintro e w2 ⟨⟨A2, n2, c2, rfl, p2, q2⟩, hb2⟩)
          have HB2 := Lib.hid (HB.out.trans (hb2.mono hsz))
          have HO2 := Lib.hid (HOR.out.go hb2)
          have Q2 := Lib.hid q2
          clear hb2 p2 q2
          by_cases hz : bndErr l c = 0
          · have HZ := Lib.hid hz
            obtain ⟨g1, _, _⟩ := Q2.out hz
            have HN2 := Lib.hid g1
            have hK := nSt_le (lineOk_of hz)
            rw [← HN2.out] at hK
            clear g1 hz
            rw [HZ.out]
            have hmi0 : (0 : Int) ≤ (m : Int) := by omega
            have hmi1 : (m : Int) ≤ (cap : Int) := by omega
            have hmi2 : m ≤ cap := by omega
            have HTL : Hid ((l.take m).length = m) := by show _ = _; rw [List.length_take]; omega
            have HST : Hid (OSmall (l.take m)) := fun o ho => HS.out o (List.mem_of_mem_take ho)
            go_wp2_with fail
            have hk := refOrder_any A cap (l.take m) w2 (HO2.out.take m) (by rw [HTL.out]; omega) HST.out
            rw [HTL.out] at hk
            ((with_reducible refine hk.mono ?_); rintro e w3 ⟨⟨A3, n3, c3, rfl, p3, q3⟩, hb3⟩)
            clear hk p3 q3
            have HB3 := Lib.hid (HB2.out.trans (hb3.mono HB2.out.size))
            have HO3 := Lib.hid (HO2.out.go hb3)
            clear hb3
            by_cases ho : ordErr (l.take m) = 0
            · have HOE := Lib.hid ho
              have HDE := Lib.hid (drop_err HZ.out ho)
              have hdl := drop_law HM.out HZ.out ho HUA.out
              clear ho
              rw [HOE.out]
              go_wp2_with fail
              have hk := balance_any A cap (l.take m) c w3 (HO3.out.take m) (by rw [HTL.out]; omega) (by rw [HTL.out]; omega) HST.out
              rw [HTL.out] at hk
              ((with_reducible refine hk.mono ?_); rintro e w4 ⟨⟨A4, n4, c4, rfl, p4, q4⟩, hb4⟩)
              obtain ⟨g1, _, _⟩ := q4 HDE.out
              have HB4 := Lib.hid (HB3.out.trans (hb4.mono HB3.out.size))
              rw [← g1, ← HN2.out] at hdl
              obtain ⟨d1, d2⟩ := hdl
              have d3 : n4 ≤ 1000 := by omega
              clear hk p4 q4 hb4 g1
              rw [HDE.out]
              go_wp2_with fail
              ((with_reducible refine (ex_any _).mono ?_); rintro e w5 ⟨rfl, hb5⟩)
              have HB5 := Lib.hid (HB4.out.trans (hb5.mono HB4.out.size))
              clear hb5
              go_wp2
              go_ret
              exact ⟨rfl, HB5.out⟩
            · have hne : (ordErr (l.take m) != 0) = true := by simpa using ho
              clear ho
              go_wp2_with fail
              ((with_reducible refine (ex_any _).mono ?_); rintro e w4 ⟨rfl, hb4⟩)
              have HB4 := Lib.hid (HB3.out.trans (hb4.mono HB3.out.size))
              clear hb4
              go_wp2
              go_ret
              exact ⟨rfl, HB4.out⟩
          · have hne : (bndErr l c != 0) = true := by simpa using hz
            clear hz
            go_wp2_with fail
            ((with_reducible refine (ex_any _).mono ?_); rintro e w4 ⟨rfl, hb4⟩)
            have HB4 := Lib.hid (HB2.out.trans (hb4.mono HB2.out.size))
            clear hb4
            go_wp2
            go_ret
            exact ⟨rfl, HB4.out⟩
end Go.Proofs.Ytlbkfphepneflaa
