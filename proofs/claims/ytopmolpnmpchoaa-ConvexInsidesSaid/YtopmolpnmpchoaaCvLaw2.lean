/- The walk of the law ConvexInsides: it returns true. -/
import Derived.Test.YtopmolpnmpchoaaCvOpen
namespace Go.Proofs.Ytopmolpnmpchoaa
open Go.RowKit

set_option maxRecDepth 100000 in
set_option maxHeartbeats 4000000 in
theorem convexInsides_walk (A : Option Addr) (cap : Nat) (l : List Pt) (q : Pt) (w : World) (h : PSl w A cap l) (hm : l.length ≤ 9223372036854775807) :
    Calls Try.prog 5 #[.slice A l.length cap, .agg #[.int .i64 q.x, .int .i64 q.y]] w fun e w' => e = .returned (.bool true) ∧ Below w.heap.size w w' := by
  have HB0 := hid (below1 w (.cells #[.int .i64 q.x, .int .i64 q.y] 31))
  have H := hid (h.keep HB0.out)
  clear h
  by_cases hl : 170 < l.length
  · go_enter Try.func5, Try.ntmps5
    go_wp2_with fail
    ((with_reducible refine (awake_any _).mono ?_); rintro e w1 ⟨rfl, hb1⟩)
    go_wp2
    go_ret
    exact ⟨rfl, HB0.out.trans (hb1.mono HB0.out.size)⟩
  · go_enter Try.func5, Try.ntmps5
    go_wp2_with fail
    ((with_reducible refine (inside_any A cap l q _ H.out hm).mono ?_); rintro e w1 ⟨rfl, hb1⟩)
    have HB1 := hid (HB0.out.trans (hb1.mono HB0.out.size))
    have H1 := hid (H.out.keep hb1)
    have q0 : w1.cell? ⟨w.heap.size, 0, none⟩ = some (.int .i64 q.x) := (hb1.cell (p := ⟨w.heap.size, 0, none⟩) (by simp)).trans (by simp [go_sem])
    have q1 : w1.cell? ⟨w.heap.size, 1, none⟩ = some (.int .i64 q.y) := (hb1.cell (p := ⟨w.heap.size, 1, none⟩) (by simp)).trans (by simp [go_sem])
    have hs1 : w.heap.size < w1.heap.size := by have := hb1.size; simp at this; omega
    clear hb1
    go_wp2_with fail
    ((with_reducible refine (refInside_any A cap l q _ H1.out hm).mono ?_); rintro e w2 ⟨rfl, hb2⟩)
    have HB2 := hid (HB1.out.trans (hb2.mono HB1.out.size))
    have H2 := hid (H1.out.keep hb2)
    have q2 := (hb2.cell (p := ⟨w.heap.size, 0, none⟩) hs1).trans q0
    have q3 := (hb2.cell (p := ⟨w.heap.size, 1, none⟩) hs1).trans q1
    have hs2 : w.heap.size < w2.heap.size := by have := hb2.size; omega
    clear hb2 q0 q1
    have HNG : Hid (∀ wx, Below w2.heap.size w2 wx → Calls Try.prog 20 #[.slice A l.length cap] wx fun e w' => (∃ A' c', e = .returned (.slice A' (l.map negW).length c') ∧ PSl w' A' c' (l.map negW)) ∧ Below wx.heap.size wx w') := fun wx hb => negate_any A cap l wx (H2.out.keep hb).rd (by omega)
    have HRN : Hid (∀ wx, Below w2.heap.size w2 wx → Calls Try.prog 21 #[.slice A l.length cap] wx fun e w' => (∃ A' c', e = .returned (.slice A' (l.map negW).length c') ∧ PSl w' A' c' (l.map negW)) ∧ Below wx.heap.size wx w') := fun wx hb => refNegate_any A cap l wx (H2.out.keep hb).rd (by omega)
    have HSP : Hid (∀ wx, Below w2.heap.size w2 wx → Calls Try.prog 22 #[.slice A l.length cap, .agg #[.int .i64 q.x, .int .i64 q.y]] wx fun e w' => e = .returned (.int .i64 (supF (dotL q) l)) ∧ Below wx.heap.size wx w') := fun wx hb => support_any A cap l q wx (H2.out.keep hb).rd (by omega)
    have HRS : Hid (∀ wx, Below w2.heap.size w2 wx → Calls Try.prog 23 #[.slice A l.length cap, .agg #[.int .i64 q.x, .int .i64 q.y]] wx fun e w' => e = .returned (.int .i64 (supF (dotL q) l)) ∧ Below wx.heap.size wx w') := fun wx hb => refSupport_any A cap l q wx (H2.out.keep hb).rd (by omega)
    have hnl : (l.map negW).length ≤ 1000000 := by rw [List.length_map]; omega
    generalize l.map negW = nl at *
    have HSM : Hid (∀ (A' B' : Option Addr) (ca cb : Nat) (wx : World), PSl wx A' ca nl → PSl wx B' cb nl → Calls Try.prog 14 #[.slice A' nl.length ca, .slice B' nl.length cb] wx fun e w' => e = .returned (.bool true) ∧ Below wx.heap.size wx w') := fun A' B' ca cb wx h1 h2 => by
      have := same_any A' B' ca cb nl nl wx h1.rd h2.rd hnl
      rw [decide_eq_true rfl] at this
      exact this
    have HK : Hid (∀ wx, Below w2.heap.size w2 wx → (wx.cell? ⟨w.heap.size, 0, none⟩ = some (.int .i64 q.x) ∧ wx.cell? ⟨w.heap.size, 1, none⟩ = some (.int .i64 q.y)) ∧ Below w2.heap.size w2 wx) :=
      fun wx hb => ⟨⟨(hb.cell (p := ⟨w.heap.size, _, none⟩) hs2).trans q2, (hb.cell (p := ⟨w.heap.size, _, none⟩) hs2).trans q3⟩, hb⟩
    generalize insV l q = iv at *
    generalize hullE l = er at *
    generalize supF (dotL q) l = sv at *
    have b1 : (iv == iv) = true := by simp
    have b2 : (er == er) = true := by simp
    have b3 : (sv == sv) = true := by simp
    clear q2 q3
    go_wp2_with fail
    go_region_held3 (fun wx => (wx.cell? ⟨w.heap.size, 0, none⟩ = some (.int .i64 q.x) ∧ wx.cell? ⟨w.heap.size, 1, none⟩ = some (.int .i64 q.y)) ∧ Below w2.heap.size w2 wx)
      (first | exact HK.out _ (Below.refl _ _).drew | (go_split_ands; first | exact HK.out _ (keepB (by assumption) hbF) | exact HK.out _ (keepB (by assumption) hbE) | exact HK.out _ (keepB (by assumption) hbD) | exact HK.out _ (keepB (by assumption) hbC) | exact HK.out _ (keepB (by assumption) hbB) | exact HK.out _ (keepB (by assumption) hbA)))
      (first
        | (go_at_call 20; with_reducible refine (HNG.out _ ?_).mono ?_; (go_split_ands; assumption); rintro e wA ⟨⟨AA, cA, rfl, hpA⟩, hbA⟩)
        | (go_at_call 21; with_reducible refine (HRN.out _ ?_).mono ?_; (go_split_ands; assumption); rintro e wB ⟨⟨AB, cB, rfl, hpB⟩, hbB⟩)
        | (go_at_call 14; with_reducible refine (HSM.out _ _ _ _ _ (hpA.keep hbB) hpB).mono ?_; rintro e wC ⟨rfl, hbC⟩)
        | (go_at_call 22; with_reducible refine (HSP.out _ ?_).mono ?_; (go_split_ands; assumption); rintro e wD ⟨rfl, hbD⟩)
        | (go_at_call 23; with_reducible refine (HRS.out _ ?_).mono ?_; (go_split_ands; assumption); rintro e wE ⟨rfl, hbE⟩)
        | (go_at_call 11; with_reducible refine (awake_any _).mono ?_; rintro e wF ⟨rfl, hbF⟩))
    all_goals
      rename_i hSl
      have HBZ := hid (HB2.out.trans (hSl.2.mono HB2.out.size))
      clear hSl
      go_wp2
      go_ret
      exact ⟨rfl, HBZ.out⟩
end Go.Proofs.Ytopmolpnmpchoaa
