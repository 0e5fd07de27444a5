/- Plain laws of convex hulls: the two halves make a hull. No program in sight. -/
import Derived.Test.YtopmolpnmpchoaaCvPlain4
namespace Go.Proofs.Ytopmolpnmpchoaa

theorem Halves.edge {M : Pt} {l Lo U : List Pt} {s g : Pt} (H : Halves M l Lo U s g) {P : Pt → Pt → Prop} (hlo : Edges P Lo) (hup : Edges P U) (i : Nat) : P (rd (Lo.tail.reverse ++ U.tail.reverse) i) (rd (Lo.tail.reverse ++ U.tail.reverse) (i + 1)) := by
  have h1 := H.lo2
  have h2 := H.up2
  have e0 := rd_mod (Lo.tail.reverse ++ U.tail.reverse) i 0
  rw [Nat.add_zero] at e0
  rw [e0, rd_mod _ i 1, H.len, Nat.add_zero]
  have hi : i % (Lo.length - 1 + (U.length - 1)) < Lo.length - 1 + (U.length - 1) := Nat.mod_lt _ (by omega)
  generalize i % (Lo.length - 1 + (U.length - 1)) = j at hi
  by_cases h : j < Lo.length - 1
  · rw [H.rdA (by omega), H.rdA (by omega)]
    have := hlo.at (Lo.length - 1 - (j + 1)) (by omega)
    rwa [show Lo.length - 1 - (j + 1) + 1 = Lo.length - 1 - j by omega] at this
  · rw [H.rdB (by omega) (by omega), H.rdB (by omega) (by omega)]
    have := hup.at (U.length - 1 - (j + 1 - (Lo.length - 1))) (by omega)
    rwa [show U.length - 1 - (j + 1 - (Lo.length - 1)) + 1 = U.length - 1 - (j - (Lo.length - 1)) by omega] at this
theorem Halves.all {M : Pt} {l Lo U : List Pt} {s g : Pt} (H : Halves M l Lo U s g) (i : Nat) : rd (Lo.tail.reverse ++ U.tail.reverse) i ∈ l := by
  have h1 := H.lo2
  have h2 := H.up2
  have e0 := rd_mod (Lo.tail.reverse ++ U.tail.reverse) i 0
  rw [Nat.add_zero] at e0
  rw [e0, H.len, Nat.add_zero]
  have hi : i % (Lo.length - 1 + (U.length - 1)) < Lo.length - 1 + (U.length - 1) := Nat.mod_lt _ (by omega)
  generalize i % (Lo.length - 1 + (U.length - 1)) = j at hi
  by_cases h : j < Lo.length - 1
  · rw [H.rdA (by omega)]; exact H.lo.mem _ (gt_mem (by omega))
  · rw [H.rdB (by omega) (by omega)]; exact H.up.mem _ (gt_mem (by omega))
theorem Halves.turns {M : Pt} {l Lo U : List Pt} {s g : Pt} (H : Halves M l Lo U s g) (hc : ¬ Col l) (i : Nat) : 0 < crs (rd (Lo.tail.reverse ++ U.tail.reverse) i) (rd (Lo.tail.reverse ++ U.tail.reverse) (i + 1)) (rd (Lo.tail.reverse ++ U.tail.reverse) (i + 2)) := by
  have h1 := H.lo2
  have h2 := H.up2
  have hlft := H.edge H.lo.left H.up.left
  have hmem := H.all
  have e0 := rd_mod (Lo.tail.reverse ++ U.tail.reverse) i 0
  rw [Nat.add_zero] at e0
  rw [e0, rd_mod _ i 1, rd_mod _ i 2, H.len, Nat.add_zero]
  have hi : i % (Lo.length - 1 + (U.length - 1)) < Lo.length - 1 + (U.length - 1) := Nat.mod_lt _ (by omega)
  generalize i % (Lo.length - 1 + (U.length - 1)) = j at hi
  have hl1 := hlft j
  have hl2 := hlft (j + 1)
  have hm := hmem (j + 2)
  by_cases c1 : j + 2 ≤ Lo.length - 1
  · rw [H.rdA (by omega), H.rdA (by omega), H.rdA (by omega)]
    have := H.lo.turn.at (Lo.length - 1 - (j + 2)) (by omega)
    rwa [show Lo.length - 1 - (j + 2) + 2 = Lo.length - 1 - j by omega, show Lo.length - 1 - (j + 2) + 1 = Lo.length - 1 - (j + 1) by omega] at this
  by_cases c2 : j + 1 = Lo.length - 1
  · refine junction (M := M) ?_ ?_ hm hl1 hl2 hc
    · rw [H.rdA (by omega), H.rdA (by omega)]
      have := H.lo.asc.at (Lo.length - 1 - (j + 1)) (by omega)
      rwa [show Lo.length - 1 - (j + 1) + 1 = Lo.length - 1 - j by omega] at this
    · rw [H.rdB (by omega) (by omega), H.rdB (by omega) (by omega)]
      have := H.up.asc.at (U.length - 1 - (j + 2 - (Lo.length - 1))) (by omega)
      rw [show U.length - 1 - (j + 2 - (Lo.length - 1)) + 1 = U.length - 1 - (j + 1 - (Lo.length - 1)) by omega, lv_ng, lv_ng] at this
      omega
  by_cases c3 : j + 2 ≤ Lo.length - 1 + (U.length - 1)
  · rw [H.rdB (by omega) (by omega), H.rdB (by omega) (by omega), H.rdB (by omega) (by omega)]
    have := H.up.turn.at (U.length - 1 - (j + 2 - (Lo.length - 1))) (by omega)
    rwa [show U.length - 1 - (j + 2 - (Lo.length - 1)) + 2 = U.length - 1 - (j - (Lo.length - 1)) by omega, show U.length - 1 - (j + 2 - (Lo.length - 1)) + 1 = U.length - 1 - (j + 1 - (Lo.length - 1)) by omega] at this
  · refine junction (M := ng M) ?_ ?_ hm hl1 hl2 hc
    · rw [H.rdB (by omega) (by omega), H.rdB (by omega) (by omega)]
      have := H.up.asc.at (U.length - 1 - (j + 1 - (Lo.length - 1))) (by omega)
      rwa [show U.length - 1 - (j + 1 - (Lo.length - 1)) + 1 = U.length - 1 - (j - (Lo.length - 1)) by omega] at this
    · have ej : j + 2 = Lo.length - 1 + (U.length - 1) + 1 := by omega
      have e1 : rd (Lo.tail.reverse ++ U.tail.reverse) (j + 2) = rd (Lo.tail.reverse ++ U.tail.reverse) 1 := by
        rw [ej, rd_mod, H.len, Nat.mod_self]
      have e2 : rd (Lo.tail.reverse ++ U.tail.reverse) (j + 1) = rd (Lo.tail.reverse ++ U.tail.reverse) 0 := by
        have e3 := rd_mod (Lo.tail.reverse ++ U.tail.reverse) (j + 1) 0
        rw [show j + 1 = Lo.length - 1 + (U.length - 1) by omega, H.len, Nat.mod_self, Nat.add_zero] at e3
        rw [show j + 1 = Lo.length - 1 + (U.length - 1) by omega]; exact e3
      rw [e1, e2, H.rdA (by omega), H.rdA (by omega), lv_ng, lv_ng]
      have := H.lo.asc.at (Lo.length - 1 - 1) (by omega)
      rw [show Lo.length - 1 - 1 + 1 = Lo.length - 1 - 0 by omega] at this
      omega
theorem Halves.hull {M : Pt} {l Lo U : List Pt} {s g : Pt} (H : Halves M l Lo U s g) (hc : ¬ Col l) : IsHull M l (Lo.tail.reverse ++ U.tail.reverse) := by
  have h1 := H.lo2
  have h2 := H.up2
  have hz : rd (Lo.tail.reverse ++ U.tail.reverse) 0 = s := by rw [H.rdA (Nat.zero_le _), Nat.sub_zero, H.los]
  have hlft := H.edge H.lo.left H.up.left
  refine ⟨?_, H.all, hlft, H.turns hc, fun q hq => by rw [hz]; exact H.lows q hq, fun i h0 hi => ?_⟩
  · rw [H.len]
    by_cases h : 3 ≤ Lo.length - 1 + (U.length - 1)
    · exact h
    · exfalso
      have e1 : rd (Lo.tail.reverse ++ U.tail.reverse) 1 = g := by rw [H.rdA (by omega), ← H.log]; congr 1; omega
      have e2 : rd (Lo.tail.reverse ++ U.tail.reverse) 2 = s := by rw [H.rdB (by omega) (by omega), ← H.ups]; congr 1; omega
      have a1 := H.lo.asc.at 0 (by omega)
      rw [show 0 + 1 = Lo.length - 1 by omega, H.los, H.log] at a1
      refine hc (col_of (M := M) (a := s) (g := g) (by omega) fun q hq => ?_)
      have k1 := hlft 0 q hq
      have k2 := hlft 1 q hq
      rw [Nat.zero_add, hz, e1] at k1
      rw [e1, e2] at k2
      have : crs g s q = - crs s g q := by unfold crs; grind
      omega
  · rw [H.len] at hi
    rw [hz]
    by_cases h : i ≤ Lo.length - 1
    · have a1 := H.lo.asc.at (Lo.length - 1 - i) (by omega)
      rw [← H.rdA h, show Lo.length - 1 - i + 1 = Lo.length - 1 - (i - 1) by omega, ← H.rdA (by omega)] at a1
      have := H.lows _ (H.all (i - 1))
      omega
    · have a1 := H.up.asc.at (U.length - 1 - (i + 1 - (Lo.length - 1))) (by omega)
      rw [show U.length - 1 - (i + 1 - (Lo.length - 1)) + 1 = U.length - 1 - (i - (Lo.length - 1)) by omega, ← H.rdB (by omega) (by omega), ← H.rdB (by omega) (by omega), lv_ng, lv_ng] at a1
      have := H.lows _ (H.all (i + 1))
      omega
theorem Halves.flat {M : Pt} {l Lo U : List Pt} {s g : Pt} (H : Halves M l Lo U s g) (hc : Col l) : Lo = [g, s] ∧ U = [s, g] := by
  have h1 := H.lo2
  have h2 := H.up2
  constructor
  · match Lo, h1, H.lo, H.los, H.log with
    | [a, b], _, _, e1, e2 => exact by rw [← e1, ← e2]; rfl
    | c :: b :: a :: r, _, ok, _, _ =>
      exfalso
      have := ok.turn.1
      rw [hc a (ok.mem a (by simp)) b (ok.mem b (by simp)) c (ok.mem c (by simp))] at this
      omega
  · match U, h2, H.up, H.ups, H.upg with
    | [a, b], _, _, e1, e2 => exact by rw [← e1, ← e2]; rfl
    | c :: b :: a :: r, _, ok, _, _ =>
      exfalso
      have := ok.turn.1
      rw [hc a (ok.mem a (by simp)) b (ok.mem b (by simp)) c (ok.mem c (by simp))] at this
      omega
theorem hullP_ok {M : Pt} {l : List Pt} (ha : Asc M l) (hl : 2 ≤ l.length) (hc : ¬ Col l) : IsHull M l (hullP l) := by
  obtain ⟨s, g, H⟩ := halves ha hl
  exact H.hull hc
theorem hullP_flat {M : Pt} {l : List Pt} (ha : Asc M l) (hl : 2 ≤ l.length) (hc : Col l) : (hullP l).length = 2 := by
  obtain ⟨s, g, H⟩ := halves ha hl
  obtain ⟨e1, e2⟩ := H.flat hc
  unfold hullP
  rw [e1, e2]
  rfl
end Go.Proofs.Ytopmolpnmpchoaa
