/- Plain laws of convex hulls: the two halves make a hull. No program in sight. -/
import Derived.Test.YtopmolpnmpchoaaCvPlain3
namespace Go.Proofs.Ytopmolpnmpchoaa

structure IsHull (M : Pt) (l h : List Pt) : Prop where
  len : 3 ≤ h.length
  mem : ∀ i, rd h i ∈ l
  left : ∀ i, ∀ q ∈ l, 0 ≤ crs (rd h i) (rd h (i + 1)) q
  turn : ∀ i, 0 < crs (rd h i) (rd h (i + 1)) (rd h (i + 2))
  low : ∀ q ∈ l, lv M (rd h 0) ≤ lv M q
  lt : ∀ i, 0 < i → i < h.length → lv M (rd h 0) < lv M (rd h i)
def hullP (l : List Pt) : List Pt := (chain l).tail.reverse ++ (chain l.reverse).tail.reverse
theorem Asc.rev {M : Pt} {l : List Pt} (h : Asc M l) : Asc (ng M) l.reverse := by
  unfold Asc
  rw [List.pairwise_reverse]
  refine List.Pairwise.imp ?_ h
  intro a b hab
  rw [lv_ng, lv_ng]; omega
/-- What the two halves are, as one walk around. -/
structure Halves (M : Pt) (l Lo U : List Pt) (s g : Pt) : Prop where
  lo : ChOk M l Lo
  up : ChOk (ng M) l U
  lo2 : 2 ≤ Lo.length
  up2 : 2 ≤ U.length
  los : gt Lo (Lo.length - 1) = s
  log : gt Lo 0 = g
  ups : gt U 0 = s
  upg : gt U (U.length - 1) = g
  inj : ∀ q ∈ l, ∀ q' ∈ l, lv M q = lv M q' → q = q'
  lows : ∀ q ∈ l, lv M s ≤ lv M q
theorem gt_head {s : List Pt} {a : Pt} (h : s.head? = some a) : gt s 0 = a := by
  cases s with
  | nil => cases h
  | cons b r => simp at h; exact h
theorem gt_last {s : List Pt} {a : Pt} (h : s.getLast? = some a) : gt s (s.length - 1) = a := by
  rw [List.getLast?_eq_getElem?] at h
  unfold gt
  rw [List.getD_eq_getElem?_getD, h]
  rfl
theorem two_of {M : Pt} {s : List Pt} {a b : Pt} (h1 : s.head? = some a) (h2 : s.getLast? = some b) (hl : lv M a ≠ lv M b) : 2 ≤ s.length := by
  match s, h1, h2 with
  | [c], h1, h2 => simp at h1 h2; subst h1; subst h2; exact absurd rfl hl
  | _ :: _ :: _, _, _ => simp
theorem halves {M : Pt} {l : List Pt} (ha : Asc M l) (hl : 2 ≤ l.length) : ∃ s g, Halves M l (chain l) (chain l.reverse) s g := by
  obtain ⟨h1, h2, h3⟩ := chain_ok (M := M) (l.length - 1) l (by omega) ha
  obtain ⟨k1, k2, k3⟩ := chain_ok (M := ng M) (l.length - 1) l.reverse (by simp; omega) ha.rev
  match l, hl with
  | s :: r, hl =>
    obtain ⟨g, hg⟩ : ∃ g, (s :: r).getLast? = some g := ⟨_, List.getLast?_eq_some_getLast (by simp)⟩
    have hgm : g ∈ r := by
      cases r with
      | nil => simp at hl
      | cons b r => rw [List.getLast?_cons_cons] at hg; exact List.mem_of_getLast? hg
    have hsg : lv M s < lv M g := (List.pairwise_cons.1 ha).1 g hgm
    rw [hg] at h2
    rw [List.head?_cons] at h3
    rw [List.getLast?_reverse, List.head?_cons] at k2
    rw [List.head?_reverse, hg] at k3
    refine ⟨s, g, ⟨h1, ?_, two_of (M := M) h2 h3 (by omega), two_of (M := M) k2 k3 (by omega), gt_last h3, gt_head h2, gt_head k2, gt_last k3, ha.inj, ?_⟩⟩
    · exact ⟨k1.asc, Edges.imp (fun a b h q hq => h q (List.mem_reverse.2 hq)) k1.left, k1.turn, fun q hq => List.mem_reverse.1 (k1.mem q hq), fun a ha q hq => k1.low a ha q (List.mem_reverse.2 hq)⟩
    · intro q hq
      rcases List.mem_cons.1 hq with rfl | hq
      · exact Int.le_refl _
      · exact Int.le_of_lt ((List.pairwise_cons.1 ha).1 q hq)
theorem Halves.len {M : Pt} {l Lo U : List Pt} {s g : Pt} (_ : Halves M l Lo U s g) : (Lo.tail.reverse ++ U.tail.reverse).length = (Lo.length - 1) + (U.length - 1) := by simp
theorem Halves.rdA {M : Pt} {l Lo U : List Pt} {s g : Pt} (H : Halves M l Lo U s g) {i : Nat} (hi : i ≤ Lo.length - 1) : rd (Lo.tail.reverse ++ U.tail.reverse) i = gt Lo (Lo.length - 1 - i) := by
  have h1 := H.lo2
  have h2 := H.up2
  unfold rd
  rw [H.len, Nat.mod_eq_of_lt (by omega)]
  by_cases h : i < Lo.length - 1
  · rw [gt_app1 (by simp; omega), gt_rev (by simp; omega), gt_tail]
    congr 1; simp; omega
  · have : i = Lo.length - 1 := by omega
    subst this
    rw [gt_app2 (by simp), gt_rev (by simp; omega), gt_tail, Nat.sub_self, H.log, ← H.upg]
    congr 1; simp; omega
theorem Halves.rdB {M : Pt} {l Lo U : List Pt} {s g : Pt} (H : Halves M l Lo U s g) {i : Nat} (hi : Lo.length - 1 ≤ i) (hn : i ≤ (Lo.length - 1) + (U.length - 1)) : rd (Lo.tail.reverse ++ U.tail.reverse) i = gt U (U.length - 1 - (i - (Lo.length - 1))) := by
  have h1 := H.lo2
  have h2 := H.up2
  by_cases h : i < (Lo.length - 1) + (U.length - 1)
  · unfold rd
    rw [H.len, Nat.mod_eq_of_lt h, gt_app2 (by simp; omega), gt_rev (by simp; omega), gt_tail]
    congr 1; simp; omega
  · have : i = (Lo.length - 1) + (U.length - 1) := by omega
    subst this
    have e : rd (Lo.tail.reverse ++ U.tail.reverse) ((Lo.length - 1) + (U.length - 1)) = rd (Lo.tail.reverse ++ U.tail.reverse) 0 := by
      unfold rd; rw [H.len, Nat.mod_self, Nat.zero_mod]
    rw [e, H.rdA (Nat.zero_le _), Nat.sub_zero, H.los, ← H.ups]
    congr 1; omega
end Go.Proofs.Ytopmolpnmpchoaa
