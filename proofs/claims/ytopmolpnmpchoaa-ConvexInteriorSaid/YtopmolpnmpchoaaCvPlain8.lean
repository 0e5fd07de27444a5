/- Plain laws of convex hulls: the reference's wrapping. No program in sight. -/
import Derived.Test.YtopmolpnmpchoaaCvPlain7
namespace Go.Proofs.Ytopmolpnmpchoaa

instance : DecidableEq Pt := fun a b => if h : a.x = b.x ∧ a.y = b.y then .isTrue (Pt.same h.1 h.2) else .isFalse (fun e => h (by rw [e]; exact ⟨rfl, rfl⟩))
def scan1 (a n q : Pt) : Pt := if q ≠ a ∧ (n = a ∨ crs a n q < 0 ∨ (crs a n q = 0 ∧ dist a n < dist a q)) then q else n
def scan (a : Pt) (l : List Pt) (n : Pt) : Pt := l.foldl (scan1 a) n
theorem scan_stay {L : List Pt} {a b : Pt} (h : NextIs L a b) : ∀ (l : List Pt), (∀ q ∈ l, q ∈ L) → scan a l b = b
  | [], _ => rfl
  | q :: l, hl => by
    have hq := hl q (by simp)
    have e : scan1 a b q = b := by
      unfold scan1
      split
      · rename_i c
        rcases c with ⟨_, c | c | ⟨c1, c2⟩⟩
        · exact absurd c h.ne
        · have := h.left q hq; omega
        · rcases h.far q hq c1 with e | e
          · exact e
          · omega
      · rfl
    unfold scan
    rw [List.foldl_cons, e]
    exact scan_stay h l fun q hq => hl q (List.mem_cons_of_mem _ hq)
theorem scan_to {L : List Pt} {a b : Pt} (h : NextIs L a b) : ∀ (l : List Pt) (n : Pt), (∀ q ∈ l, q ∈ L) → (n = a ∨ n ∈ L) → b ∈ l → scan a l n = b
  | q :: l, n, hl, hn, hb => by
    have hq := hl q (by simp)
    have hl' : ∀ q ∈ l, q ∈ L := fun q hq => hl q (List.mem_cons_of_mem _ hq)
    unfold scan
    rw [List.foldl_cons]
    by_cases e : q = b
    · have e1 : scan1 a n q = b := by
        subst e
        unfold scan1
        by_cases c : n = q
        · subst c; split <;> rfl
        · rw [if_pos]
          refine ⟨h.ne, ?_⟩
          rcases hn with hn | hn
          · exact .inl hn
          · right
            have k := h.left n hn
            have e2 : crs a n q = - crs a q n := by unfold crs; grind
            by_cases z : crs a q n = 0
            · right
              refine ⟨by omega, ?_⟩
              rcases h.far n hn z with z | z
              · exact absurd z c
              · exact z
            · left; omega
      rw [e1]
      exact scan_stay h l hl'
    · refine scan_to h l (scan1 a n q) hl' ?_ ?_
      · unfold scan1
        split
        · exact .inr hq
        · exact hn
      · rcases List.mem_cons.1 hb with hb | hb
        · exact absurd hb.symm e
        · exact hb
def wrapF (l : List Pt) (s : Pt) : Nat → List Pt → Pt → List Pt
  | 0, out, _ => out
  | n + 1, out, a => if scan a l a = s ∨ scan a l a = a then out else wrapF l s n (out ++ [scan a l a]) (scan a l a)
theorem Round.ahead {M : Pt} {l h : List Pt} (H : Round M l h) {i j : Nat} (e : rd h i = rd h j) : ∀ k, rd h (i + k) = rd h (j + k)
  | 0 => e
  | k + 1 => by
    have n1 := H.next (i + k)
    rw [H.ahead e k] at n1
    exact n1.one (H.next (j + k)) fun _ => Iff.rfl
theorem Round.nodup {M : Pt} {l h : List Pt} (H : Round M l h) {i j : Nat} (hij : i < j) (hj : j < h.length) : rd h i ≠ rd h j := by
  intro e
  have k := H.ahead e (h.length - j)
  have e2 : rd h (j + (h.length - j)) = rd h 0 := by
    rw [show j + (h.length - j) = 0 + h.length by omega, rd_zero_of]
  rw [e2] at k
  have := H.lt (i + (h.length - j)) (by omega) (by omega)
  rw [k] at this
  omega
theorem take_rd {h : List Pt} {i : Nat} (hi : i < h.length) : h.take (i + 1) = h.take i ++ [rd h i] := by
  unfold rd gt
  rw [Nat.mod_eq_of_lt hi, List.take_add_one, List.getD_eq_getElem?_getD, List.getElem?_eq_getElem hi]
  rfl
theorem wrapF_ok {M : Pt} {l h : List Pt} (H : Round M l h) : ∀ (n i : Nat), i < h.length → h.length ≤ i + n → wrapF l (rd h 0) n (h.take (i + 1)) (rd h i) = h := by
  intro n
  induction n with
  | zero => intro i h1 h2; omega
  | succ n ih =>
    intro i h1 h2
    have e : scan (rd h i) l (rd h i) = rd h (i + 1) := scan_to (H.next i) l _ (fun q hq => hq) (.inl rfl) (H.next i).mem
    unfold wrapF
    rw [e]
    by_cases c : i + 1 < h.length
    · rw [if_neg, ← take_rd c]
      · exact ih (i + 1) c (by omega)
      · rintro (c1 | c1)
        · have := H.lt (i + 1) (by omega) c
          rw [c1] at this; omega
        · exact (H.next i).ne c1
    · have e1 : i + 1 = 0 + h.length := by omega
      rw [e1, rd_zero_of, if_pos (.inl rfl), Nat.zero_add, List.take_length]
theorem rd_get {h : List Pt} {i : Nat} (hi : i < h.length) : rd h i = h[i] := by
  unfold rd gt
  rw [Nat.mod_eq_of_lt hi, List.getD_eq_getElem?_getD, List.getElem?_eq_getElem hi]
  rfl
theorem Round.le {M : Pt} {l h : List Pt} (H : Round M l h) : h.length ≤ l.length := by
  refine List.Nodup.length_le_of_subset ?_ ?_
  · refine List.pairwise_iff_getElem.2 fun i j hi hj hij => ?_
    rw [← rd_get hi, ← rd_get hj]
    exact H.nodup hij hj
  · intro q hq
    obtain ⟨i, hi, rfl⟩ := List.getElem_of_mem hq
    rw [← rd_get hi]
    exact H.mem i
/-- What the reference's wrapping returns, where a round is. -/
theorem wrap_round {M : Pt} {l h : List Pt} (H : Round M l h) : wrapF l (rd h 0) l.length [rd h 0] (rd h 0) = h := by
  have h1 := H.pos
  have h2 := H.le
  have := wrapF_ok H l.length 0 h1 (by omega)
  rw [take_rd h1] at this
  exact this
end Go.Proofs.Ytopmolpnmpchoaa
