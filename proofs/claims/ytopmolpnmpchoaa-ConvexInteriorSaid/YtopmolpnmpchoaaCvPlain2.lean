/- Plain laws of convex hulls: the chain over a whole ascending list. No program in sight. -/
import Derived.Test.YtopmolpnmpchoaaCvPlain1
namespace Go.Proofs.Ytopmolpnmpchoaa

def Asc (M : Pt) (l : List Pt) : Prop := l.Pairwise (fun a b => lv M a < lv M b)
theorem Asc.inj {M : Pt} : ∀ {l : List Pt}, Asc M l → ∀ q ∈ l, ∀ q' ∈ l, lv M q = lv M q' → q = q'
  | [], _, q, hq, _, _, _ => by cases hq
  | a :: l, h, q, hq, q', hq', e => by
    have h1 := (List.pairwise_cons.1 h).1
    have h2 := (List.pairwise_cons.1 h).2
    rcases List.mem_cons.1 hq with e1 | hq1 <;> rcases List.mem_cons.1 hq' with e2 | hq2
    · rw [e1, e2]
    · have := h1 q' hq2; rw [e1] at e; omega
    · have := h1 q hq1; rw [e2] at e; omega
    · exact Asc.inj h2 q hq1 q' hq2 e
theorem pop_last (p : Pt) : ∀ (s : List Pt), (pop p s).getLast? = s.getLast?
  | [] => by unfold pop; rfl
  | [_] => by unfold pop; rfl
  | b :: a :: r => by
    unfold pop
    split
    · rw [pop_last p (a :: r), List.getLast?_cons_cons]
    · rfl
theorem pop_len (p : Pt) : ∀ (s : List Pt), (pop p s).length ≤ s.length
  | [] => by unfold pop; exact Nat.le_refl _
  | [_] => by unfold pop; exact Nat.le_refl _
  | b :: a :: r => by
    unfold pop
    split
    · have := pop_len p (a :: r); simp at this ⊢; omega
    · exact Nat.le_refl _
theorem chain_len (l : List Pt) : (chain l).length ≤ l.length := by
  have : ∀ (l s : List Pt), (l.foldl push s).length ≤ s.length + l.length := by
    intro l
    induction l with
    | nil => intro s; simp
    | cons p l ih =>
      intro s
      have h1 := ih (push s p)
      have h2 := pop_len p s
      have h3 : (push s p).length = (pop p s).length + 1 := rfl
      simp only [List.foldl_cons, List.length_cons]
      omega
  have h := this l []
  simp at h
  exact h
theorem pop_ne (p : Pt) (s : List Pt) (h : s ≠ []) : pop p s ≠ [] := by
  intro e
  have h1 := pop_last p s
  rw [e] at h1
  cases s with
  | nil => exact h rfl
  | cons a r => simp [List.getLast?_cons] at h1
theorem push_last (p : Pt) (s : List Pt) (h : s ≠ []) : (push s p).getLast? = s.getLast? := by
  unfold push
  have h1 := pop_ne p s h
  have h2 := pop_last p s
  cases e : pop p s with
  | nil => exact absurd e h1
  | cons a r => rw [List.getLast?_cons_cons, ← e, h2]
theorem snoc_or (l : List Pt) : l = [] ∨ ∃ l' p, l = l' ++ [p] := by
  rcases List.eq_nil_or_concat l with h | ⟨l', p, h⟩
  · exact .inl h
  · exact .inr ⟨l', p, by rw [h, List.concat_eq_append]⟩
theorem chain_ok {M : Pt} : ∀ (n : Nat) (l : List Pt), l.length = n + 1 → Asc M l → ChOk M l (chain l) ∧ (chain l).head? = l.getLast? ∧ (chain l).getLast? = l.head? := by
  intro n
  induction n with
  | zero =>
    intro l hl _
    match l, hl with
    | [a], _ =>
      refine ⟨⟨trivial, trivial, trivial, fun q hq => hq, fun b hb q hq => ?_⟩, rfl, rfl⟩
      simp [chain, push, pop] at hb hq
      subst hb; subst hq
      exact Int.le_refl _
  | succ n ih =>
    intro l hl ha
    rcases snoc_or l with rfl | ⟨l', p, rfl⟩
    · simp at hl
    · have hl' : l'.length = n + 1 := by simp at hl; exact hl
      have ha' : Asc M l' := (List.pairwise_append.1 ha).1
      have hp : ∀ q ∈ l', lv M q < lv M p := fun q hq => (List.pairwise_append.1 ha).2.2 q hq p (by simp)
      obtain ⟨h1, h2, h3⟩ := ih l' hl' ha'
      have hne : l' ≠ [] := by intro e; rw [e] at hl'; simp at hl'
      have hcn : chain l' ≠ [] := by
        intro e
        rw [e] at h3
        cases l' with
        | nil => exact hne rfl
        | cons a r => cases h3
      rw [chain_snoc]
      refine ⟨push_ok h1 hcn ?_ hp ha'.inj, ?_, ?_⟩
      · intro b hb q hq
        rw [h2] at hb
        rcases snoc_or l' with rfl | ⟨l2, c, rfl⟩
        · cases hq
        · simp at hb
          subst hb
          rcases List.mem_append.1 hq with hq | hq
          · exact Int.le_of_lt ((List.pairwise_append.1 ha').2.2 q hq c (by simp))
          · simp at hq; subst hq; exact Int.le_refl _
      · simp [push]
      · rw [push_last p _ hcn, h3]
        cases l' with
        | nil => exact absurd rfl hne
        | cons a r => rfl
end Go.Proofs.Ytopmolpnmpchoaa
