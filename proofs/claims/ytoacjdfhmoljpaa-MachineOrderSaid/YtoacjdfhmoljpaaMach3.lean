/- Walks of machine.Lost and machine.Finish: each computes its plain function; nothing that lay in memory is changed. -/
import Derived.Test.YtoacjdfhmoljpaaMach2
import Derived.Test.YtoacjdfhmoljpaaMachStops
namespace Go.Proofs.Ytoacjdfhmoljpaa
open Go.RowKit

theorem lens_take_succ {J : List Sp} {k : Nat} {s : Sp} (h : J[k]? = some s) : lens (J.take (k + 1)) = lens (J.take k) + (s.b - s.a) := by
  unfold lens; rw [List.take_add_one, h]; simp
theorem lens_bd {p : Int → Bool} {lo hi : Int} {J : List Sp} (h : Stops p lo hi J) (h0 : 0 ≤ lo) (h1 : hi ≤ 1073741824) (k : Nat) : 0 ≤ lens (J.take k) ∧ lens (J.take k) ≤ (J.take k).length * 1073741824 := by
  have hs := stops_len h
  have : ∀ l : List Sp, (∀ s ∈ l, lo ≤ s.a ∧ s.a < s.b ∧ s.b ≤ hi) → 0 ≤ lens l ∧ lens l ≤ l.length * 1073741824 := by
    intro l
    induction l with
    | nil => intro _; exact ⟨Int.le_refl _, Int.le_refl _⟩
    | cons s l ih =>
      intro hl
      have h1 := hl s (by simp)
      have h2 := ih fun x hx => hl x (by simp [hx])
      have e : lens (s :: l) = (s.b - s.a) + lens l := rfl
      rw [e]; simp only [List.length_cons]; omega
  exact this _ fun s hs' => hs s (List.mem_of_mem_take hs')
theorem lens_all {l : List Dn} {m lo hi : Int} {J : List Sp} (h : Stops (isUp l m) lo hi J) : lens (J.take J.length) = down (isUp l m) lo hi := by
  rw [List.take_length]; exact lens_ok J lo h

set_option maxHeartbeats 1000000 in
theorem lost_any (A : Option Addr) (cap : Nat) (l : List Dn) (m from_ to_ : Int) (w : World) (h : DRd w w.heap.size A l) (hn : l.length ≤ 1000) :
    Calls Try.prog 16 #[.slice A l.length cap, .int .i64 m, .int .i64 from_, .int .i64 to_] w fun e w' => e = .returned (.int .i64 (lostT l m from_ to_)) ∧ Below w.heap.size w w' := by
  have H := Lib.hid h
  clear h
  have b1 := lim_bd from_
  have b2 := lim_bd to_
  unfold lostT
  go_enter Try.func16, Try.ntmps16
  go_wp2_with (first
    | (go_at_call 21; refine (limited_any _ _).mono ?_; rintro e w' ⟨rfl, rfl⟩)
    | (go_at_call 20; refine (stops_any A cap l m (lim from_) (lim to_) _ H.out hn).mono ?_; rintro e w1 ⟨⟨A1, cap1, J, hST, hJl, rfl, hrd⟩, hb1⟩; have HST := Lib.hid hST; have HR := Lib.hid hrd; clear hST hrd))
  go_loopw [9, 11, 21] (fun n _ i wr => ∃ k : Nat, k ≤ J.length ∧ i = .int .i64 k ∧ n = .int .i64 (lens (J.take k)) ∧ Below w1.heap.size w1 wr) (fun _ _ i _ => J.length - (intOf i).toNat)
  case atStart => exact ⟨0, Nat.zero_le _, rfl, rfl, Below.refl _ _⟩
  case round =>
    obtain ⟨k, hk, rfl, rfl, hb⟩ := hrel
    have hsz := hb.size
    have hbd := lens_bd HST.out b1.1 b2.2 k
    have htk : (J.take k).length ≤ k := List.length_take_le _ _
    by_cases hlt : k < J.length
    · obtain ⟨b, off, s, rfl, hB, hd, c0, c1⟩ := HR.out.at_ hb hlt
      have hs := stops_len HST.out s (List.mem_of_getElem? hd)
      have HS := Lib.hid (lens_take_succ hd)
      clear hd
      generalize lens (J.take k) = x at *
      go_wp2
      go_roundw
      case rel => exact ⟨k + 1, by omega, by go_num, int_eq HS.out.symm, hb.alloc hsz _⟩
      case measure => simp [intOf]; omega
    · have hkl : k = J.length := by omega
      subst hkl
      have HL := Lib.hid (lens_all HST.out)
      go_wp2
      go_ret
      exact ⟨ret_int HL.out, hb1.trans (hb.mono hb1.size)⟩

theorem work_take {J : List Sp} {k : Nat} {s : Sp} (h : J[k]? = some s) (at_ left : Int) : work (J.drop k) at_ left = if left ≤ s.a - at_ then at_ + left else work (J.drop (k + 1)) s.b (left - (s.a - at_)) := by
  have hk := (List.getElem?_eq_some_iff.1 h).1
  have e : J.drop k = s :: J.drop (k + 1) := by
    rw [List.drop_eq_getElem_cons hk]; rw [(List.getElem?_eq_some_iff.1 h).2]
  rw [e]; rfl

set_option maxHeartbeats 1000000 in
theorem finish_any (A : Option Addr) (cap : Nat) (l : List Dn) (m s n : Int) (w : World) (h : DRd w w.heap.size A l) (hn : l.length ≤ 1000) :
    Calls Try.prog 18 #[.slice A l.length cap, .int .i64 m, .int .i64 s, .int .i64 n] w fun e w' => e = .returned (.tuple #[.int .i64 (finT l m s n), .int .i64 (finErr l s n)]) ∧ Below w.heap.size w w' := by
  have H := Lib.hid h
  clear h
  by_cases hc : chk l = 0
  · by_cases hr : s < 0 ∨ 1073741824 < s ∨ n < 0 ∨ 1073741824 < n
    · have HE := Lib.hid (finErr_range hc hr)
      have HT := Lib.hid (finT_bad (m := m) (show finErr l s n ≠ 0 from by rw [HE.out]; omega))
      have HC := Lib.hid hc
      clear hc
      go_enter Try.func18, Try.ntmps18
      go_wp2_with fail
      ((with_reducible refine (check_any A cap l _ H.out hn).mono ?_); rintro e w1 ⟨rfl, hb1⟩)
      rw [HC.out]
      by_cases h1 : s < 0 ∨ 1073741824 < s
      · go_wp2
        all_goals
          go_ret2
          exact ⟨ret_two HT.out.symm HE.out.symm, hb1⟩
      · have h2 : 0 ≤ s := by omega
        have h3 : s ≤ 1073741824 := by omega
        clear h1
        go_wp2
        all_goals
          go_ret2
          exact ⟨ret_two HT.out.symm HE.out.symm, hb1⟩
    · have HE := Lib.hid (finErr_mk (n := n) (s := s) hc (by omega) (by omega) (by omega) (by omega))
      have HL := Lib.hid (chk_zero hc).2
      have HC := Lib.hid hc
      clear hc
      have r1 : 0 ≤ s := by omega
      have r2 : s ≤ 1073741824 := by omega
      have r3 : 0 ≤ n := by omega
      have r4 : n ≤ 1073741824 := by omega
      clear hr
      go_enter Try.func18, Try.ntmps18
      go_wp2_with fail
      ((with_reducible refine (check_any A cap l _ H.out hn).mono ?_); rintro e w1 ⟨rfl, hb1⟩)
      have hsz1 := hb1.size
      have HR1 := Lib.hid ((H.out.below hb1).more hsz1)
      rw [HC.out]
      go_wp2_with fail
      ((with_reducible refine (stops_any A cap l m s 1073741824 _ HR1.out hn).mono ?_); rintro e w2 ⟨⟨A1, cap1, J, hST, hJl, rfl, hrd⟩, hb2⟩)
      have HR := Lib.hid hrd
      have HF := Lib.hid (finT_eq HE.out (work_ok (fun t ht => up_late HL.out m t ht) J s n r3 hST))
      have HS := Lib.hid (stops_len hST)
      have hb3 : Below w.heap.size w w2 := hb1.trans (hb2.mono (by omega))
      have hsz3 := hb3.size
      clear hrd hST
      go_wp2_with fail
      go_loopw [11, 12, 14, 40] (fun t x _ i wr => ∃ (k : Nat) (u left : Int), k ≤ J.length ∧ i = .int .i64 k ∧ t = .int .i64 u ∧ x = .int .i64 left ∧ 0 ≤ u ∧ u ≤ 1073741824 ∧ 0 ≤ left ∧ left ≤ 1073741824 + k * 1073741824 ∧ work (J.drop k) u left = finT l m s n ∧ Below w2.heap.size w2 wr) (fun _ _ _ i _ => J.length - (intOf i).toNat)
      case atStart => exact ⟨0, s, n, Nat.zero_le _, rfl, rfl, rfl, r1, r2, r3, by omega, HF.out, Below.refl _ _⟩
      case round =>
        obtain ⟨k, u, left, hk, rfl, rfl, rfl, g1, g2, g3, g4, hW, hb⟩ := hrel
        have hsz := hb.size
        have HW := Lib.hid hW
        clear hW
        by_cases hlt : k < J.length
        · obtain ⟨b, off, x, rfl, hB, hd, c0, c1⟩ := HR.out.at_ hb hlt
          have hs := HS.out x (List.mem_of_getElem? hd)
          have HT := Lib.hid (work_take hd u left)
          clear hd
          by_cases hle : left ≤ x.a - u
          · have HT' : Hid (u + left = finT l m s n) := by have := HT.out; rw [if_pos hle, HW.out] at this; exact this.symm
            go_wp2
            go_ret2
            exact ⟨ret_two HT'.out HE.out.symm, hb3.trans ((hb.alloc hsz _).mono (by omega))⟩
          · have HT' : Hid (work (J.drop (k + 1)) x.b (left - (x.a - u)) = finT l m s n) := by have := HT.out; rw [if_neg hle, HW.out] at this; exact this.symm
            go_wp2
            go_roundw
            case rel => exact ⟨k + 1, x.b, _, by omega, by go_num, rfl, rfl, by omega, by omega, by omega, by omega, HT'.out, hb.alloc hsz _⟩
            case measure => simp [intOf]; omega
        · have HT' : Hid (u + left = finT l m s n) := by have := HW.out; rw [List.drop_eq_nil_of_le (by omega)] at this; exact this
          go_wp2
          go_ret2
          exact ⟨ret_two HT'.out HE.out.symm, hb3.trans (hb.mono (by omega))⟩
  · have HE := Lib.hid (finErr_chk (s := s) (n := n) hc)
    have HT := Lib.hid (finT_bad (m := m) (show finErr l s n ≠ 0 from by rw [HE.out]; exact hc))
    have hcb : (chk l != 0) = true := by simpa using hc
    clear hc
    go_enter Try.func18, Try.ntmps18
    go_wp2_with fail
    ((with_reducible refine (check_any A cap l _ H.out hn).mono ?_); rintro e w1 ⟨rfl, hb1⟩)
    go_wp2
    go_ret2
    exact ⟨ret_two HT.out.symm HE.out.symm, hb1⟩
end Go.Proofs.Ytoacjdfhmoljpaa
