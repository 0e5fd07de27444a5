/- The walk of the law MachineOrder: it returns true. -/
import Derived.Test.YtoacjdfhmoljpaaMachApp
namespace Go.Proofs.Ytoacjdfhmoljpaa
open Go.RowKit

def insOne (d : Dn) (m : Int) (x : Dn) : Bool := decide (x.m = m ∧ x.f ≤ d.f ∧ d.t ≤ x.t)
def insB (d : Dn) (l : List Dn) (m : Int) : Bool := (d.m != m) || l.any (insOne d m)
def moreOf (d : Dn) (l : List Dn) (k : Nat) : List Dn := d :: (l.drop k).reverse
theorem insB_succ {d : Dn} {l : List Dn} {m : Int} {k : Nat} {x : Dn} (h : l[k]? = some x) : insB d (l.take (k + 1)) m = (insB d (l.take k) m || insOne d m x) := by
  unfold insB; rw [List.take_add_one, h]; simp [List.any_append, Bool.or_assoc]
theorem moreOf_pred {d : Dn} {l : List Dn} {k : Nat} {x : Dn} (h : l[k]? = some x) : moreOf d l k = moreOf d l (k + 1) ++ [x] := by
  have hk := (List.getElem?_eq_some_iff.1 h).1
  unfold moreOf
  rw [List.drop_eq_getElem_cons hk, (List.getElem?_eq_some_iff.1 h).2]; simp
theorem isUp_more {d : Dn} {l : List Dn} {m : Int} (h : insB d l m = true) (t : Int) : isUp (moreOf d l 0) m t = isUp l m t := by
  unfold insB at h
  rw [Bool.eq_iff_iff, isUp_true, isUp_true]
  unfold moreOf
  constructor
  · intro hu x hx
    exact hu x (by simp [hx])
  · intro hu x hx
    rcases List.mem_cons.1 hx with rfl | hx
    · simp only [Bool.or_eq_true, bne_iff_ne, List.any_eq_true] at h
      rcases h with h | ⟨y, hy, h⟩
      · exact fun ⟨e, _⟩ => h e
      · unfold insOne at h
        have h := of_decide_eq_true h
        rintro ⟨_, h1, h2⟩
        exact hu y hy ⟨h.1, by omega, by omega⟩
    · exact hu x (by simpa using hx)
theorem more_same {d : Dn} {l : List Dn} {m : Int} (h : insB d l m = true) (hc : chk (d :: l) = 0) (s n : Int) :
    finErr (moreOf d l 0) s n = finErr l s n ∧ finT (moreOf d l 0) m s n = finT l m s n ∧ lostT (moreOf d l 0) m s n = lostT l m s n := by
  have hfun : isUp (moreOf d l 0) m = isUp l m := funext fun t => isUp_more h t
  obtain ⟨c1, c2⟩ := chk_zero hc
  have hcl := chk_tail hc
  have hcm : chk (moreOf d l 0) = 0 := by
    refine chk_mk (by unfold moreOf; simpa using c1) fun x hx => c2 x ?_
    unfold moreOf at hx; simpa using hx
  have he : finErr (moreOf d l 0) s n = finErr l s n := by unfold finErr; rw [hcm, hcl]
  refine ⟨he, ?_, by unfold lostT; rw [hfun]⟩
  by_cases h0 : finErr l s n = 0
  · have := finT_ok (m := m) (he.trans h0)
    rw [hfun] at this
    exact finT_eq h0 this
  · rw [finT_bad h0, finT_bad (by rw [he]; exact h0)]

theorem cell_three_new (w : World) (a b c : Value) (t : TypeId) : ∀ j u, [a, b, c][j]? = some u → (w.alloc (.cells #[a, b, c] t)).cell? ((⟨w.heap.size, 0, none⟩ : Addr).add j) = some u := by
  intro j u hj
  rw [add_plain]
  match j, hj with
  | 0, hj => simp at hj; subst hj; simp [go_sem]
  | 1, hj => simp at hj; subst hj; simp [go_sem]
  | 2, hj => simp at hj; subst hj; simp [go_sem]

set_option maxRecDepth 100000 in
set_option maxHeartbeats 2000000 in
theorem machineOrder_walk (A : Option Addr) (cap : Nat) (l : List Dn) (m s n : Int) (d : Dn) (w : World) (h : DRd w w.heap.size A l) (hm : l.length ≤ 9223372036854775807) (hA : A = none → cap = 0) :
    Calls Try.prog 9 #[.slice A l.length cap, .int .i64 m, .int .i64 s, .int .i64 n, .agg #[.int .i64 d.m, .int .i64 d.f, .int .i64 d.t]] w fun e w' => e = .returned (.bool true) ∧ Below w.heap.size w w' := by
  have H := Lib.hid h
  clear h
  have HA : Hid (A = none → l.length = 0 ∧ cap = 0) := fun e => ⟨H.out.none_len e, hA e⟩
  clear hA
  obtain ⟨i0, hi0, hz0, hz1, hz2⟩ := info_parts infoDown
  have HB0 : Hid (Below w.heap.size w (w.alloc (.cells #[.int .i64 d.m, .int .i64 d.f, .int .i64 d.t] 36))) := (Below.refl _ _).alloc (Nat.le_refl _) _
  by_cases hl : 19 < l.length
  · have hlb : decide ((19 : Int) < (l.length : Int)) = true := by simp; omega
    go_enter Try.func9, Try.ntmps9
    go_wp2_with fail
    ((with_reducible refine (awake_any _).mono ?_); rintro e w5 ⟨rfl, hb5⟩)
    go_wp2
    go_ret
    exact ⟨rfl, HB0.out.trans (hb5.mono (by simp))⟩
  · have hlb : decide ((19 : Int) < (l.length : Int)) = false := by simp; omega
    have hlong : l.length ≤ 1000 := by omega
    have hlong1 : (d :: l).length ≤ 1000 := by simp; omega
    have HR0 := Lib.hid (H.out.below HB0.out)
    have HBB : Hid (Below (w.heap.size + 1) (w.alloc (.cells #[.int .i64 d.m, .int .i64 d.f, .int .i64 d.t] 36)) (w.alloc (.cells #[.int .i64 d.m, .int .i64 d.f, .int .i64 d.t] 36))) := Below.refl _ _
    have HC0 : Hid ((w.alloc (.cells #[.int .i64 d.m, .int .i64 d.f, .int .i64 d.t] 36)).cell? ⟨w.heap.size, 0, none⟩ = some (.int .i64 d.m) ∧ (w.alloc (.cells #[.int .i64 d.m, .int .i64 d.f, .int .i64 d.t] 36)).cell? ⟨w.heap.size, 1, none⟩ = some (.int .i64 d.f) ∧ (w.alloc (.cells #[.int .i64 d.m, .int .i64 d.f, .int .i64 d.t] 36)).cell? ⟨w.heap.size, 2, none⟩ = some (.int .i64 d.t)) :=
      ⟨by simp [go_sem], by simp [go_sem], by simp [go_sem]⟩
    have HZ : Hid ((w.alloc (.cells #[.int .i64 d.m, .int .i64 d.f, .int .i64 d.t] 36)).heap.size = w.heap.size + 1) := by show _ = _; simp
    go_enter Try.func9, Try.ntmps9
    go_wp2_with (at_builtin; refine wpList_append_rd ?c0 (.tmp 24) (.tmp 25) 22 rfl (w.heap.size + 1) 36 i0 _ 3 24 Try.underlying22 hi0 hz0 hz1 hz2 rfl (by decide) (.slice (some ⟨w.heap.size + 1, 0, none⟩) 1 1) 1 [.int .i64 d.m, .int .i64 d.f, .int .i64 d.t] rfl ?c6 A l.length cap (dnCells l) rfl (dnCells_len l) HA.out ?c1 (dnCells_one l) ?c3 ?c4 ?c5 ?_)
    case c6 => have := own_one (w.alloc (.cells #[.int .i64 d.m, .int .i64 d.f, .int .i64 d.t] 36)) d (base := w.heap.size + 1) (by simp) 36; rw [HZ.out] at this; exact this
    case c1 => exact (HR0.out.below (((Below.refl w.heap.size _).alloc (by simp) _))).news
    case c3 => unfold maxLen; omega
    case c4 => omega
    case c5 => simp
    intro v1 w1 hown1 hg1
    obtain ⟨⟨A1, k1, rfl, hr1⟩, hb1⟩ := app_done 36 (by simp) (by have := own_one (w.alloc (.cells #[.int .i64 d.m, .int .i64 d.f, .int .i64 d.t] 36)) d (base := w.heap.size + 1) (by simp) 36; rw [HZ.out] at this; exact this) (HBB.out.alloc (by simp) _) hown1 hg1
    have HR1 := Lib.hid hr1
    have HB1 := Lib.hid hb1
    clear hown1 hg1 hr1 hb1
    go_wp2_with fail
    have hck := check_any A1 k1 (d :: l) w1 HR1.out hlong1
    rw [List.length_cons] at hck
    ((with_reducible refine hck.mono ?_); rintro e w2 ⟨rfl, hb2⟩)
    clear hck
    have HB2 := Lib.hid (HB1.out.trans (hb2.mono (by have := HB1.out.size; simpa using this)))
    clear hb2
    have hs2 : w.heap.size + 1 ≤ w2.heap.size := by have := HB2.out.size; simpa using this
    have HBW := Lib.hid (HB0.out.trans (HB2.out.mono (by omega)))
    by_cases hc : chk (d :: l) = 0
    · have HC := Lib.hid hc
      clear hc
      rw [HC.out]
      have z0 := (HB2.out.cell (p := ⟨w.heap.size, 0, none⟩) (by simp)).trans HC0.out.1
      have hs2' : w.heap.size < w2.heap.size := by omega
      go_wp2_with fail
      go_loopw [11, 12] (fun b i wr => ∃ k : Nat, k ≤ l.length ∧ i = .int .i64 k ∧ b = .bool (insB d (l.take k) m) ∧ Below (w.heap.size + 1) (w.alloc (.cells #[.int .i64 d.m, .int .i64 d.f, .int .i64 d.t] 36)) wr) (fun _ i _ => l.length - (intOf i).toNat)
      case atStart => exact ⟨0, Nat.zero_le _, rfl, by simp [insB], HB2.out⟩
      case round =>
        obtain ⟨k, hk, rfl, rfl, hb⟩ := hrel
        have hsz : w.heap.size + 1 ≤ wr.heap.size := by have := hb.size; simpa using this
        have hsz' : w.heap.size < wr.heap.size := by omega
        have hb' : Below w.heap.size w wr := HB0.out.trans (hb.mono (by omega))
        have y0 := (hb.cell (p := ⟨w.heap.size, 0, none⟩) (by simp)).trans HC0.out.1
        have y1 := (hb.cell (p := ⟨w.heap.size, 1, none⟩) (by simp)).trans HC0.out.2.1
        have y2 := (hb.cell (p := ⟨w.heap.size, 2, none⟩) (by simp)).trans HC0.out.2.2
        have HB := Lib.hid hb
        clear hb z0
        by_cases hlt : k < l.length
        · obtain ⟨b, off, x, rfl, hB, hd, c0, c1, c2⟩ := H.out.at_ hb' hlt
          have HI := Lib.hid (insB_succ (d := d) (m := m) hd)
          clear hd hb'
          generalize insB d (l.take k) m = r at *
          have hk0 : (0 : Int) ≤ (k : Int) := by omega
          have hk1 : (k : Int) < (l.length : Int) := by omega
          cases r with
          | true =>
            have HI' : Hid (insB d (l.take (k + 1)) m = true) := by have := HI.out; rw [Bool.true_or] at this; exact this
            go_wp2
            go_quiet (fail)
            go_wp2
            go_roundw
            case rel => exact ⟨k + 1, by omega, by go_num, by rw [HI'.out], below_drewN HB.out _⟩
            case measure => simp [intOf]; omega
          | false =>
            by_cases x1 : x.m = m
            · have xb1 : (x.m == m) = true := by simp [x1]
              by_cases x2 : x.f ≤ d.f
              · have xb2 : decide (x.f ≤ d.f) = true := by simp [x2]
                by_cases x3 : d.t ≤ x.t
                · have xb3 : decide (d.t ≤ x.t) = true := by simp [x3]
                  have HI' : Hid (insB d (l.take (k + 1)) m = true) := by have := HI.out; rw [show insOne d m x = true from by simp [insOne, x1, x2, x3]] at this; exact this
                  clear x1 x2 x3
                  go_wp2
                  go_quiet (fail)
                  go_wp2
                  go_roundw
                  case rel => exact ⟨k + 1, by omega, by go_num, by rw [HI'.out], below_drewN HB.out _⟩
                  case measure => simp [intOf]; omega
                · have xb3 : decide (d.t ≤ x.t) = false := by simp; omega
                  have HI' : Hid (insB d (l.take (k + 1)) m = false) := by have := HI.out; rw [show insOne d m x = false from by simp [insOne]; omega] at this; exact this
                  clear x1 x2 x3
                  go_wp2
                  go_quiet (fail)
                  go_wp2
                  go_roundw
                  case rel => exact ⟨k + 1, by omega, by go_num, by rw [HI'.out], below_drewN HB.out _⟩
                  case measure => simp [intOf]; omega
              · have xb2 : decide (x.f ≤ d.f) = false := by simp; omega
                have HI' : Hid (insB d (l.take (k + 1)) m = false) := by have := HI.out; rw [show insOne d m x = false from by simp [insOne]; omega] at this; exact this
                clear x1 x2
                go_wp2
                go_quiet (fail)
                go_wp2
                go_roundw
                case rel => exact ⟨k + 1, by omega, by go_num, by rw [HI'.out], below_drewN HB.out _⟩
                case measure => simp [intOf]; omega
            · have xb1 : (x.m == m) = false := by simp [x1]
              have HI' : Hid (insB d (l.take (k + 1)) m = false) := by have := HI.out; rw [show insOne d m x = false from by simp [insOne]; omega] at this; exact this
              clear x1
              go_wp2
              go_quiet (fail)
              go_wp2
              go_roundw
              case rel => exact ⟨k + 1, by omega, by go_num, by rw [HI'.out], below_drewN HB.out _⟩
              case measure => simp [intOf]; omega
        · have hkl : k = l.length := by omega
          subst hkl
          rw [List.take_length]
          cases hr : insB d l m with
          | false =>
            go_wp2_with fail
            ((with_reducible refine (awake_any _).mono ?_); rintro e w5 ⟨rfl, hb5⟩)
            go_wp2
            go_ret
            exact ⟨rfl, hb'.trans (hb5.mono (by omega))⟩
          | true =>
            have HS := Lib.hid (more_same hr HC.out)
            have HU := Lib.hid (isUp_more hr)
            clear hr
            have HO0 : Hid ((wr.alloc (.cells #[.int .i64 d.m, .int .i64 d.f, .int .i64 d.t] 36)).ownsRow (w.heap.size + 1) 36 3 (.slice (some ⟨wr.heap.size, 0, none⟩) 1 1) (moreOf d l l.length).length (dnCells (moreOf d l l.length))) := by
              show World.ownsRow _ _ _ _ _ _ _
              rw [show moreOf d l l.length = [d] from by simp [moreOf]]
              exact own_one wr d hsz 36
            have HBn := Lib.hid (HB.out.alloc hsz (.cells #[.int .i64 d.m, .int .i64 d.f, .int .i64 d.t] 36))
            have HRl := Lib.hid (H.out.below hb')
            clear hb'
            go_wp2_with fail
            clear y0 y1 y2
            obtain ⟨wo, rfl⟩ : ∃ wo : World, wo = wr := ⟨_, rfl⟩
            go_loopw [13, 14] (fun v i wz => ∃ k : Nat, k ≤ l.length ∧ i = .int .i64 ((k : Int) - 1) ∧ wz.ownsRow (w.heap.size + 1) 36 3 v (moreOf d l k).length (dnCells (moreOf d l k)) ∧ Below (w.heap.size + 1) (w.alloc (.cells #[.int .i64 d.m, .int .i64 d.f, .int .i64 d.t] 36)) wz) (fun _ i _ => (intOf i + 1).toNat)
            case atStart => exact ⟨l.length, Nat.le_refl _, rfl, HO0.out, HBn.out⟩
            case round =>
              obtain ⟨k, hk', rfl, hown, hb⟩ := hrel
              obtain ⟨wz, rfl⟩ : ∃ wz : World, wz = wr := ⟨_, rfl⟩
              have hzz : w.heap.size + 1 ≤ wz.heap.size := by have := hb.size; simpa using this
              have hbz : Below w.heap.size w wz := HB0.out.trans (hb.mono (by omega))
              have hml : (moreOf d l k).length ≤ 1000 := by unfold moreOf; simp; omega
              have HO := Lib.hid hown
              have HBz := Lib.hid hb
              clear hown hb
              by_cases hpos : 0 < k
              · obtain ⟨j, rfl⟩ : ∃ j, k = j + 1 := ⟨k - 1, by omega⟩
                obtain ⟨b, off, x, rfl, hB, hd, c0, c1, c2⟩ := H.out.at_ hbz (show j < l.length by omega)
                have HM := Lib.hid (moreOf_pred (d := d) hd)
                clear hd
                rw [show ((j + 1 : Nat) : Int) - 1 = (j : Int) from by omega]
                go_wp2_with (at_builtin; refine wpList_append_own _ rfl (.tmp 83) (.tmp 88) 22 rfl (w.heap.size + 1) 36 i0 _ 3 24 Try.underlying22 hi0 hz0 hz1 hz2 rfl (by decide) _ _ _ rfl (HO.out.alloc _) ⟨wz.heap.size, 0, none⟩ 1 1 [.int .i64 x.m, .int .i64 x.f, .int .i64 x.t] rfl rfl ?e1 ?e2 ?e3 ?e4 ?e5 ?_)
                case e1 => exact cell_three_new wz _ _ _ _
                case e2 => intro u hu; simp at hu; rcases hu with rfl | rfl | rfl <;> rfl
                case e3 => unfold maxLen; omega
                case e4 => omega
                case e5 => simp; omega
                intro v' w' hown' hgrow _
                have HO' : Hid (w'.ownsRow (w.heap.size + 1) 36 3 v' (moreOf d l j).length (dnCells (moreOf d l j))) := by
                  show World.ownsRow _ _ _ _ _ _ _
                  rw [HM.out, dnCells_snoc, List.length_append]; exact hown'
                have HB' : Hid (Below (w.heap.size + 1) (w.alloc (.cells #[.int .i64 d.m, .int .i64 d.f, .int .i64 d.t] 36)) w') :=
                  own_grow_below (HO.out.alloc _) (HBz.out.alloc (by omega) _) (Nat.le_refl _) (by simp; omega) hgrow
                clear hown' hgrow
                go_wp2
                go_roundw
                case rel => exact ⟨j, by omega, rfl, HO'.out, HB'.out⟩
                case measure => simp [intOf]
              · have hk0 : k = 0 := by omega
                subst hk0
                obtain ⟨A3, k3, rfl⟩ := down_slice HO.out
                have HR3 := Lib.hid (DRd.of_own HO.out)
                have HRz := Lib.hid ((H.out.below hbz).more hbz.size)
                obtain ⟨e1, e2, e3⟩ := HS.out s n
                have E1 := Lib.hid e1
                have E2 := Lib.hid e2
                have E3 := Lib.hid e3
                clear e1 e2 e3
                generalize moreOf d l 0 = M at *
                have HBa := Lib.hid hbz
                clear hbz
                go_wp2_with fail
                ((with_reducible refine (finish_any A cap l m s n _ HRz.out hlong).mono ?_); rintro e w3 ⟨rfl, hb3⟩)
                have HRa := Lib.hid ((HRz.out.below hb3).more hb3.size)
                have HR4 := Lib.hid ((HR3.out.below hb3).more hb3.size)
                have HBb := Lib.hid (HBa.out.trans (hb3.mono HBa.out.size))
                clear hb3
                go_wp2_with fail
                ((with_reducible refine (finish_any A3 k3 M m s n _ HR4.out hml).mono ?_); rintro e w4 ⟨rfl, hb4⟩)
                have HRc := Lib.hid ((HRa.out.below hb4).more hb4.size)
                have HR5 := Lib.hid ((HR4.out.below hb4).more hb4.size)
                have HBc := Lib.hid (HBb.out.trans (hb4.mono HBb.out.size))
                clear hb4
                rw [E1.out, E2.out]
                go_wp2_with fail
                ((with_reducible refine (up_any A cap l m s _ HRc.out hlong).mono ?_); rintro e w5 ⟨rfl, hb5⟩)
                have HRd := Lib.hid ((HRc.out.below hb5).more hb5.size)
                have HR6 := Lib.hid ((HR5.out.below hb5).more hb5.size)
                have HBd := Lib.hid (HBc.out.trans (hb5.mono HBc.out.size))
                clear hb5
                go_wp2_with fail
                ((with_reducible refine (up_any A3 k3 M m s _ HR6.out hml).mono ?_); rintro e w6 ⟨rfl, hb6⟩)
                have HRe := Lib.hid ((HRd.out.below hb6).more hb6.size)
                have HR7 := Lib.hid ((HR6.out.below hb6).more hb6.size)
                have HBe := Lib.hid (HBd.out.trans (hb6.mono HBd.out.size))
                clear hb6
                rw [HU.out s]
                go_wp2_with fail
                ((with_reducible refine (lost_any A cap l m s n _ HRe.out hlong).mono ?_); rintro e w7 ⟨rfl, hb7⟩)
                have HR8 := Lib.hid ((HR7.out.below hb7).more hb7.size)
                have HBf := Lib.hid (HBe.out.trans (hb7.mono HBe.out.size))
                clear hb7
                go_wp2_with fail
                ((with_reducible refine (lost_any A3 k3 M m s n _ HR8.out hml).mono ?_); rintro e w8 ⟨rfl, hb8⟩)
                have HBg := Lib.hid (HBf.out.trans (hb8.mono HBf.out.size))
                clear hb8
                rw [E3.out]
                go_wp2_with fail
                ((with_reducible refine (awake_any _).mono ?_); rintro e w9 ⟨rfl, hb9⟩)
                have HBh := Lib.hid (HBg.out.trans (hb9.mono HBg.out.size))
                clear hb9
                go_wp2
                go_ret
                exact ⟨rfl, HBh.out⟩
    · have hcb : (chk (d :: l) != 0) = true := by simpa using hc
      clear hc
      go_wp2_with fail
      ((with_reducible refine (awake_any _).mono ?_); rintro e w5 ⟨rfl, hb5⟩)
      go_wp2
      go_ret
      exact ⟨rfl, HBW.out.trans (hb5.mono (by omega))⟩
end Go.Proofs.Ytoacjdfhmoljpaa
