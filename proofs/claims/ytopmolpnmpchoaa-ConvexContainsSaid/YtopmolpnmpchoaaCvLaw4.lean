/- The walk of the law ConvexContains: it returns true. -/
import Derived.Test.YtopmolpnmpchoaaCvOpen
import Derived.Deep.DeepCutAuto
namespace Go.Proofs.Ytopmolpnmpchoaa
open Go.RowKit

theorem PRd.next2_ {w w' : World} {B : Nat} {A : Option Addr} {l : List Pt} (h : PRd w B A l) (hb : Below B w w') {b off k : Nat} (hA : A = some ⟨b, off, none⟩) (hk : k < l.length) :
    ∃ (j : Nat) (q : Pt), j < l.length ∧ rd l (k + 2) = q ∧ ((k : Int) + 2).tmod (l.length : Int) = (j : Int) ∧ ((k : Int) + 2) % (l.length : Int) = (j : Int) ∧ w'.cell? ⟨b, off + j * 2, none⟩ = some (.int .i64 q.x) ∧ w'.cell? ⟨b, off + j * 2 + 1, none⟩ = some (.int .i64 q.y) := by
  have hj : (k + 2) % l.length < l.length := Nat.mod_lt _ (by omega)
  obtain ⟨b', off', q, e, _, hd, c0, c1⟩ := h.at_ hb hj
  rw [hA] at e
  cases e
  refine ⟨(k + 2) % l.length, q, hj, rd_next hd, ?_, ?_, c0, c1⟩
  · rw [Int.tmod_eq_emod_of_nonneg (by omega)]; exact (Int.natCast_emod (k + 2) l.length).symm
  · exact (Int.natCast_emod (k + 2) l.length).symm
theorem mem_take_yes {l : List Pt} {t : Nat} {p : Pt} (h : p ∈ l.take t) : p ∈ l.take (t + 1) := by
  rw [List.take_add_one]; exact List.mem_append_left _ h
theorem mem_take_iff {l : List Pt} {t : Nat} {p q : Pt} (hq : l[t]? = some q) (h : ¬ p ∈ l.take t) : p ∈ l.take (t + 1) ↔ q = p := by
  rw [List.take_add_one, hq]
  constructor
  · intro hp
    rcases List.mem_append.1 hp with hp | hp
    · exact absurd hp h
    · simp at hp; exact hp.symm
  · intro e; rw [e]; exact List.mem_append_right _ (by simp)

set_option maxRecDepth 100000 in
set_option maxHeartbeats 8000000 in
theorem convexContains_walk (A : Option Addr) (cap : Nat) (l : List Pt) (w : World) (h : PSl w A cap l) (hm : l.length ≤ 9223372036854775807) :
    Calls Try.prog 7 #[.slice A l.length cap] w fun e w' => e = .returned (.bool true) ∧ Below w.heap.size w w' := by
  have H := hid h
  clear h
  by_cases hl : 60 < l.length
  · go_enter Try.func7, Try.ntmps7
    go_wp2_with fail
    ((with_reducible refine (awake_any _).mono ?_); rintro e w1 ⟨rfl, hb1⟩)
    go_wp2
    go_ret
    exact ⟨rfl, hb1⟩
  · go_enter Try.func7, Try.ntmps7
    go_wp2_with fail
    ((with_reducible refine (Hull_any A cap l _ H.out hm).mono ?_); rintro e w1 ⟨⟨A1, c1, rfl, hs1⟩, hb1⟩)
    have HB1 := hid hb1
    have HS1 := hid hs1
    have H1 := hid (H.out.keep hb1)
    clear hs1 hb1
    by_cases he : hullE l = 0
    · obtain ⟨_, hin, hve, HH⟩ := hullE_ok he
      obtain ⟨ha1, ha2⟩ := law_again he
      have HHL := HH.self
      have HLEN := hid HH.len
      have HLE := hid (hull1_len (bd_of hin))
      have HLEFT := hid HH.left
      have HTURN := hid HH.turn
      have HMEM := hid HH.mem
      have HLT := hid HH.lt
      have HINL := hid (bd_of hin)
      rw [← hve] at HLEN HLE HLEFT HTURN HMEM HLT
      have HBD := hid (bd_of (hullV_in (l := l)))
      have HAG : Hid (∀ wx, PSl wx A1 c1 (hullV l) → Calls Try.prog 12 #[.slice A1 (hullV l).length c1] wx fun e w' => (∃ A' c', e = .returned (.tuple #[.slice A' (hullV l).length c', .int .i64 0]) ∧ PSl w' A' c' (hullV l)) ∧ Below wx.heap.size wx w') := fun wx hp => by
        have h160 := (hullV_len (l := l)).2
        have := Hull_any A1 c1 (hullV l) wx hp (by omega)
        unfold HullPost at this
        rw [ha1, ha2] at this
        exact this
      rw [he]
      clear he hin hve HH ha1 ha2 HHL
      generalize hullV l = v at *
      have hv3 := HLEN.out
      have hvl := HLE.out
      go_wp2_with fail
      ((with_reducible refine (HAG.out _ HS1.out).mono ?_); rintro e w2 ⟨⟨A2, c2, rfl, hs2⟩, hb2⟩)
      have HB2 := hid (HB1.out.trans (hb2.mono HB1.out.size))
      have HS2 := hid (HS1.out.keep hb2)
      have H2 := hid (H1.out.keep hb2)
      have HT2 := hid hs2
      clear hb2 hs2 HAG
      have b1 : decide (v = v) = true := decide_eq_true rfl
      have bb1 : decide ((v.length : Int) < 3) = false := decide_eq_false (by omega)
      have bb2 : decide (l.length < v.length) = false := decide_eq_false (by omega)
      have bb3 : decide ((l.length : Int) < (v.length : Int)) = false := decide_eq_false (by omega)
      go_wp2_with fail
      ((with_reducible refine (same_any A2 A1 c2 c1 v v _ HT2.out.rd HS2.out.rd (by omega)).mono ?_); rintro e w3 ⟨rfl, hb3⟩)
      have HB3 := hid (HB2.out.trans (hb3.mono HB2.out.size))
      have HS3 := hid (HS2.out.keep hb3)
      have H3 := hid (H2.out.keep hb3)
      clear hb3
      go_wp2_with fail
      go_loopw [7, 8, 9, 10, 11] (fun i _ _ _ _ wr => ∃ k : Nat, k ≤ v.length ∧ i = .int .i64 k ∧ Hid (Below w3.heap.size w3 wr)) (fun i _ _ _ _ _ => v.length - (intOf i).toNat)
      case atStart => exact ⟨0, Nat.zero_le _, rfl, Below.refl _ _⟩
      case round =>
        obtain ⟨k, hk, rfl, HB⟩ := hrel
        by_cases hlt : k < v.length
        · obtain ⟨b, off, p, hA, hB, hd, c0, c1'⟩ := HS3.out.rd.at_ HB.out hlt
          obtain ⟨j, r, hj, hr, hm1, hm2, d0, d1⟩ := HS3.out.rd.next_ HB.out hA hlt
          have hp := rd_at hd
          have HLF : Hid (∀ q ∈ l, 0 ≤ crs p r q) := by have := HLEFT.out k; rw [hp, hr] at this; exact this
          have HPM : Hid (p ∈ l) := by have := HMEM.out k; rw [hp] at this; exact this
          have HPI := hid (HINL.out p HPM.out)
          have HRM : Hid (r ∈ l) := by have := HMEM.out (k + 1); rw [hr] at this; exact this
          have HRI := hid (HINL.out r HRM.out)
          have HTU : Hid (0 < crs p r (rd v (k + 2))) := by have := HTURN.out k; rw [hp, hr] at this; exact this
          have HSI : Hid (In 8388608 (rd v (k + 2))) := HINL.out _ (HMEM.out (k + 2))
          have HLS : Hid (0 < k → Less (rd v 0) p) := fun h0 => by
            have := HLT.out k h0 hlt
            rw [hp] at this
            exact (less_lv (HINL.out _ (HMEM.out 0)) HPI.out).2 this
          have HZI : Hid (In 8388608 (rd v 0)) := HINL.out _ (HMEM.out 0)
          subst hA
          have hn2 : ¬ b = wr.heap.size := by have := HB.out.size; omega
          have hn3 : ¬ b = wr.heap.size + 1 := by have := HB.out.size; omega
          have hn4 : b < wr.heap.size := by have := HB.out.size; omega
          have i0 : (0 : Int) ≤ (k : Int) := by omega
          have i1 : (k : Int) < (v.length : Int) := by omega
          have i2 : (0 : Int) ≤ (j : Int) := by omega
          have i3 : (j : Int) < (v.length : Int) := by omega
          have hw1 : IntKind.i64.wrap ((k : Int) + 1) = (k : Int) + 1 := by rw [IntWalk.i64_in _ (by omega)]
          have hw2 : IntKind.i64.wrap (j : Int) = (j : Int) := by rw [IntWalk.i64_in _ (by omega)]
          have n1 : ¬ v = [] := by intro e; rw [e] at hlt; simp at hlt
          have hsz := HB.out.size
          clear hd hp hr
          go_wp2_with fail
          go_cut [8, 9] (fun s8 s9 wx => ∃ b8 b9 : Nat, s8 = .pointer (some ⟨b8, 0, none⟩) ∧ s9 = .pointer (some ⟨b9, 0, none⟩) ∧ Box wx b8 p ∧ Box wx b9 r ∧ Below wr.heap.size wr wx)
          case first =>
            go_region
            all_goals
              go_wp2_with fail
              go_meet
            · exact ⟨_, _, rfl, rfl, (Box.new wr p).alloc _, by have := Box.new (wr.alloc (.cells #[.int .i64 p.x, .int .i64 p.y] 31)) r; rw [World.size_alloc] at this; exact this, (below2 wr _ _).drew⟩
            · exact ⟨_, _, rfl, rfl, by have := Box.new (wr.alloc (.cells #[.int .i64 r.x, .int .i64 r.y] 31)) p; rw [World.size_alloc] at this; exact this, (Box.new wr r).alloc _, (below2 wr _ _).drew⟩
          case rest =>
            obtain ⟨b8, b9, rfl, rfl, hx8, hx9, hbo⟩ := hcut
            obtain ⟨wo, rfl⟩ : ∃ wo : World, wo = wc := ⟨_, rfl⟩
            have HX8 := hid hx8
            have HX9 := hid hx9
            have HBO := hid (HB.out.trans (hbo.mono HB.out.size))
            have HSO := hid (HS3.out.keep HBO.out)
            have HO := hid (H3.out.keep HBO.out)
            clear hx8 hx9 hbo c0 c1' d0 d1 hm1 hm2 hw2 i2 i3 hn2 hn3
            go_wp2_with fail
            go_loopw [10, 11] (fun f i wr => ∃ t : Nat, t ≤ l.length ∧ i = .int .i64 t ∧ f = .bool (decide (p ∈ l.take t)) ∧ Hid (Below wo.heap.size wo wr)) (fun _ i _ => l.length - (intOf i).toNat)
            case atStart => exact ⟨0, Nat.zero_le _, rfl, by simp, Below.refl _ _⟩
            case round =>
              obtain ⟨t, ht, rfl, rfl, HBI⟩ := hrel
              by_cases hlt2 : t < l.length
              · obtain ⟨bq, oq, q, hAq, hBq, hdq, z0, z1⟩ := HO.out.rd.at_ HBI.out hlt2
                subst hAq
                have HGE := hid (HLF.out q (List.mem_of_getElem? hdq))
                have HQI := hid (HINL.out q (List.mem_of_getElem? hdq))
                have hx8w : b8 < wr.heap.size := by have := HBI.out.size; have := HX8.out.lt; omega
                have hx9w : b9 < wr.heap.size := by have := HBI.out.size; have := HX9.out.lt; omega
                have hbqw : bq < wr.heap.size := by have := HBI.out.size; omega
                have HX8r := hid (HX8.out.below HBI.out HX8.out.lt)
                have HX9r := hid (HX9.out.below HBI.out HX9.out.lt)
                have y0 := HX8r.out.x
                have y1 := HX8r.out.y
                have HYES : Hid (p ∈ l.take t → decide (p ∈ l.take (t + 1)) = true) := fun h => decide_eq_true (mem_take_yes h)
                have HEQ : Hid (¬ p ∈ l.take t → q = p → decide (p ∈ l.take (t + 1)) = true) := fun h e => decide_eq_true ((mem_take_iff hdq h).2 e)
                have HNEQ : Hid (¬ p ∈ l.take t → q ≠ p → decide (p ∈ l.take (t + 1)) = false) := fun h e => decide_eq_false (fun h' => e ((mem_take_iff hdq h).1 h'))
                have j0 : (0 : Int) ≤ (t : Int) := by omega
                have j1 : (t : Int) < (l.length : Int) := by omega
                have Z0 := hid z0
                have Z1 := hid z1
                clear hdq
                generalize hnf : decide (p ∈ l.take (t + 1)) = nf at *
                have HNF := hid hnf
                clear hnf
                generalize hfd : decide (p ∈ l.take t) = fd at *
                go_wp2_with fail
                go_cut [10] (fun s10 wx => s10 = .bool nf ∧ ∃ nn, wx = wr.drewN nn)
                case first =>
                  cases fd with
                  | true =>
                    obtain rfl := HYES.out (of_decide_eq_true hfd)
                    clear hfd HYES HEQ HNEQ
                    go_quiet (fail)
                    go_wp2_with fail
                    go_meet
                    exact ⟨rfl, _, rfl⟩
                  | false =>
                    have hnm := of_decide_eq_false hfd
                    rcases pt_cases q p with hE | hx | ⟨hx, hy⟩
                    · obtain rfl := HEQ.out hnm hE
                      rw [hE] at z0 z1
                      clear hfd HYES HEQ HNEQ hE hnm
                      go_quiet (fail)
                      go_wp2_with fail
                      go_meet
                      exact ⟨rfl, _, rfl⟩
                    · obtain rfl := HNEQ.out hnm (pt_ne1 hx)
                      clear hfd HYES HEQ HNEQ hnm
                      go_quiet (fail)
                      go_wp2_with fail
                      go_meet
                      exact ⟨rfl, _, rfl⟩
                    · obtain rfl := HNEQ.out hnm (pt_ne2 hy)
                      rw [hx] at z0
                      clear hfd HYES HEQ HNEQ hnm hx
                      go_quiet (fail)
                      go_wp2_with fail
                      go_meet
                      exact ⟨rfl, _, rfl⟩
                case rest =>
                  obtain ⟨rfl, nn, hwc⟩ := hcut
                  obtain ⟨w8, hw8⟩ : ∃ w8 : World, w8 = wc := ⟨_, rfl⟩
                  have HB8 : Hid (Below wr.heap.size wr w8) := by rw [hw8, hwc]; exact below_drewN (Below.refl _ _) nn
                  rw [← hw8]
                  clear hwc hw8 y0 y1 z0 z1 hfd HYES HEQ HNEQ
                  have HCR : Hid (∀ wx, Calls Try.prog 25 #[.agg #[.int .i64 p.x, .int .i64 p.y], .agg #[.int .i64 r.x, .int .i64 r.y], .agg #[.int .i64 q.x, .int .i64 q.y]] wx fun e w' => e = .returned (.int .i64 (crs p r q)) ∧ Below wx.heap.size wx w') := fun wx => refCross_any p r q wx HPI.out HRI.out HQI.out
                  have HK : Hid (∀ wx, Below w8.heap.size w8 wx → (wx.cell? ⟨b8, 0, none⟩ = some (.int .i64 p.x) ∧ wx.cell? ⟨b8, 1, none⟩ = some (.int .i64 p.y) ∧ wx.cell? ⟨b9, 0, none⟩ = some (.int .i64 r.x) ∧ wx.cell? ⟨b9, 1, none⟩ = some (.int .i64 r.y) ∧ wx.cell? ⟨bq, oq + t * 2, none⟩ = some (.int .i64 q.x) ∧ wx.cell? ⟨bq, oq + t * 2 + 1, none⟩ = some (.int .i64 q.y)) ∧ Below w8.heap.size w8 wx) := fun wx hb => by
                    have hbb := keepB HB8.out hb
                    exact ⟨⟨(HX8r.out.below hbb hx8w).x, (HX8r.out.below hbb hx8w).y, (HX9r.out.below hbb hx9w).x, (HX9r.out.below hbb hx9w).y, (hbb.cell (p := ⟨bq, _, none⟩) hbqw).trans Z0.out, (hbb.cell (p := ⟨bq, _, none⟩) hbqw).trans Z1.out⟩, hb⟩
                  go_wp2_with fail
                  go_region_held3 (fun wx => (wx.cell? ⟨b8, 0, none⟩ = some (.int .i64 p.x) ∧ wx.cell? ⟨b8, 1, none⟩ = some (.int .i64 p.y) ∧ wx.cell? ⟨b9, 0, none⟩ = some (.int .i64 r.x) ∧ wx.cell? ⟨b9, 1, none⟩ = some (.int .i64 r.y) ∧ wx.cell? ⟨bq, oq + t * 2, none⟩ = some (.int .i64 q.x) ∧ wx.cell? ⟨bq, oq + t * 2 + 1, none⟩ = some (.int .i64 q.y)) ∧ Below w8.heap.size w8 wx)
                    (first | exact HK.out _ (Below.refl _ _).drew | (go_split_ands; exact HK.out _ (keepB (by assumption) hb7)))
                    (first | (go_at_call 25; with_reducible refine (HCR.out _).mono ?_; rintro e w7 ⟨rfl, hb7⟩))
                  rename_i hSl
                  have HBZ := hid (HBI.out.trans ((keepB HB8.out hSl.2).mono HBI.out.size))
                  have hge := HGE.out
                  clear hSl hb7 HK HCR
                  generalize crs p r q = c at *
                  go_wp2_with fail
                  go_roundw
                  case rel => exact ⟨t + 1, by omega, by go_num, by rw [HNF.out], HBZ.out⟩
                  case measure => simp [intOf]; omega
              · obtain rfl : t = l.length := by omega
                have hfd : decide (p ∈ l.take l.length) = true := by rw [List.take_length]; exact decide_eq_true HPM.out
                rw [hfd]
                clear hfd hlt2 ht
                obtain ⟨j2, q2, hj2, hr2, hm3, hm4, e0, e1⟩ := HSO.out.rd.next2_ HBI.out rfl hlt
                obtain ⟨b', off', z, hAz, hBz, hdz, f0, f1⟩ := HSO.out.rd.at_ HBI.out (show 0 < v.length by omega)
                cases hAz
                have hz := rd_at hdz
                have hbw : b < wr.heap.size := by have := HBI.out.size; omega
                have hx8w : b8 < wr.heap.size := by have := HBI.out.size; have := HX8.out.lt; omega
                have hx9w : b9 < wr.heap.size := by have := HBI.out.size; have := HX9.out.lt; omega
                have HX8r := hid (HX8.out.below HBI.out HX8.out.lt)
                have HX9r := hid (HX9.out.below HBI.out HX9.out.lt)
                rw [Nat.zero_mul, Nat.add_zero] at f0 f1
                have HTC : Hid (0 < crs p r q2) := by have := HTU.out; rw [hr2] at this; exact this
                have HQ2I : Hid (In 8388608 q2) := by have := HSI.out; rw [hr2] at this; exact this
                have HLZ : Hid (0 < k → Less z p) := by have := HLS.out; rw [hz] at this; exact this
                have HCR : Hid (∀ wx, Calls Try.prog 25 #[.agg #[.int .i64 p.x, .int .i64 p.y], .agg #[.int .i64 r.x, .int .i64 r.y], .agg #[.int .i64 q2.x, .int .i64 q2.y]] wx fun e w' => e = .returned (.int .i64 (crs p r q2)) ∧ Below wx.heap.size wx w') := fun wx => refCross_any p r q2 wx HPI.out HRI.out HQ2I.out
                have htc := HTC.out
                clear HTC
                generalize crs p r q2 = c at *
                have cb : decide (c ≤ 0) = false := decide_eq_false (by omega)
                have k0 : (0 : Int) ≤ (k : Int) := by omega
                have i2 : (0 : Int) ≤ (j2 : Int) := by omega
                have i3 : (j2 : Int) < (v.length : Int) := by omega
                have i5 : (0 : Int) < (v.length : Int) := by omega
                have i6 : 0 < v.length := by omega
                have hw3 : IntKind.i64.wrap ((k : Int) + 2) = (k : Int) + 2 := by rw [IntWalk.i64_in _ (by omega)]
                have hw4 : IntKind.i64.wrap (j2 : Int) = (j2 : Int) := by rw [IntWalk.i64_in _ (by omega)]
                have E0 := hid e0
                have E1 := hid e1
                have F0 := hid f0
                have F1 := hid f1
                have HK : Hid (∀ wx, Below wr.heap.size wr wx → (wx.cell? ⟨b8, 0, none⟩ = some (.int .i64 p.x) ∧ wx.cell? ⟨b8, 1, none⟩ = some (.int .i64 p.y) ∧ wx.cell? ⟨b9, 0, none⟩ = some (.int .i64 r.x) ∧ wx.cell? ⟨b9, 1, none⟩ = some (.int .i64 r.y) ∧ wx.cell? ⟨b, off + j2 * 2, none⟩ = some (.int .i64 q2.x) ∧ wx.cell? ⟨b, off + j2 * 2 + 1, none⟩ = some (.int .i64 q2.y) ∧ wx.cell? ⟨b, off, none⟩ = some (.int .i64 z.x) ∧ wx.cell? ⟨b, off + 1, none⟩ = some (.int .i64 z.y)) ∧ Below wr.heap.size wr wx) := fun wx hb =>
                  ⟨⟨(HX8r.out.below hb hx8w).x, (HX8r.out.below hb hx8w).y, (HX9r.out.below hb hx9w).x, (HX9r.out.below hb hx9w).y, (hb.cell (p := ⟨b, _, none⟩) hbw).trans E0.out, (hb.cell (p := ⟨b, _, none⟩) hbw).trans E1.out, (hb.cell (p := ⟨b, _, none⟩) hbw).trans F0.out, (hb.cell (p := ⟨b, _, none⟩) hbw).trans F1.out⟩, hb⟩
                clear e0 e1 f0 f1 hr2 hdz hz
                by_cases hk0 : k = 0
                · have kb1 : decide ((0 : Int) < (k : Int)) = false := decide_eq_false (by omega)
                  have kb2 : decide (0 < k) = false := decide_eq_false (by omega)
                  have kb3 : ¬ 0 < k := by omega
                  have kb4 : ¬ (0 : Int) < (k : Int) := by omega
                  clear hk0
                  go_wp2_with fail
                  refine wp_region_held_drew (S := (fun wx => (wx.cell? ⟨b8, 0, none⟩ = some (.int .i64 p.x) ∧ wx.cell? ⟨b8, 1, none⟩ = some (.int .i64 p.y) ∧ wx.cell? ⟨b9, 0, none⟩ = some (.int .i64 r.x) ∧ wx.cell? ⟨b9, 1, none⟩ = some (.int .i64 r.y) ∧ wx.cell? ⟨b, off + j2 * 2, none⟩ = some (.int .i64 q2.x) ∧ wx.cell? ⟨b, off + j2 * 2 + 1, none⟩ = some (.int .i64 q2.y) ∧ wx.cell? ⟨b, off, none⟩ = some (.int .i64 z.x) ∧ wx.cell? ⟨b, off + 1, none⟩ = some (.int .i64 z.y)) ∧ Below wr.heap.size wr wx)) (by kernel_rfl) ?_ (fun hHeld => ?_)
                  · (first | exact HK.out _ (Below.refl _ _).drew | (go_split_ands; exact HK.out _ (keepB (by assumption) hb7)))
                  refine wpAnyH_take (i := 0) (oi := { dst := _, op := _, type := _, pos := _, after := _, guard := _ }) (v := ?_) rfl (by kernel_rfl) (by kernel_rfl) (by kernel_rfl) (fun _ _ _ h => h) (Or.inl ⟨by rfl, ?_⟩) (by assumption) ?_
                  rotate_left
                  · (intro w hSw; (try dsimp only at hSw); go_simp; try (with_reducible rfl))
                  try simp only [Act.put, List.setIfInBounds_toArray, List.set_cons_zero, List.set_cons_succ]
                  refine wpAnyH_take (i := 1) (oi := { dst := _, op := _, type := _, pos := _, after := _, guard := _ }) (v := ?_) rfl (by kernel_rfl) (by kernel_rfl) (by kernel_rfl) (fun _ _ _ h => h) (Or.inl ⟨by rfl, ?_⟩) (by assumption) ?_
                  rotate_left
                  · (intro w hSw; (try dsimp only at hSw); go_simp; try (with_reducible rfl))
                  try simp only [Act.put, List.setIfInBounds_toArray, List.set_cons_zero, List.set_cons_succ]
                  refine wpAnyH_take (i := 2) (oi := { dst := _, op := _, type := _, pos := _, after := _, guard := _ }) (v := ?_) rfl (by kernel_rfl) (by kernel_rfl) (by kernel_rfl) (fun _ _ _ h => h) (Or.inl ⟨by rfl, ?_⟩) (by assumption) ?_
                  rotate_left
                  · (intro w hSw; (try dsimp only at hSw); go_simp; try (with_reducible rfl))
                  try simp only [Act.put, List.setIfInBounds_toArray, List.set_cons_zero, List.set_cons_succ]
                  refine wpAnyH_take (i := 3) (oi := { dst := _, op := _, type := _, pos := _, after := _, guard := _ }) (v := ?_) rfl (by kernel_rfl) (by kernel_rfl) (by kernel_rfl) (fun _ _ _ h => h) (Or.inl ⟨by rfl, ?_⟩) (by assumption) ?_
                  rotate_left
                  · (intro w hSw; (try dsimp only at hSw); go_simp; try (with_reducible rfl))
                  try simp only [Act.put, List.setIfInBounds_toArray, List.set_cons_zero, List.set_cons_succ]
                  refine wpAnyH_take (i := 4) (oi := { dst := _, op := _, type := _, pos := _, after := _, guard := _ }) (v := ?_) rfl (by kernel_rfl) (by kernel_rfl) (by kernel_rfl) (fun _ _ _ h => h) (Or.inl ⟨by rfl, ?_⟩) (by assumption) ?_
                  rotate_left
                  · (intro w hSw; (try dsimp only at hSw); go_simp; try (with_reducible rfl))
                  try simp only [Act.put, List.setIfInBounds_toArray, List.set_cons_zero, List.set_cons_succ]
                  refine wpAnyH_take (i := 5) (oi := { dst := _, op := _, type := _, pos := _, after := _, guard := _ }) (v := ?_) rfl (by kernel_rfl) (by kernel_rfl) (by kernel_rfl) (fun _ _ _ h => h) (Or.inl ⟨by rfl, ?_⟩) (by assumption) ?_
                  rotate_left
                  · (intro w hSw; (try dsimp only at hSw); go_simp; try (with_reducible rfl))
                  try simp only [Act.put, List.setIfInBounds_toArray, List.set_cons_zero, List.set_cons_succ]
                  refine wpAnyH_take (i := 6) (oi := { dst := _, op := _, type := _, pos := _, after := _, guard := _ }) (v := ?_) rfl (by kernel_rfl) (by kernel_rfl) (by kernel_rfl) (fun _ _ _ h => h) (Or.inl ⟨by rfl, ?_⟩) (by assumption) ?_
                  rotate_left
                  · (intro w hSw; (try dsimp only at hSw); go_simp; try (with_reducible rfl))
                  try simp only [Act.put, List.setIfInBounds_toArray, List.set_cons_zero, List.set_cons_succ]
                  refine wpAnyH_take (i := 7) (oi := { dst := _, op := _, type := _, pos := _, after := _, guard := _ }) (v := ?_) rfl (by kernel_rfl) (by kernel_rfl) (by kernel_rfl) (fun _ _ _ h => h) (Or.inl ⟨by rfl, ?_⟩) (by assumption) ?_
                  rotate_left
                  · (intro w hSw; (try dsimp only at hSw); go_simp; try (with_reducible rfl))
                  try simp only [Act.put, List.setIfInBounds_toArray, List.set_cons_zero, List.set_cons_succ]
                  refine wpAnyH_take (i := 8) (oi := { dst := _, op := _, type := _, pos := _, after := _, guard := _ }) (v := ?_) rfl (by kernel_rfl) (by kernel_rfl) (by kernel_rfl) (fun _ _ _ h => h) (Or.inl ⟨by rfl, ?_⟩) (by assumption) ?_
                  rotate_left
                  · (intro w hSw; (try dsimp only at hSw); go_simp; try (with_reducible rfl))
                  try simp only [Act.put, List.setIfInBounds_toArray, List.set_cons_zero, List.set_cons_succ]
                  refine wpAnyH_take (i := 9) (oi := { dst := _, op := _, type := _, pos := _, after := _, guard := _ }) (v := ?_) rfl (by kernel_rfl) (by kernel_rfl) (by kernel_rfl) (fun _ _ _ h => h) (Or.inl ⟨by rfl, ?_⟩) (by assumption) ?_
                  rotate_left
                  · (intro w hSw; (try dsimp only at hSw); go_simp; try (with_reducible rfl))
                  try simp only [Act.put, List.setIfInBounds_toArray, List.set_cons_zero, List.set_cons_succ]
                  refine wpAnyH_take (i := 10) (oi := { dst := _, op := _, type := _, pos := _, after := _, guard := _ }) (v := ?_) rfl (by kernel_rfl) (by kernel_rfl) (by kernel_rfl) (fun _ _ _ h => h) (Or.inl ⟨by rfl, ?_⟩) (by assumption) ?_
                  rotate_left
                  · (intro w hSw; (try dsimp only at hSw); go_simp; try (with_reducible rfl))
                  try simp only [Act.put, List.setIfInBounds_toArray, List.set_cons_zero, List.set_cons_succ]
                  refine wpAnyH_take (i := 11) (oi := { dst := _, op := _, type := _, pos := _, after := _, guard := _ }) (v := ?_) rfl (by kernel_rfl) (by kernel_rfl) (by kernel_rfl) (fun _ _ _ h => h) (Or.inl ⟨by rfl, ?_⟩) (by assumption) ?_
                  rotate_left
                  · (intro w hSw; (try dsimp only at hSw); go_simp; try (with_reducible rfl))
                  try simp only [Act.put, List.setIfInBounds_toArray, List.set_cons_zero, List.set_cons_succ]
                  refine wpAnyH_take (i := 12) (oi := { dst := _, op := _, type := _, pos := _, after := _, guard := _ }) (v := ?_) rfl (by kernel_rfl) (by kernel_rfl) (by kernel_rfl) (fun _ _ _ h => h) (Or.inl ⟨by rfl, ?_⟩) (by assumption) ?_
                  rotate_left
                  · (intro w hSw; (try dsimp only at hSw); go_simp; try (with_reducible rfl))
                  try simp only [Act.put, List.setIfInBounds_toArray, List.set_cons_zero, List.set_cons_succ]
                  refine wpAnyH_ready (rs := [13]) (by kernel_rfl) (by simp) ?_
                  refine AllReadyH.cons (o := { dst := _, op := _, type := _, pos := _, after := _, guard := _ }) rfl (fun K hK => ?_) AllReadyH.nil
                  go_simp
                  (go_at_call 25; with_reducible refine (HCR.out _).mono ?_; rintro e w7 ⟨rfl, hb7⟩)
                  go_wp2_with fail
                  refine hK.out _ _ ?_ (fun hHeld => ?_)
                  · (first | exact HK.out _ (Below.refl _ _).drew | (go_split_ands; exact HK.out _ (keepB (by assumption) hb7)))
                  clear hK K
                  try simp only [Act.put, List.setIfInBounds_toArray, List.set_cons_zero, List.set_cons_succ]
                  refine wpAnyH_take (i := 14) (oi := { dst := _, op := _, type := _, pos := _, after := _, guard := _ }) (v := ?_) rfl (by kernel_rfl) (by kernel_rfl) (by kernel_rfl) (fun _ _ _ h => h) (Or.inl ⟨by rfl, ?_⟩) (by assumption) ?_
                  rotate_left
                  · (intro w hSw; (try dsimp only at hSw); go_simp; try (with_reducible rfl))
                  try simp only [Act.put, List.setIfInBounds_toArray, List.set_cons_zero, List.set_cons_succ]
                  refine wpAnyH_take (i := 15) (oi := { dst := _, op := _, type := _, pos := _, after := _, guard := _ }) (v := ?_) rfl (by kernel_rfl) (by kernel_rfl) (by kernel_rfl) (fun _ _ _ h => h) (Or.inl ⟨by rfl, ?_⟩) (by assumption) ?_
                  rotate_left
                  · (intro w hSw; (try dsimp only at hSw); go_simp; try (with_reducible rfl))
                  try simp only [Act.put, List.setIfInBounds_toArray, List.set_cons_zero, List.set_cons_succ]
                  refine wpAnyH_take (i := 16) (oi := { dst := _, op := _, type := _, pos := _, after := _, guard := _ }) (v := ?_) rfl (by kernel_rfl) (by kernel_rfl) (by kernel_rfl) (fun _ _ _ h => h) (Or.inl ⟨by rfl, ?_⟩) (by assumption) ?_
                  rotate_left
                  · (intro w hSw; (try dsimp only at hSw); go_simp; try (with_reducible rfl))
                  try simp only [Act.put, List.setIfInBounds_toArray, List.set_cons_zero, List.set_cons_succ]
                  refine wpAnyH_take (i := 17) (oi := { dst := _, op := _, type := _, pos := _, after := _, guard := _ }) (v := ?_) rfl (by kernel_rfl) (by kernel_rfl) (by kernel_rfl) (fun _ _ _ h => h) (Or.inl ⟨by rfl, ?_⟩) (by assumption) ?_
                  rotate_left
                  · (intro w hSw; (try dsimp only at hSw); go_simp; try (with_reducible rfl))
                  try simp only [Act.put, List.setIfInBounds_toArray, List.set_cons_zero, List.set_cons_succ]
                  refine wpAnyH_take (i := 18) (oi := { dst := _, op := _, type := _, pos := _, after := _, guard := _ }) (v := ?_) rfl (by kernel_rfl) (by kernel_rfl) (by kernel_rfl) (fun _ _ _ h => h) (Or.inl ⟨by rfl, ?_⟩) (by assumption) ?_
                  rotate_left
                  · (intro w hSw; (try dsimp only at hSw); go_simp; try (with_reducible rfl))
                  try simp only [Act.put, List.setIfInBounds_toArray, List.set_cons_zero, List.set_cons_succ]
                  refine wpAnyH_take (i := 19) (oi := { dst := _, op := _, type := _, pos := _, after := _, guard := _ }) (v := ?_) rfl (by kernel_rfl) (by kernel_rfl) (by kernel_rfl) (fun _ _ _ h => h) (Or.inl ⟨by rfl, ?_⟩) (by assumption) ?_
                  rotate_left
                  · (intro w hSw; (try dsimp only at hSw); go_simp; try (with_reducible rfl))
                  try simp only [Act.put, List.setIfInBounds_toArray, List.set_cons_zero, List.set_cons_succ]
                  refine wpAnyH_take (i := 20) (oi := { dst := _, op := _, type := _, pos := _, after := _, guard := _ }) rfl (by kernel_rfl) (by kernel_rfl) (by kernel_rfl) (fun _ _ _ h => h) (Or.inr ⟨by rfl, rfl⟩) (by assumption) ?_
                  try simp only [Act.put, List.setIfInBounds_toArray, List.set_cons_zero, List.set_cons_succ]
                  refine wpAnyH_take (i := 21) (oi := { dst := _, op := _, type := _, pos := _, after := _, guard := _ }) rfl (by kernel_rfl) (by kernel_rfl) (by kernel_rfl) (fun _ _ _ h => h) (Or.inr ⟨by rfl, rfl⟩) (by assumption) ?_
                  try simp only [Act.put, List.setIfInBounds_toArray, List.set_cons_zero, List.set_cons_succ]
                  refine wpAnyH_take (i := 22) (oi := { dst := _, op := _, type := _, pos := _, after := _, guard := _ }) rfl (by kernel_rfl) (by kernel_rfl) (by kernel_rfl) (fun _ _ _ h => h) (Or.inr ⟨by rfl, rfl⟩) (by assumption) ?_
                  try simp only [Act.put, List.setIfInBounds_toArray, List.set_cons_zero, List.set_cons_succ]
                  refine wpAnyH_take (i := 23) (oi := { dst := _, op := _, type := _, pos := _, after := _, guard := _ }) rfl (by kernel_rfl) (by kernel_rfl) (by kernel_rfl) (fun _ _ _ h => h) (Or.inr ⟨by rfl, rfl⟩) (by assumption) ?_
                  try simp only [Act.put, List.setIfInBounds_toArray, List.set_cons_zero, List.set_cons_succ]
                  refine wpAnyH_take (i := 24) (oi := { dst := _, op := _, type := _, pos := _, after := _, guard := _ }) rfl (by kernel_rfl) (by kernel_rfl) (by kernel_rfl) (fun _ _ _ h => h) (Or.inr ⟨by rfl, rfl⟩) (by assumption) ?_
                  try simp only [Act.put, List.setIfInBounds_toArray, List.set_cons_zero, List.set_cons_succ]
                  refine wpAnyH_take (i := 25) (oi := { dst := _, op := _, type := _, pos := _, after := _, guard := _ }) rfl (by kernel_rfl) (by kernel_rfl) (by kernel_rfl) (fun _ _ _ h => h) (Or.inr ⟨by rfl, rfl⟩) (by assumption) ?_
                  try simp only [Act.put, List.setIfInBounds_toArray, List.set_cons_zero, List.set_cons_succ]
                  refine wpAnyH_take (i := 26) (oi := { dst := _, op := _, type := _, pos := _, after := _, guard := _ }) (v := ?_) rfl (by kernel_rfl) (by kernel_rfl) (by kernel_rfl) (fun _ _ _ h => h) (Or.inl ⟨by rfl, ?_⟩) (by assumption) ?_
                  rotate_left
                  · (intro w hSw; (try dsimp only at hSw); go_simp; try (with_reducible rfl))
                  try simp only [Act.put, List.setIfInBounds_toArray, List.set_cons_zero, List.set_cons_succ]
                  refine wpAnyH_take (i := 27) (oi := { dst := _, op := _, type := _, pos := _, after := _, guard := _ }) (v := ?_) rfl (by kernel_rfl) (by kernel_rfl) (by kernel_rfl) (fun _ _ _ h => h) (Or.inl ⟨by rfl, ?_⟩) (by assumption) ?_
                  rotate_left
                  · (intro w hSw; (try dsimp only at hSw); go_simp; try (with_reducible rfl))
                  try simp only [Act.put, List.setIfInBounds_toArray, List.set_cons_zero, List.set_cons_succ]
                  refine wpAnyH_done (by kernel_rfl) ?_ _
                  have hSl := hHeld
                  have HBZ := hid (HBO.out.trans ((HBI.out.trans (hSl.2.mono HBI.out.size)).mono HBO.out.size))
                  clear hSl hb7 HK HCR
                  go_wp2_with fail
                  go_roundw
                  case rel => exact ⟨k + 1, by omega, by go_num, HBZ.out⟩
                  case measure => simp [intOf]; omega
                · have kp : (0 : Int) < (k : Int) := by omega
                  have kb1 : decide ((0 : Int) < (k : Int)) = true := decide_eq_true (by omega)
                  have kb2 : decide (0 < k) = true := decide_eq_true (by omega)
                  have kb3 : 0 < k := by omega
                  have HLC : Hid (∀ wx, Calls Try.prog 26 #[.agg #[.int .i64 z.x, .int .i64 z.y], .agg #[.int .i64 p.x, .int .i64 p.y]] wx fun e w' => e = .returned (.bool true) ∧ Below wx.heap.size wx w') := fun wx => by
                    have := less_any z p wx
                    rw [decide_eq_true (HLZ.out (by omega))] at this
                    exact this
                  go_wp2_with fail
                  go_region_held3 (fun wx => (wx.cell? ⟨b8, 0, none⟩ = some (.int .i64 p.x) ∧ wx.cell? ⟨b8, 1, none⟩ = some (.int .i64 p.y) ∧ wx.cell? ⟨b9, 0, none⟩ = some (.int .i64 r.x) ∧ wx.cell? ⟨b9, 1, none⟩ = some (.int .i64 r.y) ∧ wx.cell? ⟨b, off + j2 * 2, none⟩ = some (.int .i64 q2.x) ∧ wx.cell? ⟨b, off + j2 * 2 + 1, none⟩ = some (.int .i64 q2.y) ∧ wx.cell? ⟨b, off, none⟩ = some (.int .i64 z.x) ∧ wx.cell? ⟨b, off + 1, none⟩ = some (.int .i64 z.y)) ∧ Below wr.heap.size wr wx)
                    (first | exact HK.out _ (Below.refl _ _).drew | (go_split_ands; first | exact HK.out _ (keepB (by assumption) hb7) | exact HK.out _ (keepB (by assumption) hb6)))
                    (first | (go_at_call 25; with_reducible refine (HCR.out _).mono ?_; rintro e w7 ⟨rfl, hb7⟩) | (go_at_call 26; with_reducible refine (HLC.out _).mono ?_; rintro e w6 ⟨rfl, hb6⟩))
                  rename_i hSl
                  have HBZ := hid (HBO.out.trans ((HBI.out.trans (hSl.2.mono HBI.out.size)).mono HBO.out.size))
                  clear hSl HK HCR HLC
                  go_wp2_with fail
                  go_roundw
                  case rel => exact ⟨k + 1, by omega, by go_num, HBZ.out⟩
                  case measure => simp [intOf]; omega
        · go_wp2_with fail
          ((with_reducible refine (awake_any _).mono ?_); rintro e w4 ⟨rfl, hb4⟩)
          have HBq := hid (HB3.out.trans (HB.out.mono HB3.out.size))
          go_wp2
          go_ret
          exact ⟨rfl, HBq.out.trans (hb4.mono HBq.out.size)⟩
    · have hv := hullV_no he
      rw [hv]
      have heb : (hullE l == 0) = false := by simp [he]
      clear he
      generalize hullE l = er at *
      go_wp2_with fail
      ((with_reducible refine (awake_any _).mono ?_); rintro e w2 ⟨rfl, hb2⟩)
      go_wp2
      go_ret
      exact ⟨rfl, HB1.out.trans (hb2.mono HB1.out.size)⟩
end Go.Proofs.Ytopmolpnmpchoaa
