/- Slices of tasks; flow.finish and flow.Simulate: the walks. -/
import Derived.Test.YtelgkangojmhdaaG7
import Derived.Test.YtelgkangojmhdaaFlowSort
import Derived.Test.YtelgkangojmhdaaG6
import Derived.Deep.RegionHeld3
import Derived.Deep.RegionWith
import Derived.Deep.DeepCutAuto
import Derived.Deep.CutBlock
import Derived.RegionTactic
import Derived.Outline
import Derived.Handy
namespace Go.Proofs.Ytelgkangojmhdaa
open Go.RowKit

def encTk (t : Tsk) : List Value := [.int .i64 t.tk, .int .i64 t.op, .int .i64 t.st, .int .i64 t.a, .int .i64 t.b]
def tkCells (l : List Tsk) : List Value := l.flatMap encTk
theorem tkCells_cons (l : List Tsk) (x : Tsk) : tkCells (x :: l) = encTk x ++ tkCells l := rfl
theorem tkCells_snoc (l : List Tsk) (x : Tsk) : tkCells (l ++ [x]) = tkCells l ++ encTk x := by simp [tkCells]
theorem tkCells_len (l : List Tsk) : (tkCells l).length = l.length * 5 := by
  induction l with
  | nil => rfl
  | cons s l ih => rw [tkCells_cons, List.length_append, ih]; simp [encTk]; omega
theorem tkCells_at (l : List Tsk) : ∀ (i : Nat) (x : Tsk) (j : Nat), l[i]? = some x → j < 5 → (tkCells l)[i * 5 + j]? = (encTk x)[j]? := by
  induction l with
  | nil => intro i x j h; simp at h
  | cons y l ih =>
    intro i x j h hj
    rw [tkCells_cons]
    cases i with
    | zero =>
      simp at h; subst h
      rw [Nat.zero_mul, Nat.zero_add, List.getElem?_append_left (by simp [encTk]; omega)]
    | succ i =>
      rw [List.getElem?_append_right (by simp [encTk]; omega)]
      have := ih i x j (by simpa using h) hj
      rw [← this]
      congr 1
      simp [encTk]
      omega
/-- One task at offset p of block b. -/
def TkAt (w : World) (b p : Nat) (x : Tsk) : Prop :=
  w.cell? ⟨b, p, none⟩ = some (.int .i64 x.tk) ∧ w.cell? ⟨b, p + 1, none⟩ = some (.int .i64 x.op) ∧ w.cell? ⟨b, p + 2, none⟩ = some (.int .i64 x.st) ∧
  w.cell? ⟨b, p + 3, none⟩ = some (.int .i64 x.a) ∧ w.cell? ⟨b, p + 4, none⟩ = some (.int .i64 x.b)
/-- The slice at A reads as the tasks l; it lies below block B. -/
def TRd (w : World) (B : Nat) (A : Option Addr) (l : List Tsk) : Prop :=
  l ≠ [] → ∃ b off, A = some ⟨b, off, none⟩ ∧ b < B ∧ ∀ i x, l[i]? = some x → TkAt w b (off + i * 5) x
theorem TkAt.below {w w' : World} {B b p : Nat} {x : Tsk} (h : TkAt w b p x) (hb : Below B w w') (hB : b < B) : TkAt w' b p x := by
  obtain ⟨h0, h1, h2, h3, h4⟩ := h
  exact ⟨(hb.cell (p := ⟨b, _, none⟩) hB).trans h0, (hb.cell (p := ⟨b, _, none⟩) hB).trans h1, (hb.cell (p := ⟨b, _, none⟩) hB).trans h2,
    (hb.cell (p := ⟨b, _, none⟩) hB).trans h3, (hb.cell (p := ⟨b, _, none⟩) hB).trans h4⟩
theorem TRd.below {w w' : World} {B : Nat} {A : Option Addr} {l : List Tsk} (h : TRd w B A l) (hb : Below B w w') : TRd w' B A l := by
  intro hl
  obtain ⟨b, off, e, hB, hc⟩ := h hl
  exact ⟨b, off, e, hB, fun i x hx => (hc i x hx).below hb hB⟩
theorem TRd.more {w : World} {B B' : Nat} {A : Option Addr} {l : List Tsk} (h : TRd w B A l) (hB : B ≤ B') : TRd w B' A l := by
  intro hl
  obtain ⟨b, off, e, hb, hc⟩ := h hl
  exact ⟨b, off, e, by omega, hc⟩
theorem TRd.go {w w' : World} {A : Option Addr} {l : List Tsk} (h : TRd w w.heap.size A l) (hb : Below w.heap.size w w') : TRd w' w'.heap.size A l := (h.below hb).more hb.size
theorem TRd.at_ {w w' : World} {B : Nat} {A : Option Addr} {l : List Tsk} (h : TRd w B A l) (hb : Below B w w') {k : Nat} (hk : k < l.length) :
    ∃ b off x, A = some ⟨b, off, none⟩ ∧ b < B ∧ l[k]? = some x ∧ TkAt w' b (off + k * 5) x := by
  obtain ⟨b, off, e, hB, hc⟩ := (h.below hb) (by intro e; subst e; simp at hk)
  have hd : l[k]? = some l[k] := List.getElem?_eq_getElem hk
  exact ⟨b, off, l[k], e, hB, hd, hc k _ hd⟩
theorem TRd.of_own {w : World} {base e : Nat} {l : List Tsk} {A : Option Addr} {n c : Nat} (h : w.ownsRow base e 5 (.slice A n c) l.length (tkCells l)) : TRd w w.heap.size A l := by
  intro hl
  obtain ⟨g, cap, hv, _, hlt⟩ := h.form (List.length_pos_iff.2 hl)
  have hA : A = some ⟨g, 0, none⟩ := by injection hv
  subst hA
  have hc : ∀ j u, (tkCells l)[j]? = some u → w.cell? ((⟨g, 0, none⟩ : Addr).add j) = some u := h.cells (g := g) rfl
  refine ⟨g, 0, rfl, hlt, fun i x hx => ?_⟩
  have key : ∀ j v, j < 5 → (encTk x)[j]? = some v → w.cell? ⟨g, 0 + i * 5 + j, none⟩ = some v := by
    intro j v hj hv
    have := hc (i * 5 + j) v (by rw [tkCells_at l i x j hx hj]; exact hv)
    rw [add_plain] at this
    rw [show 0 + i * 5 + j = 0 + (i * 5 + j) from by omega]; exact this
  exact ⟨key 0 _ (by omega) rfl, key 1 _ (by omega) rfl, key 2 _ (by omega) rfl, key 3 _ (by omega) rfl, key 4 _ (by omega) rfl⟩
theorem infoTk : (Try.prog.info? 39).map (fun i => (i.zero, i.size, i.bytes)) = some (some (.agg #[.int .i64 0, .int .i64 0, .int .i64 0, .int .i64 0, .int .i64 0]), 5, 40) := by kernel_rfl

set_option maxRecDepth 100000 in
set_option maxHeartbeats 1000000 in
theorem flowFinish_any (nm : ByteArray) (mach mins : Int) (va vu : Value) (b : Bn) (D : Option Addr) (capD : Nat) (ds : List M.Dn) (s : Int) (w : World) (hm0 : 1 ≤ mins) (hm1 : mins ≤ 10000) (hp0 : 1 ≤ b.tp - b.fr) (hp1 : b.tp - b.fr ≤ 40) (hD : M.DRd w w.heap.size D ds) (hdl : ds.length ≤ 1000) :
    Calls Try.prog 51 #[.agg #[.string nm, .int .i64 mach, .int .i64 mins, va, vu], .agg #[.int .i64 b.tk, .int .i64 b.gm, .int .i64 b.sz, .int .i64 b.lot, .int .i64 b.fr, .int .i64 b.tp], .slice D ds.length capD, .int .i64 s] w
      fun e w' => e = .returned (.tuple #[.int .i64 (M.finT ds mach s (mins * (b.tp - b.fr))), .int .i64 (M.finErr ds s (mins * (b.tp - b.fr)))]) ∧ Below w.heap.size w w' := by
  have HD := Lib.hid hD
  clear hD
  have hq0 : 0 ≤ mins * (b.tp - b.fr) := Int.mul_nonneg (by omega) (by omega)
  have hq1 : mins * (b.tp - b.fr) ≤ 400000 := by
    have := Int.mul_le_mul hm1 hp1 (by omega) (by omega)
    omega
  have HB2 := Lib.hid ((below_new w (.cells #[.string nm, .int .i64 mach, .int .i64 mins, va, vu] 46)).alloc (by simp) (.cells #[.int .i64 b.tk, .int .i64 b.gm, .int .i64 b.sz, .int .i64 b.lot, .int .i64 b.fr, .int .i64 b.tp] 42))
  go_enter Try.func51, Try.ntmps51
  go_wp2_with fail
  ((with_reducible refine (M.finish_any D capD ds mach s (mins * (b.tp - b.fr)) _ (dgo HD.out HB2.out) hdl).mono ?_); rintro e w3 ⟨rfl, hb3⟩)
  have HB3 := Lib.hid (HB2.out.trans (hb3.mono HB2.out.size))
  clear hb3
  go_wp2
  go_ret2
  exact ⟨rfl, HB3.out⟩

structure Apart (B br ba bb bt : Nat) (gs : List Nat) : Prop where
  lr : B ≤ br
  la : B ≤ ba
  lb : B ≤ bb
  lt : B ≤ bt
  ab : ba ≠ bb
  gg : ∀ (i g : Nat), gs[i]? = some g → g ≠ ba ∧ g ≠ bb

def MadeRoom (w3 : World) (A : Option Addr) (cap : Nat) (l : List Opn) (at_ : List Int) (K N : Nat) (v : Value) (wx : World) : Prop :=
  ∃ (br ba bb bt : Nat) (gs : List Nat), v = .pointer (some ⟨br, 0, none⟩) ∧ Room wx br A cap l ba at_ bb (List.replicate K 0) bt gs (List.replicate N (noAt l.length)) ∧ Below w3.heap.size w3 wx ∧ Apart w3.heap.size br ba bb bt gs
theorem made_room {w3 W : World} {A : Option Addr} {cap : Nat} {l : List Opn} {at_ : List Int} {K N ba bb bt : Nat} {gs : List Nat} (hb : Below w3.heap.size w3 W) (hra : Row W ba at_) (hrb : Row W bb (List.replicate K 0)) (ht : Tab W bt l.length gs (List.replicate N (noAt l.length)))
    (h1 : w3.heap.size ≤ ba) (h2 : w3.heap.size ≤ bb) (h3 : w3.heap.size ≤ bt) (h4 : ba ≠ bb) (hg : ∀ (i g : Nat), gs[i]? = some g → g ≠ ba ∧ g ≠ bb) :
    MadeRoom w3 A cap l at_ K N (.pointer (some ⟨W.heap.size, 0, none⟩)) (W.alloc (.cells #[.slice A l.length cap, .slice (some ⟨ba, 0, none⟩) l.length l.length, .slice (some ⟨bb, 0, none⟩) K K, .slice (some ⟨bt, 0, none⟩) N N] 85)) := by
  refine ⟨W.heap.size, ba, bb, bt, gs, rfl, ⟨?_, hra.alloc _, hrb.alloc _, ?_⟩, hb.alloc hb.size _, ⟨hb.size, h1, h2, h3, h4, hg⟩⟩
  · rw [heap_alloc_new]; simp [slc]
  · exact ht.below ((Below.refl _ _).alloc (Nat.le_refl _) _)
theorem Tab.gt {w : World} {bt n : Nat} {gs : List Nat} {T : List (List Int)} (h : Tab w bt n gs T) {i g : Nat} (hg : gs[i]? = some g) : bt < g ∧ g < w.heap.size := by
  have hi : i < gs.length := (List.getElem?_eq_some_iff.1 hg).1
  have hq : T[i]? = some (T[i]'(h.len ▸ hi)) := List.getElem?_eq_getElem _
  obtain ⟨hr, hb⟩ := h.each i g _ hg hq
  exact ⟨hb, hr.lt⟩

theorem next_sim (br : Nat) (A : Option Addr) (cap : Nat) (l : List Opn) (ba : Nat) (at_ : List Int) (bb : Nat) (K bt : Nat) (gs : List Nat) (sb : List Bn) (ds : List M.Dn) (ts : List Tsk) (N : Nat) (w : World) (hN : sb.length = N) (hf : FlowOk l K at_ sb ds) (hok : SimOk l at_ ds sb ts)
    (hr : Room w br A cap l ba at_ bb (bzOf K ts) bt gs (tabOf l sb ts)) (h : ORd w w.heap.size A l) (hs : OSmall l) (hsd : Sound l) (hT : N ≤ 1000) :
    Calls Try.prog 50 #[.iface 81 (.pointer (some ⟨br, 0, none⟩)), .int .i64 N, .int .i64 l.length] w fun e w' => NextPost (pickP l at_ sb ts) e ∧ Below w.heap.size w w' := by
  have h0 : ∀ t ∈ ts, 0 ≤ t.b := fun t ht => by have := hok.mem ht; omega
  have := next_any br A cap l ba at_ bb (bzOf K ts) bt gs (tabOf l sb ts) w hr h hs hsd hf.atl ?_ (by rw [tabOf_len, hN]; exact hT)
  · rw [pick_tab hf h0, tabOf_len, hN] at this; exact this
  · intro x hx
    obtain ⟨i, hi, rfl⟩ := List.mem_iff_getElem.1 hx
    have := hf.atr i (by rw [← hf.atl]; exact hi)
    rw [bzOf_len, ← List.getElem_eq_getD (h := hi) 0] at *
    exact this

theorem keepB {a b c : World} (h : Below a.heap.size a b) (k : Below b.heap.size b c) : Below a.heap.size a c := h.trans (k.mono h.size)
theorem Tab.far2 {w : World} {bt n b i : Nat} {gs : List Nat} {T : List (List Int)} (h : Tab w bt n gs T) (hb : bt ≠ b) (hg : ∀ (i g : Nat), gs[i]? = some g → g ≠ b) (u : Value) : Tab (w.setCell ⟨b, i, none⟩ u) bt n gs T :=
  ⟨h.len, h.row.far (p := ⟨b, i, none⟩) hb u, fun j g q h1 h2 => ⟨(h.each j g q h1 h2).1.far (p := ⟨b, i, none⟩) (hg j g h1) u, (h.each j g q h1 h2).2⟩, h.wide, h.nd⟩
theorem Tab.under {w w' : World} {bt n B : Nat} {gs : List Nat} {T : List (List Int)} (h : Tab w bt n gs T) (hb : Below B w w') (h1 : bt < B) (h2 : ∀ (i g : Nat), gs[i]? = some g → g < B) : Tab w' bt n gs T :=
  ⟨h.len, h.row.below hb h1, fun j g q h3 h4 => ⟨(h.each j g q h3 h4).1.below hb (h2 j g h3), (h.each j g q h3 h4).2⟩, h.wide, h.nd⟩
structure RoomLt (B br ba bb bt : Nat) (gs : List Nat) : Prop where
  lr : br < B
  la : ba < B
  lb : bb < B
  lt : bt < B
  lg : ∀ (i g : Nat), gs[i]? = some g → g < B
section
variable {w w' : World} {br : Nat} {A : Option Addr} {cap : Nat} {l : List Opn} {ba : Nat} {at_ : List Int} {bb : Nat} {bz : List Int} {bt B : Nat} {gs : List Nat} {T : List (List Int)}
theorem Room.lts (h : Room w br A cap l ba at_ bb bz bt gs T) : RoomLt w.heap.size br ba bb bt gs := ⟨h.lt, h.rat.lt, h.rbz.lt, h.tab.row.lt, fun _ _ hg => (h.tab.gt hg).2⟩
theorem Room.under (h : Room w br A cap l ba at_ bb bz bt gs T) (hb : Below B w w') (hl : RoomLt B br ba bb bt gs) : Room w' br A cap l ba at_ bb bz bt gs T :=
  ⟨(hb.block br hl.lr).trans h.blk, h.rat.below hb hl.la, h.rbz.below hb hl.lb, h.tab.under hb hl.lt hl.lg⟩
theorem Room.row_ne (h : Room w br A cap l ba at_ bb bz bt gs T) {g : Nat} {q : List Int} (hr : Row w g q) : br ≠ g ∧ bt ≠ g := by
  constructor
  · intro e
    have h1 := h.blk
    unfold Row at hr
    rw [e, hr] at h1
    simp at h1
  · intro e
    have h1 := h.tab.row
    unfold VRow at h1
    unfold Row at hr
    rw [e, hr] at h1
    simp at h1
theorem Room.putT (h : Room w br A cap l ba at_ bb bz bt gs T) (ha : Apart B br ba bb bt gs) {i g : Nat} {q : List Int} (hg : gs[i]? = some g) (hq : T[i]? = some q) (o : Nat) (x : Int) :
    Room (w.setCell ⟨g, o, none⟩ (.int .i64 x)) br A cap l ba at_ bb bz bt gs (T.set i (q.set o x)) := by
  have hr := (h.tab.each i g q hg hq).1
  refine ⟨?_, h.rat.far (p := ⟨g, o, none⟩) (Ne.symm (ha.gg i g hg).1) _, h.rbz.far (p := ⟨g, o, none⟩) (Ne.symm (ha.gg i g hg).2) _, h.tab.put hg hq x⟩
  rw [List.length_set]
  exact (Below.heap_setCell w ⟨g, o, none⟩ _ br (h.row_ne hr).1).trans h.blk
theorem Room.putB (h : Room w br A cap l ba at_ bb bz bt gs T) (ha : Apart B br ba bb bt gs) (o : Nat) (x : Int) :
    Room (w.setCell ⟨bb, o, none⟩ (.int .i64 x)) br A cap l ba at_ bb (bz.set o x) bt gs T := by
  have hr := h.rbz
  refine ⟨?_, h.rat.far (p := ⟨bb, o, none⟩) ha.ab _, h.rbz.put o x, h.tab.far2 (h.row_ne hr).2 (fun i g hg => (ha.gg i g hg).2) _⟩
  rw [List.length_set]
  exact (Below.heap_setCell w ⟨bb, o, none⟩ _ br (h.row_ne hr).1).trans h.blk
end
theorem sim_ge {l : List Opn} {at_ : List Int} {sb : List Bn} {ds : List M.Dn} {ts : List Tsk} {b o : Nat} {s : Int} (he : erl l at_ ts (sb.getD b bn0).tk o = some s) (hf : M.finErr ds s (wk l (sb.getD b bn0) o) = 0) :
    fnd ts (sb.getD b bn0).tk o = none ∧ busyOf ts (at_.getD o 0) ≤ (tskOf l at_ ds (sb.getD b bn0) o s).b := by
  unfold erl at he
  cases hx : fnd ts (sb.getD b bn0).tk o with
  | some t => rw [hx] at he; cases he
  | none =>
    rw [hx] at he
    have h1 := (aftMax_take he).1
    have h2 := (M.finT_le (m := mc l o) hf).1
    refine ⟨rfl, ?_⟩
    unfold tskOf
    show _ ≤ M.finT ds (mc l o) s (wk l (sb.getD b bn0) o)
    omega
theorem own_cap {w : World} {base e size n c : Nat} {A : Option Addr} {xs : List Value} (h : w.ownsRow base e size (.slice A n c) n xs) : n ≤ c := by
  rcases h.2 with ⟨hv, h0⟩ | ⟨g, cap, cur, hv, _, _, hc, _⟩
  · omega
  · injection hv; omega
theorem own_belowT {w w' : World} {base e size n : Nat} {v : Value} {xs : List Value} (h : w.ownsRow base e size v n xs) (hb : Below w.heap.size w w') : w'.ownsRow base e size v n xs := by
  refine ⟨h.1, ?_⟩
  rcases h.2 with h0 | ⟨g, cap, cur, hv, h1, h2, h3⟩
  · exact .inl h0
  · refine .inr ⟨g, cap, cur, hv, h1, ?_, h3⟩
    rw [hb.block g]
    · exact h2
    · by_cases hg : g < w.heap.size
      · exact hg
      · rw [Array.getElem?_eq_none (by omega)] at h2; cases h2
def SimPost (R : Int × List Tsk) (e : Ending) (w' : World) : Prop :=
  ∃ A' c', e = .returned (.tuple #[.slice A' R.2.length c', .int .i64 R.1]) ∧ TRd w' w'.heap.size A' R.2 ∧ R.2.length ≤ c'

/-- The state of a run. -/
structure SimRel (w0 wx : World) (base : Nat) (A : Option Addr) (cap : Nat) (l : List Opn) (at_ : List Int) (K : Nat) (sb : List Bn) (ds : List M.Dn) (br ba bb bt : Nat) (gs : List Nat) (v : Value) (ts : List Tsk) : Prop where
  ok : SimOk l at_ ds sb ts
  go : simR l at_ ds sb (l.length * sb.length - ts.length) ts = simR l at_ ds sb (l.length * sb.length) []
  rm : Room wx br A cap l ba at_ bb (bzOf K ts) bt gs (tabOf l sb ts)
  own : wx.ownsRow base 39 5 v ts.length (tkCells ts)
  bl : Below w0.heap.size w0 wx
  sz : base ≤ wx.heap.size
end Go.Proofs.Ytelgkangojmhdaa
