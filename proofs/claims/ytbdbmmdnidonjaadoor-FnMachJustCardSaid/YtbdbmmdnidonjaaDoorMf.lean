/- Functions of a machine: copied, compared. No conditions but on how many there are. -/
import Derived.Test.YtbdbmmdnidonjaaDoorMi
set_option maxRecDepth 100000
namespace Go.Proofs.YtbdbmmdnidonjaaDoor
open Go.RowKit

structure Mf where
  params : Int
  slots : Int
  ins : List Mi

theorem info_mf : (Tryd.prog.info? 105).map (fun i => (i.zero, i.size, i.bytes)) = some (some (.agg #[.int .i64 0, .int .i64 0, .slice none 0 0]), 3, 40) := by kernel_rfl

/-- the slice v reads as these functions -/
def MfsAt (w : World) (v : Value) (fs : List Mf) : Prop :=
  ∃ a cap, v = .slice a fs.length cap ∧ ∀ i f, fs[i]? = some f → ∃ b off iv, a = some ⟨b, off, none⟩ ∧ w.cell? ⟨b, off + i * 3, none⟩ = some (.int .i64 f.params) ∧ w.cell? ⟨b, off + i * 3 + 1, none⟩ = some (.int .i64 f.slots) ∧ w.cell? ⟨b, off + i * 3 + 2, none⟩ = some iv ∧ MisAt w iv f.ins

theorem MfsAt.below {w w' : World} {v : Value} {fs : List Mf} (h : MfsAt w v fs) (hb : Below w.heap.size w w') : MfsAt w' v fs := by
  obtain ⟨a, cap, hv, hc⟩ := h
  refine ⟨a, cap, hv, fun i x hi => ?_⟩
  obtain ⟨b, off, iv, ha, c0, c1, c2, hm⟩ := hc i x hi
  have hbl : b < w.heap.size := World.block_lt_of_cell? w ⟨b, off + i * 3, none⟩ c0
  refine ⟨b, off, iv, ha, ?_, ?_, ?_, hm.below hb⟩
  · rw [hb.cell (p := ⟨b, off + i * 3, none⟩) hbl]; exact c0
  · rw [hb.cell (p := ⟨b, off + i * 3 + 1, none⟩) hbl]; exact c1
  · rw [hb.cell (p := ⟨b, off + i * 3 + 2, none⟩) hbl]; exact c2

/-- sizes that no walk minds -/
def MfsLe (fs : List Mf) : Prop := fs.length ≤ 1048576 ∧ ∀ f ∈ fs, f.ins.length ≤ 1048576

/-- function f stands at place i of a row of cells; its instructions in a row of the call's own, not block g -/
def MfIn (B : Nat) (w : World) (g : Nat) (ys : List Value) (i : Nat) (f : Mf) : Prop :=
  ys[i * 3]? = some (.int .i64 f.params) ∧ ys[i * 3 + 1]? = some (.int .i64 f.slots) ∧ ∃ gi, gi ≠ g ∧ ys[i * 3 + 2]? = some (.slice (some ⟨gi, 0, none⟩) f.ins.length f.ins.length) ∧ OwnMis B w gi f.ins.length f.ins

def OwnMfs (B : Nat) (w : World) (g cap : Nat) (fs : List Mf) : Prop :=
  ∃ ys, w.ownsRow B 105 3 (.slice (some ⟨g, 0, none⟩) fs.length cap) fs.length ys ∧ ∀ i f, fs[i]? = some f → MfIn B w g ys i f

theorem idx_lt {α : Type} {l : List α} {i : Nat} {x : α} (h : l[i]? = some x) : i < l.length := by
  rcases Nat.lt_or_ge i l.length with h' | h'
  · exact h'
  · rw [List.getElem?_eq_none h'] at h; cases h

theorem OwnMfs.at {B : Nat} {w : World} {g cap : Nat} {fs : List Mf} (h : OwnMfs B w g cap fs) : MfsAt w (.slice (some ⟨g, 0, none⟩) fs.length cap) fs := by
  obtain ⟨ys, ho, hx⟩ := h
  refine ⟨_, _, rfl, fun i f hi => ?_⟩
  have hil := idx_lt hi
  obtain ⟨h0, h1, gi, _, h2, hm⟩ := hx i f hi
  refine ⟨g, 0, _, rfl, ?_, ?_, ?_, hm.at⟩
  · rw [Nat.zero_add, ho.cellAt (i * 3) (by omega)]; exact h0
  · rw [Nat.zero_add, ho.cellAt (i * 3 + 1) (by omega)]; exact h1
  · rw [Nat.zero_add, ho.cellAt (i * 3 + 2) (by omega)]; exact h2
theorem OwnMfs.below {B : Nat} {w w' : World} {g cap : Nat} {fs : List Mf} (h : OwnMfs B w g cap fs) (hb : Below w.heap.size w w') : OwnMfs B w' g cap fs := by
  obtain ⟨ys, ho, hx⟩ := h
  refine ⟨ys, ownsRow_below ho hb, fun i f hi => ?_⟩
  obtain ⟨h0, h1, gi, hg, h2, hm⟩ := hx i f hi
  exact ⟨h0, h1, gi, hg, h2, hm.below hb⟩

/-- a row stands where its block stands -/
theorem ownsRow_block {w w' : World} {B : Nat} {e : TypeId} {size : Nat} {g n cap : Nat} {xs : List Value} (h : w.ownsRow B e size (.slice (some ⟨g, 0, none⟩) n cap) n xs) (hg : w'.heap[g]? = w.heap[g]?) : w'.ownsRow B e size (.slice (some ⟨g, 0, none⟩) n cap) n xs := by
  obtain ⟨h1, h2⟩ := h
  refine ⟨h1, ?_⟩
  rcases h2 with h2 | ⟨g', cap', cur, hv, hg', hh, r⟩
  · exact .inl h2
  · have e : g' = g := by
      injection hv with hv _ _
      injection hv with hv
      injection hv with hv
      exact hv.symm
    subst e
    exact .inr ⟨g', cap', cur, hv, hg', by rw [hg]; exact hh, r⟩
theorem OwnMis.block {B : Nat} {w w' : World} {g cap : Nat} {xs : List Mi} (h : OwnMis B w g cap xs) (hg : w'.heap[g]? = w.heap[g]?) : OwnMis B w' g cap xs := by
  obtain ⟨ys, ho, hx⟩ := h
  exact ⟨ys, ownsRow_block ho hg, hx⟩
theorem OwnMis.lt {B : Nat} {w : World} {g cap : Nat} {xs : List Mi} (h : OwnMis B w g cap xs) : g < w.heap.size ∧ B ≤ g := by
  obtain ⟨ys, ho, _⟩ := h
  have := ownsRow_lt ho
  exact ⟨this.1, this.2.1⟩
theorem OwnMis.mono {B B' : Nat} {w : World} {g cap : Nat} {xs : List Mi} (h : OwnMis B w g cap xs) (hB : B' ≤ B) : OwnMis B' w g cap xs := by
  obtain ⟨ys, ho, hx⟩ := h
  exact ⟨ys, ownsRow_mono ho hB, hx⟩

theorem bcell {W w1 : World} (hb : Below W.heap.size W w1) : (∀ b o, b < W.heap.size → w1.cell? ⟨b, o, none⟩ = W.cell? ⟨b, o, none⟩) ∧ (∀ b o, b < W.heap.size → w1.frozen? ⟨b, o, none⟩ = W.frozen? ⟨b, o, none⟩) :=
  ⟨fun b o h => hb.cell (p := ⟨b, o, none⟩) h, fun b o h => hb.frozen (p := ⟨b, o, none⟩) h⟩

theorem below1 (w : World) (o1 : Obj) : Below w.heap.size w (w.alloc o1) := (Below.refl _ _).alloc (Nat.le_refl _) _
theorem below2 (w : World) (o1 o2 : Obj) : Below w.heap.size w ((w.alloc o1).alloc o2) := (below1 w o1).alloc (by simp) _
theorem below3 (w : World) (o1 o2 o3 : Obj) : Below w.heap.size w (((w.alloc o1).alloc o2).alloc o3) := (below2 w o1 o2).alloc (by simp; omega) _

def NewMf (f : Mf) (w : World) (e : Ending) (w' : World) : Prop :=
  ∃ g, e = .returned (.agg #[.int .i64 f.params, .int .i64 f.slots, .slice (some ⟨g, 0, none⟩) f.ins.length f.ins.length]) ∧ OwnMis w.heap.size w' g f.ins.length f.ins ∧ Below w.heap.size w w'

set_option maxHeartbeats 1000000 in
theorem toMfn_any (w : World) (p s : Int) (iv : Value) (xs : List Mi) (h : MisAt w iv xs) (hm : xs.length ≤ 1048576) :
    Calls Tryd.prog 83 #[.agg #[.int .i64 p, .int .i64 s, iv]] w (NewMf ⟨p, s, xs⟩ w) := by
  have HI := Lib.hid (fun w' (hb : Below w.heap.size w w') => toMinsS_any w' iv xs (h.below hb) (by omega))
  obtain ⟨a, cap, rfl, _⟩ := h
  go_enter Tryd.func83, Tryd.ntmps83
  go_wp2_with (fail)
  refine (HI.out _ (below3 _ _ _ _)).mono ?_
  rintro e w1 ⟨g, rfl, hO, hb⟩
  obtain ⟨hc, hf⟩ := bcell hb
  have hsz : w.heap.size + 3 ≤ w1.heap.size := by have := hb.size; simp at this; omega
  have HB := Lib.hid ((below3 w _ _ _).trans (hb.mono (by simp; omega)))
  have HO := Lib.hid (hO.mono (show w.heap.size ≤ _ by simp; omega))
  have hgl := hO.lt
  simp at hgl
  clear hb hO
  go_wp2_with (fail)
  refine bodyPost_ret (v := .agg #[.int .i64 p, .int .i64 s, .slice (some ⟨g, 0, none⟩) xs.length xs.length]) (by simp [results, Tryd.results83, go_sem, hc]) rfl ⟨g, rfl, ?_, ?_⟩
  · refine HO.out.block ?_
    repeat rw [Below.heap_setCell _ _ _ _ (by simp; omega)]
  · repeat' (first | exact HB.out | (refine Below.setCell ?_ ?_ _))
    all_goals (first | omega | (simp; done) | (simp; omega))

/-- a row of three-cell elements -/
theorem own3 {w : World} {B : Nat} {e : TypeId} {g n cap : Nat} {ys : List Value} (h : w.ownsRow B e 3 (.slice (some ⟨g, 0, none⟩) n cap) n ys) (k : Nat) (hk : k < n) :
    (∃ y, w.cell? ⟨g, k * 3, none⟩ = some y) ∧ (∃ y, w.cell? ⟨g, k * 3 + 1, none⟩ = some y) ∧ (∃ y, w.cell? ⟨g, k * 3 + 2, none⟩ = some y) ∧
    w.frozen? ⟨g, k * 3, none⟩ = false ∧ w.frozen? ⟨g, k * 3 + 1, none⟩ = false ∧ w.frozen? ⟨g, k * 3 + 2, none⟩ = false := by
  have hlen : ys.length = n * 3 := h.1
  have at' : ∀ j, j < n * 3 → ∃ y, w.cell? ⟨g, j, none⟩ = some y := fun j hj => by
    rw [h.cellAt j hj, List.getElem?_eq_getElem (by omega)]
    exact ⟨_, rfl⟩
  exact ⟨at' _ (by omega), at' _ (by omega), at' _ (by omega), h.frozenAt _, h.frozenAt _, h.frozenAt _⟩
def set3 (ys : List Value) (k : Nat) (u0 u1 u2 : Value) : List Value := ((ys.set (k * 3) u0).set (k * 3 + 1) u1).set (k * 3 + 2) u2
theorem stored3 {w : World} {B : Nat} {e : TypeId} {g n cap : Nat} {ys : List Value} (h : w.ownsRow B e 3 (.slice (some ⟨g, 0, none⟩) n cap) n ys) (k : Nat) (u0 u1 u2 : Value) :
    (((w.setCell ⟨g, k * 3, none⟩ u0).setCell ⟨g, k * 3 + 1, none⟩ u1).setCell ⟨g, k * 3 + 2, none⟩ u2).ownsRow B e 3 (.slice (some ⟨g, 0, none⟩) n cap) n (set3 ys k u0 u1 u2) :=
  (((h.stored _ u0).1.stored _ u1).1.stored _ u2).1
theorem below_3 {w a : World} {B g : Nat} (h : Below B a w) (hg : B ≤ g) (k : Nat) (u0 u1 u2 : Value) :
    Below B a (((w.setCell ⟨g, k * 3, none⟩ u0).setCell ⟨g, k * 3 + 1, none⟩ u1).setCell ⟨g, k * 3 + 2, none⟩ u2) :=
  ((h.setCell (p := ⟨g, k * 3, none⟩) hg _).setCell (p := ⟨g, k * 3 + 1, none⟩) hg _).setCell (p := ⟨g, k * 3 + 2, none⟩) hg _
theorem heap_3 (w : World) (g k q : Nat) (u0 u1 u2 : Value) (h : q ≠ g) :
    (((w.setCell ⟨g, k * 3, none⟩ u0).setCell ⟨g, k * 3 + 1, none⟩ u1).setCell ⟨g, k * 3 + 2, none⟩ u2).heap[q]? = w.heap[q]? := by
  rw [Below.heap_setCell _ _ _ _ h, Below.heap_setCell _ _ _ _ h, Below.heap_setCell _ _ _ _ h]
theorem set3_other {B : Nat} {w w' : World} {g : Nat} {ys : List Value} {k i : Nat} {f : Mf} {u0 u1 u2 : Value} (h : MfIn B w g ys i f) (hik : i ≠ k) (hw : ∀ q, q ≠ g → w'.heap[q]? = w.heap[q]?) : MfIn B w' g (set3 ys k u0 u1 u2) i f := by
  obtain ⟨h0, h1, gi, hgi, h2, hm⟩ := h
  unfold set3
  refine ⟨?_, ?_, gi, hgi, ?_, hm.block (hw gi hgi)⟩
  all_goals
    rw [List.getElem?_set_ne (by omega), List.getElem?_set_ne (by omega), List.getElem?_set_ne (by omega)]
    assumption
theorem set3_at {B : Nat} {w' : World} {g : Nat} {ys : List Value} {k : Nat} (f : Mf) (gi : Nat) (hgi : gi ≠ g) (hm : OwnMis B w' gi f.ins.length f.ins) (h : k * 3 + 2 < ys.length) :
    MfIn B w' g (set3 ys k (.int .i64 f.params) (.int .i64 f.slots) (.slice (some ⟨gi, 0, none⟩) f.ins.length f.ins.length)) k f := by
  unfold set3
  refine ⟨?_, ?_, gi, hgi, ?_, hm⟩
  · rw [List.getElem?_set_ne (by omega), List.getElem?_set_ne (by omega), List.getElem?_set_self (by omega)]
  · rw [List.getElem?_set_ne (by omega), List.getElem?_set_self (by simp; omega)]
  · rw [List.getElem?_set_self (by simp; omega)]

def NewMfs (fs : List Mf) (w : World) (e : Ending) (w' : World) : Prop :=
  ∃ g, e = .returned (.slice (some ⟨g, 0, none⟩) fs.length fs.length) ∧ OwnMfs w.heap.size w' g fs.length fs ∧ Below w.heap.size w w'

set_option maxHeartbeats 1000000 in
theorem toMfnS_any (w : World) (v : Value) (fs : List Mf) (h : MfsAt w v fs) (hm : MfsLe fs) :
    Calls Tryd.prog 55 #[v] w (NewMfs fs w) := by
  obtain ⟨i0, hi, hz0, hz1, hz2⟩ := info_parts info_mf
  obtain ⟨a, cap, rfl, hc⟩ := h
  obtain ⟨n, hn⟩ : ∃ n, n = fs.length := ⟨_, rfl⟩
  have hnm : n ≤ 1048576 := by have := hm.1; omega
  rw [← hn]
  have Hc := Lib.hid hc
  have Hl := Lib.hid hn
  have HM := Lib.hid hm
  clear hc hn hm
  go_enter Tryd.func55, Tryd.ntmps55
  go_wp2_with (refine wpList_make_full _ rfl _ _ 23 rfl w.heap.size 105 i0 _ 3 Tryd.underlying23 hi hz0 hz1 .i64 .i64 n n n (by rfl) (by rfl) rfl rfl (by rw [hz2]; omega) (by unfold maxLen; omega) (Nat.le_refl _) ?_; intro w1 hown hg; have HOWN := Lib.hid hown; have HB := Lib.hid ((Below.refl w.heap.size w).grown hg (Nat.le_refl _) (fun k hk => by cases hk)); clear hown hg)
  go_loopw [4] (fun i wr => ∃ k ys, k ≤ n ∧ i = .int .i64 k ∧ wr.ownsRow w.heap.size 105 3 (.slice (some ⟨w.heap.size, 0, none⟩) n n) n ys ∧ Hid (∀ i f, i < k → fs[i]? = some f → MfIn w.heap.size wr w.heap.size ys i f) ∧ Below w.heap.size w wr) (fun i _ => n - (intOf i).toNat)
  case atStart => exact ⟨0, _, Nat.zero_le _, rfl, HOWN.out, fun i x hi => by omega, HB.out⟩
  case round =>
    obtain ⟨k, ys, hk, rfl, hown, hys, hB⟩ := hrel
    obtain ⟨wo, rfl⟩ : ∃ wo : World, wo = wr := ⟨_, rfl⟩
    by_cases hlt : k < n
    · have hkl : k < fs.length := by rw [← Hl.out]; exact hlt
      obtain ⟨f, hf⟩ : ∃ f, f = fs[k] := ⟨_, rfl⟩
      have hfk : fs[k]? = some f := by rw [hf]; exact List.getElem?_eq_getElem hkl
      have hfm : f ∈ fs := List.mem_of_getElem? hfk
      obtain ⟨b, off, iv, rfl, c0, c1, c2, hmi⟩ := Hc.out k f hfk
      have hbl : b < w.heap.size := World.block_lt_of_cell? w ⟨b, off + k * 3, none⟩ c0
      rw [← hB.cell (p := ⟨b, off + k * 3, none⟩) hbl] at c0
      rw [← hB.cell (p := ⟨b, off + k * 3 + 1, none⟩) hbl] at c1
      rw [← hB.cell (p := ⟨b, off + k * 3 + 2, none⟩) hbl] at c2
      have HI := Lib.hid (toMfn_any wo f.params f.slots iv f.ins (hmi.below hB) (HM.out.2 f hfm))
      have HB' := Lib.hid hB; have HOW := Lib.hid hown; have HFK := Lib.hid hfk
      have hg0 := (ownsRow_lt hown).1
      clear hB hown hf hfk hmi hfm
      go_wp2_with (fail)
      refine HI.out.mono ?_
      rintro e w2 ⟨gi, rfl, hgi, hb⟩
      simp only [] at hgi ⊢
      have hsz := HB'.out.size
      have hB2 := HB'.out.trans (hb.mono hsz)
      have hO2 := ownsRow_below HOW.out hb
      obtain ⟨⟨y0, d0⟩, ⟨y1, d1⟩, ⟨y2, d2⟩, f0, f1, f2⟩ := own3 hO2 k hlt
      have hgl := hgi.lt
      have hys2 : Hid (∀ i f, i < k → fs[i]? = some f → MfIn w.heap.size w2 w.heap.size ys i f) := by
        show ∀ i f, _
        intro i f' h1 h2
        obtain ⟨a0, a1, gj, hgj, a2, hmj⟩ := hys.out i f' h1 h2
        exact ⟨a0, a1, gj, hgj, a2, hmj.below hb⟩
      have HB2 := Lib.hid hB2; have HO2 := Lib.hid hO2; have HGI := Lib.hid (hgi.mono hsz)
      clear hb hB2 hO2 c0 c1 c2 hgi hys HI
      go_wp2_with (fail)
      go_roundw
      case rel =>
        refine ⟨k + 1, _, by omega, by go_num, stored3 HO2.out k _ _ _, ?_, below_3 HB2.out (Nat.le_refl _) k _ _ _⟩
        show ∀ i y, _
        intro i y hi hy
        by_cases hik : i = k
        · subst hik
          rw [HFK.out] at hy
          injection hy with hy
          subst hy
          exact set3_at _ gi (by omega) (HGI.out.block (heap_3 _ _ _ _ _ _ _ (by omega))) (by have := HO2.out.1; omega)
        · exact set3_other (hys2.out i y (by omega) hy) hik (fun q hq => heap_3 _ _ _ _ _ _ _ hq)
      case measure => simp [intOf]; omega
    · obtain rfl : k = n := by omega
      have HO := Lib.hid hown; have HB' := Lib.hid hB
      clear hown hB
      go_wp2_with (fail)
      go_ret
      refine ⟨w.heap.size, by rw [← Hl.out]; rfl, ⟨ys, by rw [← Hl.out]; exact HO.out, fun i x hi => hys.out i x (by rw [Hl.out]; exact idx_lt hi) hi⟩, HB'.out⟩

set_option maxHeartbeats 1000000 in
theorem eqMfn_same (w : World) (p s : Int) (iv iv2 : Value) (xs : List Mi) (h : MisAt w iv xs) (h2 : MisAt w iv2 xs) (hm : xs.length ≤ 1048576) :
    Calls Tryd.prog 84 #[.agg #[.int .i64 p, .int .i64 s, iv], .agg #[.int .i64 p, .int .i64 s, iv2]] w (Yes w) := by
  have HI := Lib.hid (fun w' (hb : Below w.heap.size w w') => eqMinsS_same w' iv iv2 xs (h.below hb) (h2.below hb) (by omega))
  obtain ⟨a, cap, rfl, _⟩ := h
  obtain ⟨a2, cap2, rfl, _⟩ := h2
  go_enter Tryd.func84, Tryd.ntmps84
  go_wp2_with (fail)
  refine (HI.out _ (below2 _ _ _)).mono ?_
  rintro e w1 ⟨rfl, hb⟩
  have HB := Lib.hid ((below2 w _ _).trans (hb.mono (by simp; omega)))
  clear hb
  go_wp2_with (fail)
  go_ret
  exact ⟨rfl, HB.out⟩

set_option maxHeartbeats 1000000 in
theorem eqMfnS_same (w : World) (v v2 : Value) (fs : List Mf) (h : MfsAt w v fs) (h2 : MfsAt w v2 fs) (hm : MfsLe fs) :
    Calls Tryd.prog 56 #[v, v2] w (Yes w) := by
  obtain ⟨a, cap, rfl, hc⟩ := h
  obtain ⟨a2, cap2, rfl, hc2⟩ := h2
  obtain ⟨n, hn⟩ : ∃ n, n = fs.length := ⟨_, rfl⟩
  have hnm : n ≤ 1048576 := by have := hm.1; omega
  rw [← hn]
  have Hc := Lib.hid hc
  have Hc2 := Lib.hid hc2
  have Hl := Lib.hid hn
  have HM := Lib.hid hm
  clear hc hc2 hn hm
  go_enter Tryd.func56, Tryd.ntmps56
  go_wp2
  go_loopw [5] (fun i wr => ∃ k, k ≤ n ∧ i = .int .i64 k ∧ Below w.heap.size w wr) (fun i _ => n - (intOf i).toNat)
  case atStart => exact ⟨0, Nat.zero_le _, rfl, Below.refl _ _⟩
  case round =>
    obtain ⟨k, hk, rfl, hB⟩ := hrel
    obtain ⟨wo, rfl⟩ : ∃ wo : World, wo = wr := ⟨_, rfl⟩
    by_cases hlt : k < n
    · have hkl : k < fs.length := by rw [← Hl.out]; exact hlt
      obtain ⟨f, hf⟩ : ∃ f, f = fs[k] := ⟨_, rfl⟩
      have hfk : fs[k]? = some f := by rw [hf]; exact List.getElem?_eq_getElem hkl
      have hfm : f ∈ fs := List.mem_of_getElem? hfk
      obtain ⟨b, off, iv, rfl, c0, c1, c2, hmi⟩ := Hc.out k f hfk
      have hbl : b < w.heap.size := World.block_lt_of_cell? w ⟨b, off + k * 3, none⟩ c0
      rw [← hB.cell (p := ⟨b, off + k * 3, none⟩) hbl] at c0
      rw [← hB.cell (p := ⟨b, off + k * 3 + 1, none⟩) hbl] at c1
      rw [← hB.cell (p := ⟨b, off + k * 3 + 2, none⟩) hbl] at c2
      obtain ⟨b2, off2, iv2, rfl, d0, d1, d2, hmi2⟩ := Hc2.out k f hfk
      have hbl2 : b2 < w.heap.size := World.block_lt_of_cell? w ⟨b2, off2 + k * 3, none⟩ d0
      rw [← hB.cell (p := ⟨b2, off2 + k * 3, none⟩) hbl2] at d0
      rw [← hB.cell (p := ⟨b2, off2 + k * 3 + 1, none⟩) hbl2] at d1
      rw [← hB.cell (p := ⟨b2, off2 + k * 3 + 2, none⟩) hbl2] at d2
      have k0 : (0 : Int) ≤ k := by omega
      have k1 : (k : Int) < n := by omega
      have HI := Lib.hid (fun w' (hb : Below w.heap.size w w') => eqMfn_same w' f.params f.slots iv iv2 f.ins (hmi.below hb) (hmi2.below hb) (HM.out.2 f hfm))
      have HB := Lib.hid hB
      clear hB hf hfk hmi hmi2 hfm
      go_wp2_with (fail)
      go_still_tail 8, (by kernel_rfl)
      change wpList _ _ _ _ _ wo.drew
      have hdw := HB.out.drew
      have HD := Lib.hid hdw
      clear hdw
      generalize wo.drew = w2 at *
      go_wp2_with (fail)
      refine (HI.out w2 HD.out).mono ?_
      rintro e w3 ⟨rfl, hb⟩
      have HB3 := Lib.hid (HD.out.trans (hb.mono HD.out.size))
      clear hb
      go_wp2_with (fail)
      go_roundw
      case rel => exact ⟨k + 1, by omega, by go_num, HB3.out⟩
      case measure => simp [intOf]; omega
    · obtain rfl : k = n := by omega
      have HB := Lib.hid hB
      clear hB
      go_wp2_with (fail)
      go_ret
      exact ⟨rfl, HB.out⟩

end Go.Proofs.YtbdbmmdnidonjaaDoor
