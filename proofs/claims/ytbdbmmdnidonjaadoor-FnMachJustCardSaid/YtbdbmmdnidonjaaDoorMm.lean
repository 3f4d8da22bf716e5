/- Marks: what markMach and markIntS store, and where. No conditions but on how many there are. -/
import Derived.Test.YtbdbmmdnidonjaaDoorMc
import Derived.Test.YtbdbmmdnidonjaaDoorMark
import Derived.Test.YtbdbmmdnidonjaaDoorBlk
set_option maxRecDepth 100000
namespace Go.Proofs.YtbdbmmdnidonjaaDoor
open Go.RowKit

/-- of what was there, only blocks from B up to E may be other -/
structure Mid (B E : Nat) (w w' : World) : Prop where
  os : w'.os = w.os
  tape : w'.tape = w.tape
  output : w'.output = w.output
  size : w.heap.size ≤ w'.heap.size
  block : ∀ k, k < w.heap.size → (k < B ∨ E ≤ k) → w'.heap[k]? = w.heap[k]?

theorem Mid.refl (B E : Nat) (w : World) : Mid B E w w := ⟨rfl, rfl, rfl, Nat.le_refl _, fun _ _ _ => rfl⟩
theorem Mid.trans {B E : Nat} {a b c : World} (h : Mid B E a b) (k : Mid B E b c) : Mid B E a c :=
  ⟨k.os.trans h.os, k.tape.trans h.tape, k.output.trans h.output, Nat.le_trans h.size k.size, fun i hi hb => (k.block i (Nat.lt_of_lt_of_le hi h.size) hb).trans (h.block i hi hb)⟩
theorem Mid.mono {B E B' E' : Nat} {w w' : World} (h : Mid B E w w') (h1 : B' ≤ B) (h2 : E ≤ E') : Mid B' E' w w' :=
  ⟨h.os, h.tape, h.output, h.size, fun k hk hb => h.block k hk (by omega)⟩
theorem Mid.below {B E : Nat} {w w' : World} (h : Mid B E w w') (hB : B ≤ w.heap.size) : Below B w w' :=
  ⟨h.os, h.tape, h.output, h.size, fun k hk => h.block k (by omega) (.inl hk)⟩
theorem Mid.of_below {B E : Nat} {w w' : World} (h : Below w.heap.size w w') : Mid B E w w' :=
  ⟨h.os, h.tape, h.output, h.size, fun k hk _ => h.block k hk⟩
theorem Mid.setCell {B E : Nat} {w w' : World} (h : Mid B E w w') {a : Addr} (h1 : B ≤ a.block) (h2 : a.block < E) (u : Value) : Mid B E w (w'.setCell a u) := by
  have hb : Below w'.heap.size w' w' := Below.refl _ _
  have h' := hb.setCell (p := a) (B := w'.heap.size)
  refine ⟨h.os, h.tape, h.output, by simpa using h.size, fun k hk hb => ?_⟩
  rw [Below.heap_setCell _ _ _ _ (by omega)]
  exact h.block k hk hb

/-- a block of so many cells, none of them frozen -/
def Row (w : World) (p n : Nat) : Prop := ∃ xs, Blk w p xs ∧ xs.length = n
theorem Row.set {w : World} {p n : Nat} (h : Row w p n) (q j : Nat) (u : Value) : Row (w.setCell ⟨q, j, none⟩ u) p n := by
  obtain ⟨xs, hb, hl⟩ := h
  by_cases hq : p = q
  · subst hq; exact ⟨_, hb.set j u, by simpa using hl⟩
  · exact ⟨xs, hb.other (a := ⟨q, j, none⟩) hq u, hl⟩
theorem Row.cell {w : World} {p n : Nat} (h : Row w p n) (j : Nat) (hj : j < n) : ∃ y, w.cell? ⟨p, j, none⟩ = some y := by
  obtain ⟨xs, hb, hl⟩ := h
  rw [hb.cell, List.getElem?_eq_getElem (by omega)]
  exact ⟨_, rfl⟩
theorem Row.frozen {w : World} {p n : Nat} (h : Row w p n) (j : Nat) : w.frozen? ⟨p, j, none⟩ = false := by
  obtain ⟨xs, hb, hl⟩ := h
  exact hb.frozen j
theorem Row.below {w w' : World} {p n : Nat} (h : Row w p n) (hb : Below w.heap.size w w') : Row w' p n := by
  obtain ⟨xs, hx, hl⟩ := h
  exact ⟨xs, hx.below hb, hl⟩
theorem Row.of_own {w : World} {B : Nat} {e : TypeId} {size g n cap : Nat} {ys : List Value} (h : w.ownsRow B e size (.slice (some ⟨g, 0, none⟩) n cap) n ys) : ∃ m, n * size ≤ m ∧ Row w g m := by
  have hl := h.1
  rcases h.2 with ⟨h', _⟩ | ⟨g', cap', cur, h', hb, hg, _, _, hs, ht⟩
  · simp at h'
  · simp only [Value.slice.injEq, Option.some.injEq, Addr.mk.injEq, and_true, true_and] at h'
    obtain ⟨rfl, rfl⟩ := h'
    refine ⟨cur.toList.length, ?_, cur.toList, ⟨cur, e, hg, rfl⟩, rfl⟩
    rw [← hl, ← ht]
    simp
    omega
theorem Row.cell_ne {w : World} {p n : Nat} (h : Row w p n) {i j : Nat} (hij : j ≠ i) (u : Value) : (w.setCell ⟨p, j, none⟩ u).cell? ⟨p, i, none⟩ = w.cell? ⟨p, i, none⟩ := by
  obtain ⟨xs, hb, _⟩ := h
  rw [(hb.set j u).cell, hb.cell, List.getElem?_set_ne hij]
def Keeps (w w' : World) : Prop := ∀ p n, Row w p n → Row w' p n
theorem Keeps.refl (w : World) : Keeps w w := fun _ _ h => h
theorem Keeps.trans {a b c : World} (h : Keeps a b) (k : Keeps b c) : Keeps a c := fun p n hr => k p n (h p n hr)
theorem Keeps.set {a w : World} (h : Keeps a w) (q j : Nat) (u : Value) : Keeps a (w.setCell ⟨q, j, none⟩ u) := fun p n hr => (h p n hr).set q j u
theorem Keeps.of_below {w w' : World} (h : Below w.heap.size w w') : Keeps w w' := fun _ _ hr => hr.below h

def MkPost (g k : Nat) (w : World) (e : Ending) (w' : World) : Prop := e = .returned (.int .i64 (k : Int)) ∧ Mid g (g + 1) w w' ∧ Keeps w w'

set_option maxHeartbeats 1000000 in
theorem markMinsS_any (w : World) (g n cap k m : Nat) (h : Row w g m) (hm : n * 5 ≤ m) (hn : n ≤ 1048576) (hk : k ≤ 1152921504606846976) :
    Calls Tryd.prog 87 #[.slice (some ⟨g, 0, none⟩) n cap, .int .i64 (k : Int)] w (MkPost g (k + 5 * n) w) := by
  have HR := Lib.hid h
  clear h
  go_enter Tryd.func87, Tryd.ntmps87
  go_wp2
  go_loopw [1, 5] (fun q i wr => ∃ j : Nat, j ≤ n ∧ i = .int .i64 j ∧ q = .int .i64 ((k + 5 * j : Nat) : Int) ∧ Mid g (g + 1) w wr ∧ Keeps w wr) (fun _ i _ => n - (intOf i).toNat)
  case atStart => exact ⟨0, Nat.zero_le _, rfl, rfl, Mid.refl _ _ _, Keeps.refl _⟩
  case round =>
    obtain ⟨j, hj, rfl, rfl, hM, hK⟩ := hrel
    obtain ⟨wo, rfl⟩ : ∃ wo : World, wo = wr := ⟨_, rfl⟩
    by_cases hlt : j < n
    · have hrow := hK _ _ HR.out
      obtain ⟨y0, c0⟩ := hrow.cell (j * 5) (by omega)
      obtain ⟨y1, c1⟩ := hrow.cell (j * 5 + 1) (by omega)
      obtain ⟨y2, c2⟩ := hrow.cell (j * 5 + 2) (by omega)
      obtain ⟨y3, c3⟩ := hrow.cell (j * 5 + 3) (by omega)
      obtain ⟨y4, c4⟩ := hrow.cell (j * 5 + 4) (by omega)
      have f0 := hrow.frozen (j * 5)
      have f1 := hrow.frozen (j * 5 + 1)
      have f2 := hrow.frozen (j * 5 + 2)
      have f3 := hrow.frozen (j * 5 + 3)
      have f4 := hrow.frozen (j * 5 + 4)
      have HM := Lib.hid hM
      have HK := Lib.hid hK
      have hcast : ((k + 5 * j : Nat) : Int) = (k : Int) + 5 * j := by omega
      clear hM hK hrow
      go_wp2_with (fail)
      go_roundw
      case rel => exact ⟨j + 1, by omega, by go_num, by congr 1, ((((HM.out.setCell (a := ⟨g, j * 5, none⟩) (Nat.le_refl _) (Nat.lt_succ_self _) _).setCell (a := ⟨g, j * 5 + 1, none⟩) (Nat.le_refl _) (Nat.lt_succ_self _) _).setCell (a := ⟨g, j * 5 + 2, none⟩) (Nat.le_refl _) (Nat.lt_succ_self _) _).setCell (a := ⟨g, j * 5 + 3, none⟩) (Nat.le_refl _) (Nat.lt_succ_self _) _).setCell (a := ⟨g, j * 5 + 4, none⟩) (Nat.le_refl _) (Nat.lt_succ_self _) _, ((((HK.out.set _ _ _).set _ _ _).set _ _ _).set _ _ _).set _ _ _⟩
      case measure => simp [intOf]; omega
    · obtain rfl : j = n := by omega
      have HM := Lib.hid hM
      have HK := Lib.hid hK
      clear hM hK
      go_wp2
      go_ret
      exact ⟨rfl, HM.out, HK.out⟩

/-- a program's rows, from B up to E -/
def Rows3 (B E : Nat) (w : World) (g : Nat) (fs : List Mf) : Prop :=
  B ≤ g ∧ g < E ∧ (∃ m, fs.length * 3 ≤ m ∧ Row w g m) ∧ ∀ i f, fs[i]? = some f → ∃ gi m, gi ≠ g ∧ B ≤ gi ∧ gi < E ∧ w.cell? ⟨g, i * 3 + 2, none⟩ = some (.slice (some ⟨gi, 0, none⟩) f.ins.length f.ins.length) ∧ f.ins.length * 5 ≤ m ∧ Row w gi m

theorem OwnMfs.rows {B : Nat} {w : World} {g cap : Nat} {fs : List Mf} (h : OwnMfs B w g cap fs) : Rows3 B w.heap.size w g fs := by
  obtain ⟨ys, ho, hx⟩ := h
  have hl := ownsRow_lt ho
  refine ⟨hl.2.1, hl.1, Row.of_own ho, fun i f hi => ?_⟩
  have hil := idx_lt hi
  obtain ⟨_, _, gi, hg, h2, hm⟩ := hx i f hi
  have hlm := hm.lt
  obtain ⟨zs, hz, _⟩ := hm
  obtain ⟨m, hm1, hm2⟩ := Row.of_own hz
  exact ⟨gi, m, hg, hlm.2, hlm.1, by rw [ho.cellAt (i * 3 + 2) (by omega)]; exact h2, hm1, hm2⟩
theorem Rows3.below {B E : Nat} {w w' : World} {g : Nat} {fs : List Mf} (h : Rows3 B E w g fs) (hE : E ≤ w.heap.size) (hb : Below w.heap.size w w') : Rows3 B E w' g fs := by
  obtain ⟨h1, h2, ⟨m, h3, h4⟩, h5⟩ := h
  refine ⟨h1, h2, ⟨m, h3, h4.below hb⟩, fun i f hi => ?_⟩
  obtain ⟨gi, m, a1, a2, a3, a4, a5, a6⟩ := h5 i f hi
  exact ⟨gi, m, a1, a2, a3, by rw [hb.cell (p := ⟨g, i * 3 + 2, none⟩) (by simp only []; omega)]; exact a4, a5, a6.below hb⟩

def MkfPost (B E k n : Nat) (w : World) (e : Ending) (w' : World) : Prop := ∃ K : Nat, e = .returned (.int .i64 (K : Int)) ∧ K ≤ k + n * 6000000 ∧ Mid B E w w' ∧ Keeps w w'

set_option maxHeartbeats 1000000 in
theorem markMfnS_any (w : World) (B E g cap k : Nat) (fs : List Mf) (h : Rows3 B E w g fs) (hle : MfsLe fs) (hk : k ≤ 1048576) :
    Calls Tryd.prog 64 #[.slice (some ⟨g, 0, none⟩) fs.length cap, .int .i64 (k : Int)] w (MkfPost B E k fs.length w) := by
  obtain ⟨n, hn⟩ : ∃ n, n = fs.length := ⟨_, rfl⟩
  have hlen := hle.1
  have HL := Lib.hid hle.2
  obtain ⟨hg1, hg2, ⟨m, hm, hrow⟩, hin⟩ := h
  rw [← hn] at hm hlen ⊢
  have HR := Lib.hid hrow
  have HI := Lib.hid hin
  have HN := Lib.hid hn
  clear hrow hin hn hle
  go_enter Tryd.func64, Tryd.ntmps64
  go_wp2
  go_loopw [1, 5] (fun q i wr => ∃ j K : Nat, j ≤ n ∧ i = .int .i64 j ∧ q = .int .i64 (K : Int) ∧ K ≤ k + j * 6000000 ∧ Mid B E w wr ∧ Keeps w wr ∧ Hid (∀ i, i < n → wr.cell? ⟨g, i * 3 + 2, none⟩ = w.cell? ⟨g, i * 3 + 2, none⟩)) (fun _ i _ => n - (intOf i).toNat)
  case atStart => exact ⟨0, k, Nat.zero_le _, rfl, rfl, by omega, Mid.refl _ _ _, Keeps.refl _, Lib.hid fun _ _ => rfl⟩
  case round =>
    obtain ⟨j, K, hj, rfl, rfl, hKb, hM, hK, hC⟩ := hrel
    obtain ⟨wo, rfl⟩ : ∃ wo : World, wo = wr := ⟨_, rfl⟩
    by_cases hlt : j < n
    · have hrow := hK _ _ HR.out
      have hjl : j < fs.length := by rw [← HN.out]; exact hlt
      obtain ⟨gi, mi, a1, a2, a3, a4, a5, a6⟩ := HI.out j fs[j] (List.getElem?_eq_getElem hjl)
      have hli := HL.out fs[j] (List.getElem_mem hjl)
      have hc := hC.out j hlt
      rw [a4] at hc
      have hri := hK _ _ a6
      generalize fs[j].ins.length = li at *
      obtain ⟨y0, c0⟩ := hrow.cell (j * 3) (by omega)
      obtain ⟨y1, c1⟩ := hrow.cell (j * 3 + 1) (by omega)
      have f0 := hrow.frozen (j * 3)
      have f1 := hrow.frozen (j * 3 + 1)
      have HM := Lib.hid hM
      have HK := Lib.hid hK
      have HRI := Lib.hid (fun i1 u1 i2 u2 => ((hri.set g i1 u1).set g i2 u2))
      have hb : 1048576 * 6000000 ≤ 6291456000000 := by decide
      have hKK : K ≤ 6291457048576 := by
        have : j * 6000000 ≤ 1048576 * 6000000 := Nat.mul_le_mul_right _ (by omega)
        omega
      clear hM hK hri a4 a6
      go_wp2_with (fail)
      go_at_call 87
      have hKc : ((K : Int) + 1 + 1) = ((K + 2 : Nat) : Int) := by omega
      rw [hKc]
      refine (markMinsS_any _ gi li li (K + 2) mi (HRI.out _ _ _ _) a5 hli (by omega)).mono ?_
      rintro e w2 ⟨rfl, hM2, hK2⟩
      have HM2 := Lib.hid (((HM.out.setCell (a := ⟨g, j * 3, none⟩) hg1 hg2 _).setCell (a := ⟨g, j * 3 + 1, none⟩) hg1 hg2 _).trans (hM2.mono a2 a3))
      have HK2 := Lib.hid (((HK.out.set _ _ _).set _ _ _).trans hK2)
      have hgl : g < wo.heap.size := World.block_lt_of_cell? _ _ hc
      have HC2 : Hid (∀ i, i < n → w2.cell? ⟨g, i * 3 + 2, none⟩ = w.cell? ⟨g, i * 3 + 2, none⟩) := Lib.hid fun i hi => by
        rw [World.cell?_of_block (a := ⟨g, i * 3 + 2, none⟩) (hM2.block g (by simpa using hgl) (by omega)), (hrow.set _ _ _).cell_ne (by omega), hrow.cell_ne (by omega)]
        exact hC.out i hi
      clear hM2 hK2 hC HM HK HRI c0 c1 f0 f1 hc hKc
      go_wp2_with (fail)
      go_roundw
      case rel => exact ⟨j + 1, K + 2 + 5 * li, by omega, by go_num, rfl, by omega, HM2.out, HK2.out, HC2⟩
      case measure => simp [intOf]; omega
    · obtain rfl : j = n := by omega
      have HM := Lib.hid hM
      have HK := Lib.hid hK
      clear hM hK hC
      go_wp2
      go_ret
      exact ⟨K, rfl, hKb, HM.out, HK.out⟩

set_option maxHeartbeats 1000000 in
theorem markMach_any (w : World) (B E g cap k : Nat) (fs : List Mf) (h : Rows3 B E w g fs) (hE : E ≤ w.heap.size) (hle : MfsLe fs) (hk : k ≤ 1048576) :
    Calls Tryd.prog 27 #[.agg #[.slice (some ⟨g, 0, none⟩) fs.length cap], .int .i64 (k : Int)] w (MkfPost B E k fs.length w) := by
  have HI := Lib.hid (fun w' (hb : Below w.heap.size w w') => markMfnS_any w' B E g cap k fs (h.below hE hb) hle hk)
  obtain ⟨n, hn⟩ : ∃ n, n = fs.length := ⟨_, rfl⟩
  rw [← hn] at HI ⊢
  clear hn h
  go_enter Tryd.func27, Tryd.ntmps27
  go_wp2_with (fail)
  go_at_call 64
  refine (HI.out _ (below1 _ _)).mono ?_
  rintro e w1 ⟨K, rfl, hKb, hM, hK⟩
  have HM := Lib.hid ((Mid.of_below (below1 _ _) : Mid B E w _).trans hM)
  have HK := Lib.hid ((Keeps.of_below (below1 _ _)).trans hK)
  clear hM hK HI
  go_wp2_with (fail)
  go_ret
  exact ⟨K, rfl, hKb, HM.out, HK.out⟩

/-- marks in a row of ints; what stands elsewhere stands -/
def MarkO (B : Nat) (v : Value) (n k : Nat) (w : World) (e : Ending) (w' : World) : Prop :=
  e = .returned (.int .i64 ((k + n : Nat) : Int)) ∧ w'.ownsRow B 3 1 v n (ints (iota k n)) ∧ Only v.ownBlock.toList w w'

set_option maxHeartbeats 1000000 in
theorem markIntS_only (w : World) (B : Nat) (v : Value) (n k : Nat) (xs : List Value) (h : w.ownsRow B 3 1 v n xs) (hk : k + n ≤ 1152921504606846976) :
    Calls Tryd.prog 28 #[v, .int .i64 k] w (MarkO B v n k w) := by
  by_cases hv : v = .slice none 0 0
  · subst hv
    have hn : n = 0 := by
      rcases h.2 with ⟨_, h⟩ | ⟨_, _, _, h, _⟩
      · exact h
      · cases h
    subst hn
    go_enter Tryd.func28, Tryd.ntmps28
    go_wp2
    refine wp_loop_rounds 1 ?_
    rw [rounds_succ]
    go_wp2
    go_ret
    exact ⟨rfl, ⟨rfl, .inl ⟨rfl, rfl⟩⟩, Only.refl _ _⟩
  obtain ⟨g, cap, rfl⟩ := ownsRow_form h hv
  have HO := Lib.hid h
  clear h hv
  go_enter Tryd.func28, Tryd.ntmps28
  go_wp2
  go_loopw [1, 5] (fun q i wr => ∃ (j : Nat) (ys : List Value), j ≤ n ∧ i = .int .i64 j ∧ q = .int .i64 ((k + j : Nat) : Int) ∧ wr.ownsRow B 3 1 (.slice (some ⟨g, 0, none⟩) n cap) n ys ∧ Hid (∀ i, i < j → ys[i]? = some (.int .i64 ((k + i : Nat) : Int))) ∧ Only [g] w wr) (fun _ i _ => n - (intOf i).toNat)
  case atStart => exact ⟨0, xs, Nat.zero_le _, rfl, rfl, HO.out, by simp [Hid], Only.refl _ _⟩
  case round =>
    obtain ⟨j, ys, hj, rfl, rfl, hown, hys, hB⟩ := hrel
    obtain ⟨wo, rfl⟩ : ∃ wo : World, wo = wr := ⟨_, rfl⟩
    by_cases hlt : j < n
    · have hlen : ys.length = n := by have := hown.1; omega
      have hfz := hown.frozenAt j
      have hck := hown.cellAt j (by omega)
      rw [List.getElem?_eq_getElem (by omega)] at hck
      have HST := Lib.hid (hown.stored j (.int .i64 ((k + j : Nat) : Int)))
      have HB' := Lib.hid (hB.setCell (p := ⟨g, j, none⟩) (List.mem_singleton.2 rfl) (.int .i64 ((k + j : Nat) : Int)))
      clear hown hB
      have hcast : ((k + j : Nat) : Int) = (k : Int) + j := by omega
      go_wp2
      go_roundw
      case rel =>
        refine ⟨j + 1, _, by omega, by go_num, by congr 1, HST.out.1, ?_, HB'.out⟩
        show ∀ i, _
        intro i hi
        by_cases hij : i = j
        · subst hij
          rw [List.getElem?_set_self (by omega)]
        · rw [List.getElem?_set_ne (by omega)]
          exact hys.out i (by omega)
      case measure => simp [intOf]; omega
    · obtain rfl : j = n := by omega
      have hyi : ys = ints (iota k j) := by
        have hlen : ys.length = j := by have := hown.1; omega
        apply List.ext_getElem?
        intro i
        by_cases hi : i < j
        · rw [hys.out i hi]
          simp [ints, iota, hi]
        · rw [List.getElem?_eq_none (by omega), List.getElem?_eq_none (by simp [ints, iota]; omega)]
      subst hyi
      have HOW := Lib.hid hown
      have HB' := Lib.hid hB
      clear hown hB
      go_wp2
      go_ret
      exact ⟨rfl, HOW.out, HB'.out⟩

end Go.Proofs.YtbdbmmdnidonjaaDoor
