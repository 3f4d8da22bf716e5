/- Marks: what markMach and markIntS store, and where. No conditions but on how many there are. Outcomes: compared, marked, the marks found again. -/
import Derived.Test.YtbdbmmdnidonjaaDoorTJb
import Derived.Test.YtbdbmmdnidonjaaDoorTJa
import Derived.Test.YtbdbmmdnidonjaaDoorTJc
import Derived.Test.YtbdbmmdnidonjaaDoorTJm
set_option linter.unusedVariables false
set_option linter.unusedSimpArgs false
set_option maxRecDepth 100000
namespace Go.Proofs.YtbdbmmdnidonjaaDoor
open Go.RowKit
/-- of what was there, only blocks from B up to E may be other -/
structure Mid (B E : Nat) (w w' : World) : Prop where
  os : w'.os = w.os
  tape : w'.tape = w.tape
  output : w'.output = w.output
  size : w.heap.size ≤ w'.heap.size
  block : ∀ k, k < w.heap.size → (k < B ∨ E ≤ k) → w'.heap[k]? = w.heap[k]?
theorem Mid.refl (B E : Nat) (w : World) : Mid B E w w := ⟨rfl, rfl, rfl, Nat.le_refl _, fun _ _ _ => rfl⟩
theorem Mid.trans {B E : Nat} {a b c : World} (h : Mid B E a b) (k : Mid B E b c) : Mid B E a c :=
  ⟨k.os.trans h.os, k.tape.trans h.tape, k.output.trans h.output, Nat.le_trans h.size k.size, fun i hi hb => (k.block i (Nat.lt_of_lt_of_le hi h.size) hb).trans (h.block i hi hb)⟩
theorem Mid.mono {B E B' E' : Nat} {w w' : World} (h : Mid B E w w') (h1 : B' ≤ B) (h2 : E ≤ E') : Mid B' E' w w' :=
  ⟨h.os, h.tape, h.output, h.size, fun k hk hb => h.block k hk (by omega)⟩
theorem Mid.below {B E : Nat} {w w' : World} (h : Mid B E w w') (hB : B ≤ w.heap.size) : Below B w w' :=
  ⟨h.os, h.tape, h.output, h.size, fun k hk => h.block k (by omega) (.inl hk)⟩
theorem Mid.of_below {B E : Nat} {w w' : World} (h : Below w.heap.size w w') : Mid B E w w' :=
  ⟨h.os, h.tape, h.output, h.size, fun k hk _ => h.block k hk⟩
theorem Mid.setCell {B E : Nat} {w w' : World} (h : Mid B E w w') {a : Addr} (h1 : B ≤ a.block) (h2 : a.block < E) (u : Value) : Mid B E w (w'.setCell a u) := by
  have hb : Below w'.heap.size w' w' := Below.refl _ _
  have h' := hb.setCell (p := a) (B := w'.heap.size)
  refine ⟨h.os, h.tape, h.output, by simpa using h.size, fun k hk hb => ?_⟩
  rw [Below.heap_setCell _ _ _ _ (by omega)]
  exact h.block k hk hb
/-- a block of so many cells, none of them frozen -/
def Row (w : World) (p n : Nat) : Prop := ∃ xs, Blk w p xs ∧ xs.length = n
theorem Row.set {w : World} {p n : Nat} (h : Row w p n) (q j : Nat) (u : Value) : Row (w.setCell ⟨q, j, none⟩ u) p n := by
  obtain ⟨xs, hb, hl⟩ := h
  by_cases hq : p = q
  · subst hq; exact ⟨_, hb.set j u, by simpa using hl⟩
  · exact ⟨xs, hb.other (a := ⟨q, j, none⟩) hq u, hl⟩
theorem Row.cell {w : World} {p n : Nat} (h : Row w p n) (j : Nat) (hj : j < n) : ∃ y, w.cell? ⟨p, j, none⟩ = some y := by
  obtain ⟨xs, hb, hl⟩ := h
  rw [hb.cell, List.getElem?_eq_getElem (by omega)]
  exact ⟨_, rfl⟩
theorem Row.frozen {w : World} {p n : Nat} (h : Row w p n) (j : Nat) : w.frozen? ⟨p, j, none⟩ = false := by
  obtain ⟨xs, hb, hl⟩ := h
  exact hb.frozen j
theorem Row.below {w w' : World} {p n : Nat} (h : Row w p n) (hb : Below w.heap.size w w') : Row w' p n := by
  obtain ⟨xs, hx, hl⟩ := h
  exact ⟨xs, hx.below hb, hl⟩
theorem Row.of_own {w : World} {B : Nat} {e : TypeId} {size g n cap : Nat} {ys : List Value} (h : w.ownsRow B e size (.slice (some ⟨g, 0, none⟩) n cap) n ys) : ∃ m, n * size ≤ m ∧ Row w g m := by
  have hl := h.1
  rcases h.2 with ⟨h', _⟩ | ⟨g', cap', cur, h', hb, hg, _, _, hs, ht⟩
  · simp at h'
  · simp only [Value.slice.injEq, Option.some.injEq, Addr.mk.injEq, and_true, true_and] at h'
    obtain ⟨rfl, rfl⟩ := h'
    refine ⟨cur.toList.length, ?_, cur.toList, ⟨cur, e, hg, rfl⟩, rfl⟩
    rw [← hl, ← ht]
    simp
    omega
def Keeps (w w' : World) : Prop := ∀ p n, Row w p n → Row w' p n
theorem Keeps.refl (w : World) : Keeps w w := fun _ _ h => h
theorem Keeps.trans {a b c : World} (h : Keeps a b) (k : Keeps b c) : Keeps a c := fun p n hr => k p n (h p n hr)
theorem Keeps.set {a w : World} (h : Keeps a w) (q j : Nat) (u : Value) : Keeps a (w.setCell ⟨q, j, none⟩ u) := fun p n hr => (h p n hr).set q j u
theorem Keeps.of_below {w w' : World} (h : Below w.heap.size w w') : Keeps w w' := fun _ _ hr => hr.below h
/-- a program's rows, from B up to E -/
def Rows3 (B E : Nat) (w : World) (g : Nat) (fs : List Mf) : Prop :=
  B ≤ g ∧ g < E ∧ (∃ m, fs.length * 3 ≤ m ∧ Row w g m) ∧ ∀ i f, fs[i]? = some f → ∃ gi m, gi ≠ g ∧ B ≤ gi ∧ gi < E ∧ w.cell? ⟨g, i * 3 + 2, none⟩ = some (.slice (some ⟨gi, 0, none⟩) f.ins.length f.ins.length) ∧ f.ins.length * 5 ≤ m ∧ Row w gi m
theorem OwnMfs.rows {B : Nat} {w : World} {g cap : Nat} {fs : List Mf} (h : OwnMfs B w g cap fs) : Rows3 B w.heap.size w g fs := by
  obtain ⟨ys, ho, hx⟩ := h
  have hl := ownsRow_lt ho
  refine ⟨hl.2.1, hl.1, Row.of_own ho, fun i f hi => ?_⟩
  have hil := idx_lt hi
  obtain ⟨_, _, gi, hg, h2, hm⟩ := hx i f hi
  have hlm := hm.lt
  obtain ⟨zs, hz, _⟩ := hm
  obtain ⟨m, hm1, hm2⟩ := Row.of_own hz
  exact ⟨gi, m, hg, hlm.2, hlm.1, by rw [ho.cellAt (i * 3 + 2) (by omega)]; exact h2, hm1, hm2⟩
theorem Rows3.below {B E : Nat} {w w' : World} {g : Nat} {fs : List Mf} (h : Rows3 B E w g fs) (hE : E ≤ w.heap.size) (hb : Below w.heap.size w w') : Rows3 B E w' g fs := by
  obtain ⟨h1, h2, ⟨m, h3, h4⟩, h5⟩ := h
  refine ⟨h1, h2, ⟨m, h3, h4.below hb⟩, fun i f hi => ?_⟩
  obtain ⟨gi, m, a1, a2, a3, a4, a5, a6⟩ := h5 i f hi
  exact ⟨gi, m, a1, a2, a3, by rw [hb.cell (p := ⟨g, i * 3 + 2, none⟩) (by simp only []; omega)]; exact a4, a5, a6.below hb⟩
/-- marks in a row of ints; what stands elsewhere stands -/
def MarkO (B : Nat) (v : Value) (n k : Nat) (w : World) (e : Ending) (w' : World) : Prop :=
  e = .returned (.int .i64 ((k + n : Nat) : Int)) ∧ w'.ownsRow B 3 1 v n (ints (iota k n)) ∧ Only v.ownBlock.toList w w'
set_option maxHeartbeats 1000000 in
theorem markIntS_only (w : World) (B : Nat) (v : Value) (n k : Nat) (xs : List Value) (h : w.ownsRow B 3 1 v n xs) (hk : k + n ≤ 1152921504606846976) :
    Calls Tryd.prog 28 #[v, .int .i64 k] w (MarkO B v n k w) := by
  by_cases hv : v = .slice none 0 0
  · subst hv
    have hn : n = 0 := by
      rcases h.2 with ⟨_, h⟩ | ⟨_, _, _, h, _⟩
      · exact h
      · cases h
    subst hn
    go_enter Tryd.func28, Tryd.ntmps28
    go_wp2
    refine wp_loop_rounds 1 ?_
    rw [rounds_succ]
    go_wp2
    go_ret
    exact ⟨rfl, ⟨rfl, .inl ⟨rfl, rfl⟩⟩, Only.refl _ _⟩
  obtain ⟨g, cap, rfl⟩ := ownsRow_form h hv
  have HO := Lib.hid h
  clear h hv
  go_enter Tryd.func28, Tryd.ntmps28
  go_wp2
  go_loopw [1, 5] (fun q i wr => ∃ (j : Nat) (ys : List Value), j ≤ n ∧ i = .int .i64 j ∧ q = .int .i64 ((k + j : Nat) : Int) ∧ wr.ownsRow B 3 1 (.slice (some ⟨g, 0, none⟩) n cap) n ys ∧ Hid (∀ i, i < j → ys[i]? = some (.int .i64 ((k + i : Nat) : Int))) ∧ Only [g] w wr) (fun _ i _ => n - (intOf i).toNat)
  case atStart => exact ⟨0, xs, Nat.zero_le _, rfl, rfl, HO.out, by simp [Hid], Only.refl _ _⟩
  case round =>
    obtain ⟨j, ys, hj, rfl, rfl, hown, hys, hB⟩ := hrel
    obtain ⟨wo, rfl⟩ : ∃ wo : World, wo = wr := ⟨_, rfl⟩
    by_cases hlt : j < n
    · have hlen : ys.length = n := by have := hown.1; omega
      have hfz := hown.frozenAt j
      have hck := hown.cellAt j (by omega)
      rw [List.getElem?_eq_getElem (by omega)] at hck
      have HST := Lib.hid (hown.stored j (.int .i64 ((k + j : Nat) : Int)))
      have HB' := Lib.hid (hB.setCell (p := ⟨g, j, none⟩) (List.mem_singleton.2 rfl) (.int .i64 ((k + j : Nat) : Int)))
      clear hown hB
      have hcast : ((k + j : Nat) : Int) = (k : Int) + j := by omega
      go_wp2
      go_roundw
      case rel =>
        refine ⟨j + 1, _, by omega, by go_num, by congr 1, HST.out.1, ?_, HB'.out⟩
        show ∀ i, _
        intro i hi
        by_cases hij : i = j
        · subst hij
          rw [List.getElem?_set_self (by omega)]
        · rw [List.getElem?_set_ne (by omega)]
          exact hys.out i (by omega)
      case measure => simp [intOf]; omega
    · obtain rfl : j = n := by omega
      have hyi : ys = ints (iota k j) := by
        have hlen : ys.length = j := by have := hown.1; omega
        apply List.ext_getElem?
        intro i
        by_cases hi : i < j
        · rw [hys.out i hi]
          simp [ints, iota, hi]
        · rw [List.getElem?_eq_none (by omega), List.getElem?_eq_none (by simp [ints, iota]; omega)]
      subst hyi
      have HOW := Lib.hid hown
      have HB' := Lib.hid hB
      clear hown hB
      go_wp2
      go_ret
      exact ⟨rfl, HOW.out, HB'.out⟩
end Go.Proofs.YtbdbmmdnidonjaaDoor
set_option maxRecDepth 100000
namespace Go.Proofs.YtbdbmmdnidonjaaDoor
open Go.RowKit
theorem Blk.c4 {w : World} {p : Nat} {x0 x1 x2 x3 : Value} (h : Blk w p [x0, x1, x2, x3]) : w.cell? ⟨p, 0, none⟩ = some x0 ∧ w.cell? ⟨p, 1, none⟩ = some x1 ∧ w.cell? ⟨p, 2, none⟩ = some x2 ∧ w.cell? ⟨p, 3, none⟩ = some x3 := by
  refine ⟨?_, ?_, ?_, ?_⟩
  all_goals rw [h.cell]; rfl
theorem Blk.c1 {w : World} {p : Nat} {x0 : Value} (h : Blk w p [x0]) : w.cell? ⟨p, 0, none⟩ = some x0 := by rw [h.cell]; rfl
theorem OutRd.form {w : World} {o : Option Rs} {v : Value} (h : OutRd w o v) : ∃ sa sn sc en vl ca cn cc, v = .agg #[.slice sa sn sc, .int .i64 en, .int .i64 vl, .slice ca cn cc] := by
  cases o with
  | none => exact ⟨_, _, _, _, _, _, _, _, h⟩
  | some r =>
    obtain ⟨sa, sn, sc, ca, cc, hv, _⟩ := h
    exact ⟨_, _, _, _, _, _, _, _, hv⟩
/-- an outcome's two rows, the call's own from B on -/
structure OutOwn (w : World) (B : Nat) (sa : Option Addr) (sn sc : Nat) (ca : Option Addr) (cn cc : Nat) (xs ys : List Value) : Prop where
  s : w.ownsRow B 3 1 (.slice sa sn sc) sn xs
  c : w.ownsRow B 3 1 (.slice ca cn cc) cn ys
  ap : Apart2 (.slice ca cn cc) (.slice sa sn sc)
theorem OutAt.own {w : World} {B : Nat} {o : Option Rs} {sa : Option Addr} {sn sc : Nat} {en vl : Int} {ca : Option Addr} {cn cc : Nat} (h : OutAt w B o (.agg #[.slice sa sn sc, .int .i64 en, .int .i64 vl, .slice ca cn cc])) : ∃ xs ys, OutOwn w B sa sn sc ca cn cc xs ys := by
  cases o with
  | none =>
    unfold OutAt at h
    simp only [Value.agg.injEq, Array.mk.injEq, List.cons.injEq, and_true, Value.slice.injEq, Value.int.injEq, true_and] at h
    obtain ⟨⟨rfl, rfl, rfl⟩, rfl, rfl, ⟨rfl, rfl, rfl⟩⟩ := h
    exact ⟨[], [], World.ownsRow_nil _ _ _ _, World.ownsRow_nil _ _ _ _, fun k hk => by simp [Value.ownBlock] at hk⟩
  | some r =>
    obtain ⟨a1, a2, a3, a4, a5, hv, h1, h2, h3⟩ := h
    simp only [Value.agg.injEq, Array.mk.injEq, List.cons.injEq, and_true, Value.slice.injEq, Value.int.injEq, true_and] at hv
    obtain ⟨⟨rfl, rfl, rfl⟩, rfl, rfl, ⟨rfl, rfl, rfl⟩⟩ := hv
    obtain ⟨a, c, hform⟩ := saidForm h1
    have hn : sn = r.cm.said.length := by injection hform
    exact ⟨_, _, by rw [hn]; rw [hn] at h1; exact h1, h2, by rw [← hn] at *; exact h3⟩
theorem OutAt.keep {w w' : World} {B : Nat} {o : Option Rs} {v : Value} (h : OutAt w B o v) (hh : ∀ k, B ≤ k → k < w.heap.size → w'.heap[k]? = w.heap[k]?) : OutAt w' B o v := by
  cases o with
  | none => exact h
  | some r =>
    obtain ⟨a1, a2, a3, a4, a5, hv, h1, h2, h3⟩ := h
    exact ⟨a1, a2, a3, a4, a5, hv, row_keep h1 (Nat.le_refl _) hh, row_keep h2 (Nat.le_refl _) hh, h3⟩
theorem OutAt.below {w w' : World} {B : Nat} {o : Option Rs} {v : Value} (h : OutAt w B o v) (hb : Below w.heap.size w w') : OutAt w' B o v := h.keep fun k _ hk => hb.block k hk
theorem OutOwn.below {w w' : World} {B : Nat} {sa : Option Addr} {sn sc : Nat} {ca : Option Addr} {cn cc : Nat} {xs ys : List Value} (h : OutOwn w B sa sn sc ca cn cc xs ys) (hb : Below w.heap.size w w') : OutOwn w' B sa sn sc ca cn cc xs ys :=
  ⟨ownsRow_below h.s hb, ownsRow_below h.c hb, h.ap⟩
theorem OutAt.lens {w : World} {B : Nat} {o : Option Rs} {sa : Option Addr} {sn sc : Nat} {en vl : Int} {ca : Option Addr} {cn cc : Nat} (h : OutAt w B o (.agg #[.slice sa sn sc, .int .i64 en, .int .i64 vl, .slice ca cn cc])) (hs : ∀ r, o = some r → r.cm.said.length ≤ 1048576) : sn ≤ 1048576 ∧ cn ≤ 16 := by
  cases o with
  | none =>
    unfold OutAt at h
    simp only [Value.agg.injEq, Array.mk.injEq, List.cons.injEq, and_true, Value.slice.injEq, Value.int.injEq, true_and] at h
    obtain ⟨⟨rfl, rfl, rfl⟩, rfl, rfl, ⟨rfl, rfl, rfl⟩⟩ := h
    omega
  | some r =>
    obtain ⟨a1, a2, a3, a4, a5, hv, h1, h2, h3⟩ := h
    simp only [Value.agg.injEq, Array.mk.injEq, List.cons.injEq, and_true, Value.slice.injEq, Value.int.injEq, true_and] at hv
    obtain ⟨⟨rfl, rfl, rfl⟩, rfl, rfl, ⟨rfl, rfl, rfl⟩⟩ := hv
    obtain ⟨a, c, hform⟩ := saidForm h1
    have hn : sn = r.cm.said.length := by injection hform
    have := hs r rfl
    omega
end Go.Proofs.YtbdbmmdnidonjaaDoor
