/- Functions and instructions in rows of the call's own. The same lines stand in Mb: let Mb import this text where both are wanted. A program around one function, on the reference's side: l25Alone. What a valid function gives to its bytes; may it be encoded, on the reference's side: l25Can. May a function be encoded, on the reference's side: l25Can. The program around one function that the encoder asks about: impl's and the reference's are valid for the same functions. No program in sight. A row of functions, all alike: slices.Repeat at one function, up to five times. -/
import Derived.Test.YtbdbmmdnidonjaaDoorUJo
import Derived.Test.YtbdbmmdnidonjaaDoorUJk
import Derived.Test.YtbdbmmdnidonjaaDoorUJl
import Derived.Deep.RegionHeld3
import Derived.Laws.CopyOwn
set_option linter.unusedVariables false
set_option linter.unusedSimpArgs false
set_option maxRecDepth 100000
namespace Go.Proofs.YtbdbmmdnidonjaaDoor
open Go.RowKit
theorem Blk.cell1 {w : World} {p : Nat} {x0 : Value} (h : Blk w p [x0]) : w.cell? ⟨p, 0, none⟩ = some x0 := by rw [h.cell]; rfl
/-- instructions in a row of the call's own, nil or not -/
def OwnIns (B : Nat) (w : World) (iv : Value) (xs : List Mi) : Prop :=
 ∃ ys, w.ownsRow B 124 5 iv xs.length ys ∧ ∀ i x, xs[i]? = some x → MiIn ys i x
def MfIns (B : Nat) (w : World) (ys : List Value) (i : Nat) (f : Mf) : Prop :=
 ys[i * 3]? = some (.int .i64 f.params) ∧ ys[i * 3 + 1]? = some (.int .i64 f.slots) ∧ ∃ iv, ys[i * 3 + 2]? = some iv ∧ OwnIns B w iv f.ins
def OwnFns (B : Nat) (w : World) (fv : Value) (fs : List Mf) : Prop :=
 ∃ ys, w.ownsRow B 105 3 fv fs.length ys ∧ ∀ i f, fs[i]? = some f → MfIns B w ys i f
theorem OwnIns.only {B : Nat} {w w' : World} {iv : Value} {xs : List Mi} (h : OwnIns B w iv xs) {bs : List Nat} (ho : Only bs w w') (hb : ∀ b ∈ bs, b < B) : OwnIns B w' iv xs := by
 obtain ⟨ys, h1, h2⟩ := h
 exact ⟨ys, ownsRow_only h1 ho hb, h2⟩
theorem OwnIns.mono {B B' : Nat} {w : World} {iv : Value} {xs : List Mi} (h : OwnIns B w iv xs) (hB : B' ≤ B) : OwnIns B' w iv xs := by
 obtain ⟨ys, h1, h2⟩ := h
 exact ⟨ys, ownsRow_mono h1 hB, h2⟩
theorem OwnIns.form {B : Nat} {w : World} {iv : Value} {xs : List Mi} (h : OwnIns B w iv xs) : ∃ a c, iv = .slice a xs.length c := by
 obtain ⟨ys, h1, _⟩ := h
 rcases h1.2 with ⟨h1, h2⟩ | ⟨g, cp, cur, h1, _⟩
 ·exact ⟨none, 0, by rw [h1, ← h2]⟩
 ·exact ⟨_, cp, h1⟩
theorem OwnIns.at {B : Nat} {w : World} {iv : Value} {xs : List Mi} (h : OwnIns B w iv xs) : MisAt w iv xs := by
 obtain ⟨ys, ho, hx⟩ := h
 rcases ho.2 with ⟨rfl, h0⟩ | ⟨g, cap, cur, rfl, _⟩
 ·obtain rfl : xs = [] := List.eq_nil_of_length_eq_zero h0
  exact ⟨none, 0, rfl, fun i x hi => by simp at hi⟩
 ·exact OwnMis.at ⟨ys, ho, hx⟩
theorem OwnFns.only {B : Nat} {w w' : World} {fv : Value} {fs : List Mf} (h : OwnFns B w fv fs) {bs : List Nat} (ho : Only bs w w') (hb : ∀ b ∈ bs, b < B) : OwnFns B w' fv fs := by
 obtain ⟨ys, h1, h2⟩ := h
 refine ⟨ys, ownsRow_only h1 ho hb, fun i f hi => ?_⟩
 obtain ⟨c0, c1, iv, c2, hm⟩ := h2 i f hi
 exact ⟨c0, c1, iv, c2, hm.only ho hb⟩
theorem OwnFns.at {B : Nat} {w : World} {fv : Value} {fs : List Mf} (h : OwnFns B w fv fs) : MfsAt w fv fs := by
 obtain ⟨ys, ho, hx⟩ := h
 rcases ho.2 with ⟨rfl, h0⟩ | ⟨g, cap, cur, rfl, _⟩
 ·obtain rfl : fs = [] := List.eq_nil_of_length_eq_zero h0
  exact ⟨none, 0, rfl, fun i x hi => by simp at hi⟩
 ·refine ⟨_, _, rfl, fun i f hi => ?_⟩
  have hil := idx_lt hi
  obtain ⟨h0, h1, iv, h2, hm⟩ := hx i f hi
  refine ⟨g, 0, _, rfl, ?_, ?_, ?_, hm.at⟩
  ·rw [Nat.zero_add, ho.cellAt (i * 3) (by omega)]; exact h0
  ·rw [Nat.zero_add, ho.cellAt (i * 3 + 1) (by omega)]; exact h1
  ·rw [Nat.zero_add, ho.cellAt (i * 3 + 2) (by omega)]; exact h2
theorem OwnFns.form {B : Nat} {w : World} {iv : Value} {xs : List Mf} (h : OwnFns B w iv xs) : ∃ a c, iv = .slice a xs.length c := by
 obtain ⟨ys, h1, _⟩ := h
 rcases h1.2 with ⟨h1, h2⟩ | ⟨g, cp, cur, h1, _⟩
 ·exact ⟨none, 0, by rw [h1, ← h2]⟩
 ·exact ⟨_, cp, h1⟩
theorem snoc_at {α : Type} {xs : List α} {x y : α} {i : Nat} (h : (xs ++ [x])[i]? = some y) : (i < xs.length ∧ xs[i]? = some y) ∨ (i = xs.length ∧ y = x) := by
 rcases Nat.lt_or_ge i xs.length with hi | hi
 ·rw [List.getElem?_append_left hi] at h
  exact .inl ⟨hi, h⟩
 ·have hl := idx_lt h
  simp at hl
  obtain rfl : i = xs.length := by omega
  rw [List.getElem?_append_right (Nat.le_refl _)] at h
  simp at h
  exact .inr ⟨rfl, h.symm⟩
theorem OwnIns.snoc {B : Nat} {w' : World} {iv : Value} {xs : List Mi} {ys : List Value} (hx : ∀ i x, xs[i]? = some x → MiIn ys i x) (hl : ys.length = xs.length * 5) {y0 y1 y2 y3 y4 : Int}
  (h : w'.ownsRow B 124 5 iv (xs.length + 1) (ys ++ [.int .i64 y0, .int .i64 y1, .int .i64 y2, .int .i64 y3, .int .i64 y4])) : OwnIns B w' iv (xs ++ [⟨y0, y1, y2, y3, y4⟩]) := by
 refine ⟨_, by rw [List.length_append, List.length_singleton]; exact h, fun i x hi => ?_⟩
 rcases snoc_at hi with ⟨hlt, hi⟩ | ⟨rfl, rfl⟩
 ·obtain ⟨h0, h1, h2, h3, h4⟩ := hx i x hi
  unfold MiIn
  rw [List.getElem?_append_left (by omega), List.getElem?_append_left (by omega), List.getElem?_append_left (by omega), List.getElem?_append_left (by omega), List.getElem?_append_left (by omega)]
  exact ⟨h0, h1, h2, h3, h4⟩
 ·unfold MiIn
  rw [List.getElem?_append_right (by omega), List.getElem?_append_right (by omega), List.getElem?_append_right (by omega), List.getElem?_append_right (by omega), List.getElem?_append_right (by omega), hl]
  simp [show ∀ k m : Nat, k + m - k = m from fun k m => by omega]
/-- rows of instructions are none of functions -/
theorem ins_ne {B B' : Nat} {w : World} {iv fv : Value} {n m : Nat} {ys zs : List Value} (h : w.ownsRow B 124 5 iv n ys) (k : w.ownsRow B' 105 3 fv m zs) : iv.ownBlock = none ∨ iv.ownBlock ≠ fv.ownBlock := by
 rcases h.2 with ⟨rfl, _⟩ | ⟨g, cap, cur, rfl, _, hg, _⟩
 ·exact .inl rfl
 ·right
  intro e
  rcases k.2 with ⟨rfl, _⟩ | ⟨g', cap', cur', rfl, _, hg', _⟩
  ·simp [Value.ownBlock] at e
  ·simp only [Value.ownBlock, Option.some.injEq] at e
   subst e
   rw [hg] at hg'
   simp at hg'
theorem OwnFns.snoc {B : Nat} {w w' : World} {fv fv' iv : Value} {fs : List Mf} {ys : List Value} {p s : Int} {xs : List Mi} (hf : w.ownsRow B 105 3 fv fs.length ys) (hx : ∀ i f, fs[i]? = some f → MfIns B w ys i f) (hi : OwnIns B w iv xs) (hg : w.grownBy w' fv.ownBlock)
  (h : w'.ownsRow B 105 3 fv' (fs.length + 1) (ys ++ [.int .i64 p, .int .i64 s, iv])) : OwnFns B w' fv' (fs ++ [⟨p, s, xs⟩]) := by
 have hl : ys.length = fs.length * 3 := hf.1
 have hk : ∀ iv xs, OwnIns B w iv xs → OwnIns B w' iv xs := fun iv xs ⟨zs, h1, h2⟩ => ⟨zs, h1.kept hg (ins_ne h1 hf), h2⟩
 refine ⟨_, by rw [List.length_append, List.length_singleton]; exact h, fun i f hi' => ?_⟩
 rcases snoc_at hi' with ⟨hlt, hi'⟩ | ⟨rfl, rfl⟩
 ·obtain ⟨h0, h1, v, h2, hm⟩ := hx i f hi'
  refine ⟨?_, ?_, v, ?_, hk _ _ hm⟩
  ·rw [List.getElem?_append_left (by omega)]; exact h0
  ·rw [List.getElem?_append_left (by omega)]; exact h1
  ·rw [List.getElem?_append_left (by omega)]; exact h2
 ·refine ⟨?_, ?_, iv, ?_, hk _ _ hi⟩
  ·rw [List.getElem?_append_right (by omega), hl]; simp
  ·rw [List.getElem?_append_right (by omega), hl]; simp [show ∀ k m : Nat, k + m - k = m from fun k m => by omega]
  ·rw [List.getElem?_append_right (by omega), hl]; simp [show ∀ k m : Nat, k + m - k = m from fun k m => by omega]
theorem OwnFns.mono {B B' : Nat} {w : World} {fv : Value} {fs : List Mf} (h : OwnFns B w fv fs) (hB : B' ≤ B) : OwnFns B' w fv fs := by
 obtain ⟨ys, h1, h2⟩ := h
 refine ⟨ys, ownsRow_mono h1 hB, fun i f hi => ?_⟩
 obtain ⟨c0, c1, iv, c2, hm⟩ := h2 i f hi
 exact ⟨c0, c1, iv, c2, hm.mono hB⟩
theorem rowForm {B : Nat} {w : World} {e : TypeId} {size n : Nat} {v : Value} {ys : List Value} (h : w.ownsRow B e size v n ys) : ∃ a c, v = .slice a n c := by
 rcases h.2 with ⟨h1, h2⟩ | ⟨g, cp, cur, h1, _⟩
 ·exact ⟨none, 0, by rw [h1, ← h2]⟩
 ·exact ⟨_, cp, h1⟩
theorem OwnFns.keep {B : Nat} {w w' : World} {fv : Value} {fs : List Mf} (h : OwnFns B w fv fs) (hh : ∀ k, B ≤ k → k < w.heap.size → w'.heap[k]? = w.heap[k]?) : OwnFns B w' fv fs := by
 obtain ⟨ys, h1, h2⟩ := h
 refine ⟨ys, ownsRow_same h1 fun k hk => hh k (World.ownsRow.lt h1 k hk).1 (World.ownsRow.lt h1 k hk).2, fun i f hi => ?_⟩
 obtain ⟨c0, c1, iv, c2, zs, k1, k2⟩ := h2 i f hi
 exact ⟨c0, c1, iv, c2, zs, ownsRow_same k1 fun k hk => hh k (World.ownsRow.lt k1 k hk).1 (World.ownsRow.lt k1 k hk).2, k2⟩
end Go.Proofs.YtbdbmmdnidonjaaDoor
set_option maxRecDepth 100000
namespace Go.Proofs.YtbdbmmdnidonjaaDoor
open Go.RowKit
def backF : Mf := ⟨0, 0, [⟨22, 0, 0, 0, 0⟩]⟩
def miD (xs : List Mi) (i : Nat) : Mi := xs.getD i ⟨0, 0, 0, 0, 0⟩
def mostK (xs : List Mi) : Nat → Nat
 |0 => 0
 |k + 1 => if (miD xs k).op = 14 ∧ (mostK xs k : Int) ≤ (miD xs k).n ∧ (miD xs k).n < 4 then (miD xs k).n.toNat + 1 else mostK xs k
theorem mostK_le (xs : List Mi) : ∀ k, mostK xs k ≤ 4
 |0 => by simp [mostK]
 |k + 1 => by
  have := mostK_le xs k
  unfold mostK
  split <;> omega
def aloneS (f : Mf) : List Mf := List.replicate (mostK f.ins f.ins.length) backF ++ [f]
theorem MfsAt.last {B : Nat} {w' : World} {fv' iv : Value} {ys : List Value} {fs : List Mf} {p s : Int} {xs : List Mi} (h : w'.ownsRow B 105 3 fv' (fs.length + 1) (ys ++ [.int .i64 p, .int .i64 s, iv])) (hl : ys.length = fs.length * 3) (hx : ∀ i f, fs[i]? = some f → MfIns B w' ys i f) (hiv : MisAt w' iv xs) : MfsAt w' fv' (fs ++ [⟨p, s, xs⟩]) := by
 obtain ⟨g, cap, rfl⟩ := own_form h (by omega)
 refine ⟨some ⟨g, 0, none⟩, cap, by simp, fun i f hi => ?_⟩
 rcases snoc_at hi with ⟨hlt, hi⟩ | ⟨rfl, rfl⟩
 ·obtain ⟨h0, h1, iv, h2, hm⟩ := hx i f hi
  refine ⟨g, 0, iv, rfl, ?_, ?_, ?_, hm.at⟩
  ·rw [Nat.zero_add, h.cellAt (i * 3) (by omega), List.getElem?_append_left (by omega)]; exact h0
  ·rw [Nat.zero_add, h.cellAt (i * 3 + 1) (by omega), List.getElem?_append_left (by omega)]; exact h1
  ·rw [Nat.zero_add, h.cellAt (i * 3 + 2) (by omega), List.getElem?_append_left (by omega)]; exact h2
 ·refine ⟨g, 0, iv, rfl, ?_, ?_, ?_, hiv⟩
  ·rw [Nat.zero_add, h.cellAt (fs.length * 3) (by omega), List.getElem?_append_right (by omega), hl]; simp
  ·rw [Nat.zero_add, h.cellAt (fs.length * 3 + 1) (by omega), List.getElem?_append_right (by omega), hl]; simp [show ∀ k m : Nat, k + m - k = m from fun k m => by omega]
  ·rw [Nat.zero_add, h.cellAt (fs.length * 3 + 2) (by omega), List.getElem?_append_right (by omega), hl]; simp [show ∀ k m : Nat, k + m - k = m from fun k m => by omega]
theorem backIns {B : Nat} (X : World) (q : Nat) (hq : q = X.heap.size) (hb : B ≤ X.heap.size) : OwnIns B (X.alloc (.cells #[.int .i64 22, .int .i64 0, .int .i64 0, .int .i64 0, .int .i64 0] 124)) (.slice (some ⟨q, 0, none⟩) 1 1) [⟨22, 0, 0, 0, 0⟩] := by
 subst hq
 refine ⟨_, World.ownsRow_lit X _ 1 hb (by decide) (by decide), fun i x hi => ?_⟩
 have hi2 := idx_lt hi
 obtain rfl : i = 0 := by simpa using hi2
 obtain rfl : x = ⟨22, 0, 0, 0, 0⟩ := by simpa using hi.symm
 exact ⟨rfl, rfl, rfl, rfl, rfl⟩
def AlonePost (fs : List Mf) (w : World) (e : Ending) (w' : World) : Prop :=
 ∃ v, e = .returned (.agg #[v]) ∧ MfsAt w' v fs ∧ Below w.heap.size w w'
set_option maxHeartbeats 4000000 in
theorem alone_any (w : World) (p s : Int) (iv : Value) (xs : List Mi) (hm : MisAt w iv xs) (hn : xs.length ≤ 1048576) :
  Calls Tryd.prog 150 #[.agg #[.int .i64 p, .int .i64 s, iv]] w (AlonePost (aloneS ⟨p, s, xs⟩) w) := by
 obtain ⟨j0, hj, hw0, hw1, hw2⟩ := info_parts info_mf
 obtain ⟨n, hnn⟩ : ∃ n, n = xs.length := ⟨_, rfl⟩
 have HMI := Lib.hid hm
 obtain ⟨la, lc, rfl, hc⟩ := hm
 rw [← hnn] at hn HMI ⊢
 have HC : Hid (∀ i, i < n → ∃ b off, la = some ⟨b, off, none⟩ ∧ w.cell? ⟨b, off + i * 5, none⟩ = some (.int .i64 (miD xs i).op) ∧ w.cell? ⟨b, off + i * 5 + 4, none⟩ = some (.int .i64 (miD xs i).n)) := Lib.hid (fun i hi => by
  have he : xs[i]? = some (miD xs i) := by simp [miD, List.getD_eq_getElem?_getD, ← hnn, hi]
  obtain ⟨b, off, h1, h2, _, _, _, h3⟩ := hc i _ he
  exact ⟨b, off, h1, h2, h3⟩)
 have HA : Hid (aloneS ⟨p, s, xs⟩ = List.replicate (mostK xs n) backF ++ [⟨p, s, xs⟩]) := Lib.hid (by rw [hnn]; rfl)
 obtain ⟨fs, hfs⟩ : ∃ fs, fs = aloneS ⟨p, s, xs⟩ := ⟨_, rfl⟩
 rw [← hfs] at HA ⊢
 clear hc hfs
 have HNN := Lib.hid hnn
 clear hnn
 go_enter Tryd.func150, Tryd.ntmps150
 go_wp2_with (fail)
 generalize hw1 : w.alloc _ = w1
 have hsz1 : w1.heap.size = w.heap.size + 1 := by rw [← hw1]; simp
 obtain ⟨hb1, x0, x1, x2⟩ := box3 hw1
 generalize hw2 : w1.alloc _ = w2
 have hsz2 : w2.heap.size = w.heap.size + 1 + 1 := by rw [← hw2]; simp [hsz1]
 have hb2 : Below w1.heap.size w1 w2 := by rw [← hw2]; exact below1 _ _
 have hR2 : Blk w2 w1.heap.size [.slice none 0 0] := by rw [← hw2]; exact Blk.new _ _ _
 generalize hw3 : w2.alloc _ = w3
 have hsz3 : w3.heap.size = w.heap.size + 1 + 1 + 1 := by rw [← hw3]; simp [hsz2]
 have hb3 : Below w2.heap.size w2 w3 := by rw [← hw3]; exact below1 _ _
 have hM3 : Blk w3 w2.heap.size [.slice none 0 0] := by rw [← hw3]; exact Blk.new _ _ _
 have hR3 := hR2.below hb3
 rw [hsz1] at hR3
 rw [hsz2] at hM3
 have hb13 := hb2.trans (hb3.mono hb2.size)
 have HX0 := Lib.hid (cellB hb13 x0); have HX1 := Lib.hid (cellB hb13 x1); have HX2 := Lib.hid (cellB hb13 x2)
 have HB3 := Lib.hid (hb1.trans (hb13.mono hb1.size))
 have HM3 := Lib.hid hM3; have HR3 := Lib.hid hR3; have HSZ := Lib.hid hsz3
 clear hw1 hw2 hw3 hb1 hb2 hb3 hb13 x0 x1 x2 hR2 hM3 hR3 hsz1 hsz2 hsz3
 go_loopw [4, 5] (fun m i wr => ∃ k : Nat, k ≤ n ∧ i = .int .i64 k ∧ m = .int .i64 ((mostK xs k : Nat) : Int) ∧ Below w3.heap.size w3 wr) (fun _ i _ => n - (intOf i).toNat)
 case atStart => exact ⟨0, Nat.zero_le _, rfl, rfl, Below.refl _ _⟩
 case round =>
  obtain ⟨k, hk, rfl, rfl, hB⟩ := hrel
  obtain ⟨wo, rfl⟩ : ∃ wo : World, wo = wr := ⟨_, rfl⟩
  have HB := Lib.hid hB
  have y2 := cellB hB HX2.out
  clear hB
  by_cases hlt : k < n
  ·have k0 : (0 : Int) ≤ k := by omega
   have k1 : (k : Int) < n := by omega
   obtain ⟨b, off, rfl, c0, c4⟩ := HC.out k hlt
   have hst : mostK xs (k + 1) = if (miD xs k).op = 14 ∧ (mostK xs k : Int) ≤ (miD xs k).n ∧ (miD xs k).n < 4 then (miD xs k).n.toNat + 1 else mostK xs k := rfl
   have hle := mostK_le xs k
   obtain ⟨op, hop⟩ : ∃ op, op = (miD xs k).op := ⟨_, rfl⟩
   obtain ⟨N, hN⟩ : ∃ N, N = (miD xs k).n := ⟨_, rfl⟩
   obtain ⟨M, hM⟩ : ∃ M, M = mostK xs k := ⟨_, rfl⟩
   rw [← hop] at c0 hst
   rw [← hN] at c4 hst
   rw [← hM] at hst hle ⊢
   have hb := HB3.out.trans (HB.out.mono HB3.out.size)
   have t0 := cellB hb c0; have t4 := cellB hb c4
   have HST := Lib.hid hst
   clear hb c0 c4 hop hN hM hst
   obtain ⟨p1, hp1⟩ : ∃ p1, (op == 14) = p1 := ⟨_, rfl⟩
   obtain ⟨p2, hp2⟩ : ∃ p2, decide ((M : Int) ≤ N) = p2 := ⟨_, rfl⟩
   obtain ⟨p3, hp3⟩ : ∃ p3, decide (N < 4) = p3 := ⟨_, rfl⟩
   by_cases hall : op = 14 ∧ (M : Int) ≤ N ∧ N < 4
   ·have HS : Hid (mostK xs (k + 1) = N.toNat + 1) := Lib.hid (by rw [HST.out, if_pos hall])
    obtain ⟨rfl, h2, h3⟩ := hall
    have hs : IntKind.i64.wrap (N + 1) = ((N.toNat + 1 : Nat) : Int) := by rw [IntWalk.i64_in _ (by omega)]; omega
    clear hp1 hp2 hp3 HST hle
    go_wp2_with (fail)
    go_roundw
    case rel => exact ⟨k + 1, by omega, by go_num, by rw [HS.out]; first | (congr 1; omega) | (simp; omega), HB.out⟩
    case measure => simp [intOf]; omega
   ·have HS : Hid (mostK xs (k + 1) = M) := Lib.hid (by rw [HST.out, if_neg hall])
    have hor : p1 = false ∨ (p1 = true ∧ p2 = false) ∨ (p1 = true ∧ p2 = true ∧ p3 = false) := by
     rw [← hp1, ← hp2, ← hp3]
     by_cases e1 : op = 14 <;> by_cases e2 : (M : Int) ≤ N <;> by_cases e3 : N < 4 <;> simp [e1, e2, e3] at hall ⊢
    clear hall HST hle
    rcases hor with rfl | ⟨rfl, rfl⟩ | ⟨rfl, rfl, rfl⟩
    all_goals
     go_wp2_with (fail)
     go_roundw
     case rel => exact ⟨k + 1, by omega, by go_num, by rw [HS.out], HB.out⟩
     case measure => simp [intOf]; omega
  ·obtain rfl : k = n := by omega
   obtain ⟨m, hm⟩ : ∃ m, m = mostK xs k := ⟨_, rfl⟩
   have hm4 := mostK_le xs k
   have hAA : fs = List.replicate m backF ++ [⟨p, s, xs⟩] := by rw [HA.out, hm]
   rw [← hm] at hm4 ⊢
   have HAA := Lib.hid hAA
   clear hm hAA hlt
   go_wp2_with (fail)
   clear y2
   go_loopw [6] (fun i wr => ∃ (j : Nat) (fa : Option Addr) (fc : Nat), j ≤ m ∧ i = .int .i64 j ∧ Blk wr (w.heap.size + 1 + 1) [.slice fa j fc] ∧ OwnFns w3.heap.size wr (.slice fa j fc) (List.replicate j backF) ∧ Only [w.heap.size + 1 + 1] w3 wr) (fun i _ => m - (intOf i).toNat)
   case atStart => exact ⟨0, none, 0, Nat.zero_le _, rfl, HM3.out.below HB.out, ⟨[], ⟨rfl, .inl ⟨rfl, rfl⟩⟩, fun i f hi => by simp at hi⟩, Only.of_below HB.out _⟩
   case round =>
    obtain ⟨j, fa, fc, hjm, rfl, hM, hF, hO⟩ := hrel
    obtain ⟨wi, rfl⟩ : ∃ wi : World, wi = wr := ⟨_, rfl⟩
    obtain ⟨ys, hrow, hxx⟩ := hF
    rw [List.length_replicate] at hrow
    have m0 : wi.cell? ⟨w.heap.size + 1 + 1, 0, none⟩ = some (.slice fa j fc) := hM.cell 0
    have HR := Lib.hid hrow; have HXX := Lib.hid hxx; have HO := Lib.hid hO; have HM := Lib.hid hM
    have hsz := hO.size
    have hs3 := HSZ.out
    have hmt : w.heap.size + 1 + 1 < w3.heap.size := by omega
    clear hrow hxx hO hM hs3
    by_cases hlt : j < m
    ·have j0' : (0 : Int) ≤ j := by omega
     have j1 : (j : Int) < m := by omega
     go_wp2_with (first | (at_builtin; refine wpList_append_own _ rfl _ _ 23 (by rfl) w3.heap.size 105 j0 _ 3 40 Tryd.underlying23 hj hw0 hw1 hw2 rfl (by decide) _ j ys (by rfl) ((HR.out.alloc _).alloc _) ⟨wi.heap.size + 1, 0, none⟩ 1 1 [.int .i64 0, .int .i64 0, .slice (some ⟨wi.heap.size, 0, none⟩) 1 1] (by rfl) rfl (World.news_of_block (cs := #[.int .i64 0, .int .i64 0, .slice (some ⟨wi.heap.size, 0, none⟩) 1 1]) (t := 105) (fr := (0, 0)) (by have h := heap_alloc_new (wi.alloc (.cells #[.int .i64 22, .int .i64 0, .int .i64 0, .int .i64 0, .int .i64 0] 124)) (.cells #[.int .i64 0, .int .i64 0, .slice (some ⟨wi.heap.size, 0, none⟩) 1 1] 105); simpa using h)) (by simp [Value.oneCell']) (by unfold maxLen; omega) (by omega) (by simp; omega) ?_; intro v6 w6 ho6 hg6 _; obtain ⟨g6, c6, rfl⟩ := own_form ho6 (by omega); have hM6 := ((HM.out.alloc _).alloc _).grown hg6 (fun e => by have := ownBlock_of HR.out _ e; omega); have m6 : w6.cell? ⟨w.heap.size + 1 + 1, 0, none⟩ = some (.slice fa j fc) := hM6.cell 0; have f6 := hM6.frozen 0; have HM6 := Lib.hid hM6; have HO6 := Lib.hid ho6; have HG6 := Lib.hid hg6; clear ho6 hg6 hM6) | fail)
     go_roundw
     case rel =>
      have hF := OwnFns.snoc (fs := List.replicate j backF) (by rw [List.length_replicate]; exact (HR.out.alloc _).alloc _) (fun i f hi' => by
       obtain ⟨a0, a1, iv, a2, hm⟩ := HXX.out i f hi'
       exact ⟨a0, a1, iv, a2, hm.only (((Only.refl [] _).alloc _).alloc _) (by simp)⟩) ((backIns wi _ rfl hsz).only ((Only.refl [] _).alloc _) (by simp)) HG6.out (by rw [List.length_replicate]; exact HO6.out)
      refine ⟨j + 1, some ⟨g6, 0, none⟩, c6, by omega, by go_num, HM6.out.set 0 _, ?_, ?_⟩
      ·rw [List.replicate_succ']
       exact hF.only ((Only.refl [w.heap.size + 1 + 1] w6).setCell (p := ⟨w.heap.size + 1 + 1, 0, none⟩) (by simp) _) (fun b hb => by have := List.mem_singleton.1 hb; omega)
      ·exact (((HO.out.alloc _).alloc _).grown HG6.out (fun k hk => ownBlock_of HR.out k hk)).setCell (p := ⟨w.heap.size + 1 + 1, 0, none⟩) (by simp) _
     case measure => simp [intOf]; omega
    ·obtain rfl : j = m := by omega
     have hs3 := HSZ.out
     have z0 : wi.cell? ⟨w.heap.size, 0, none⟩ = some (.int .i64 p) := by rw [HO.out.cell (p := ⟨w.heap.size, 0, none⟩) (by simp only []; omega) (by simp; omega)]; exact HX0.out
     have z1 : wi.cell? ⟨w.heap.size, 1, none⟩ = some (.int .i64 s) := by rw [HO.out.cell (p := ⟨w.heap.size, 1, none⟩) (by simp only []; omega) (by simp; omega)]; exact HX1.out
     have z2 : wi.cell? ⟨w.heap.size, 2, none⟩ = some (.slice la k lc) := by rw [HO.out.cell (p := ⟨w.heap.size, 2, none⟩) (by simp only []; omega) (by simp; omega)]; exact HX2.out
     have hRi : Blk wi (w.heap.size + 1) [.slice none 0 0] := HR3.out.same (HO.out.block _ HR3.out.lt (by simp))
     have HRI := Lib.hid hRi
     clear hRi hs3
     go_wp2_with (first | (at_builtin; refine wpList_append_own _ rfl _ _ 23 (by rfl) w3.heap.size 105 j0 _ 3 40 Tryd.underlying23 hj hw0 hw1 hw2 rfl (by decide) _ j ys (by rfl) (HR.out.alloc _) ⟨wi.heap.size, 0, none⟩ 1 1 [.int .i64 p, .int .i64 s, .slice la k lc] (by rfl) rfl (World.news_of_block (cs := #[.int .i64 p, .int .i64 s, .slice la k lc]) (t := 105) (fr := (0, 0)) (heap_alloc_new wi _)) (by simp [Value.oneCell']) (by unfold maxLen; omega) (by omega) (by simp; omega) ?_; intro v6 w6 ho6 hg6 _; obtain ⟨g6, c6, rfl⟩ := own_form ho6 (by omega); have hM6 := (HM.out.alloc _).grown hg6 (fun e => by have := ownBlock_of HR.out _ e; omega); have hR6 := (HRI.out.alloc _).grown hg6 (fun e => by have := ownBlock_of HR.out _ e; omega); have m6 : w6.cell? ⟨w.heap.size + 1 + 1, 0, none⟩ = some (.slice fa j fc) := hM6.cell 0; have f6 := hM6.frozen 0; have hM7 := hM6.set 0 (.slice (some ⟨g6, 0, none⟩) (j + 1) c6); have hR7 := hR6.other (a := ⟨w.heap.size + 1 + 1, 0, none⟩) (by simp) (.slice (some ⟨g6, 0, none⟩) (j + 1) c6); have m7 := hM7.cell 0; have r7 := hR7.cell 0; have rf7 := hR7.frozen 0; have r8 := (hR7.set 0 (.slice (some ⟨g6, 0, none⟩) (j + 1) c6)).cell 0; simp only [List.set_cons_zero, List.getElem?_cons_zero] at m7 r7 r8; have HO6 := Lib.hid ho6; have HG6 := Lib.hid hg6; clear ho6 hg6 hM6 hR6 hM7 hR7) | fail)
     refine bodyPost_ret (v := .agg #[.slice (some ⟨g6, 0, none⟩) (j + 1) c6]) (by simp [results, Tryd.results150, go_sem, r8]) rfl ?_
     have hO7 : Only [w.heap.size + 1, w.heap.size + 1 + 1] w6 ((w6.setCell ⟨w.heap.size + 1 + 1, 0, none⟩ (.slice (some ⟨g6, 0, none⟩) (j + 1) c6)).setCell ⟨w.heap.size + 1, 0, none⟩ (.slice (some ⟨g6, 0, none⟩) (j + 1) c6)) :=
      ((Only.refl _ w6).setCell (p := ⟨w.heap.size + 1 + 1, 0, none⟩) (by simp) _).setCell (p := ⟨w.heap.size + 1, 0, none⟩) (by simp) _
     have hlo : ∀ b ∈ [w.heap.size + 1, w.heap.size + 1 + 1], b < w3.heap.size := fun b hb => by simp at hb; omega
     have hB6 : Below w.heap.size w w6 := (((Only.below HB3.out HO.out HB3.out.size (fun b hb => by simp at hb; omega))).alloc (by have := HB3.out.size; omega) _).grown HG6.out (by simp; have := HB3.out.size; omega) (fun q hq => by have := ownBlock_of HR.out q hq; have := HB3.out.size; omega)
     have hBf := Only.below hB6 hO7 hB6.size (fun b hb => by simp at hb; omega)
     have hbi : ∀ iv xs, OwnIns w3.heap.size (wi.alloc (.cells #[.int .i64 p, .int .i64 s, .slice la k lc] 105)) iv xs → OwnIns w3.heap.size w6 iv xs := fun iv xs ⟨zs, h1, h2⟩ => ⟨zs, h1.kept HG6.out (ins_ne h1 (HR.out.alloc _)), h2⟩
     refine ⟨_, rfl, ?_, hBf⟩
     rw [HAA.out]
     refine MfsAt.last (B := w3.heap.size) (ys := ys) ?_ (by rw [List.length_replicate]; exact HR.out.1) (fun i f hi' => ?_) (HMI.out.below hBf)
     ·rw [List.length_replicate]
      exact ownsRow_only HO6.out hO7 hlo
     ·obtain ⟨a0, a1, iv, a2, hm⟩ := HXX.out i f hi'
      exact ⟨a0, a1, iv, a2, (hbi _ _ (hm.only ((Only.refl [] _).alloc _) (by simp))).only hO7 hlo⟩
end Go.Proofs.YtbdbmmdnidonjaaDoor
set_option maxRecDepth 100000
namespace Go.Proofs.YtbdbmmdnidonjaaDoor
open Go.RowKit
def nisOf (f : Mf) : List Ni := f.ins.map Mi.ni
/-- a function whose instructions can be told in bytes -/
structure FnB (f : Mf) : Prop where
 len : f.ins.length ≤ 2000
 pos : 0 < f.ins.length
 mi : (nisOf f).map Ni.mi = f.ins
 ok : ∀ i, i < (nisOf f).length → BOk (niAt (nisOf f) i)
 jmp : ∀ i, i < (nisOf f).length → jmpN (niAt (nisOf f) i).op = true → (niAt (nisOf f) i).n < (nisOf f).length
 par : 0 ≤ f.params ∧ f.params ≤ 3
 slo : 0 ≤ f.slots ∧ f.slots ≤ 64
theorem nisOf_len (f : Mf) : (nisOf f).length = f.ins.length := by simp [nisOf]
theorem sumIns_mem : ∀ {fs : List Mf} {f : Mf}, f ∈ fs → (f.ins.length : Int) ≤ sumIns fs
 |[], _, h => by simp at h
 |g :: fs, f, h => by
  have hn : 0 ≤ sumIns fs := by have := sumIns_take_le fs 0; simpa [sumIns] using this
  have he : sumIns (g :: fs) = g.ins.length + sumIns fs := by simp [sumIns]
  rw [he]
  rcases List.mem_cons.1 h with rfl | h
  ·omega
  ·have := sumIns_mem h
   omega
theorem bok_of {k par slo : Nat} {x : Ni} (h : NiOk k par slo x) (hk : k ≤ 256) (hp : par ≤ 256) (hs : slo ≤ 256) : BOk x := by
 refine ⟨h.op, h.a, h.b, h.c, fun hh => ?_⟩
 have hop := h.op
 have h1 := h.set; have h2 := h.slot; have h3 := h.give; have h4 := h.fetch; have h5 := h.call
 have hc : x.op = 1 ∨ x.op = 15 ∨ x.op = 16 ∨ x.op = 17 ∨ x.op = 18 ∨ x.op = 14 := by
  unfold shN at hh
  repeat' split at hh
  all_goals omega
 omega
theorem fnB_of {fs : List Mf} {f : Mf} (h : MachOk fs) (hm : f ∈ fs) : FnB f := by
 obtain ⟨h1, hf, h2⟩ := h
 obtain ⟨k, hk, hke⟩ := List.getElem_of_mem hm
 have hkk : fs[k]? = some f := by rw [List.getElem?_eq_getElem hk, hke]
 have := hf k f hkk
 unfold fnOk lastOk at this
 simp only [Bool.and_eq_true, inR_iff, decide_eq_true_eq, Bool.or_eq_true, Bool.not_eq_true'] at this
 obtain ⟨⟨⟨⟨a1, a2⟩, a3⟩, a4⟩, a5⟩ := this
 have hx : ∀ x ∈ f.ins, insOk k f x = true := fun x hx => by
  have := List.any_eq_false.1 a5 x hx
  simpa using this
 have hat : ∀ i, i < (nisOf f).length → ∃ x, x ∈ f.ins ∧ niAt (nisOf f) i = x.ni := fun i hi => by
  have hi' : i < f.ins.length := by rw [← nisOf_len]; exact hi
  exact ⟨f.ins[i], List.getElem_mem hi', by simp [niAt, nisOf, List.getD_eq_getElem?_getD, hi']⟩
 have hle := sumIns_mem hm
 refine ⟨by omega, by omega, ?_, fun i hi => ?_, fun i hi hj => ?_, a1, a2⟩
 ·unfold nisOf
  rw [List.map_map]
  conv => rhs; rw [← List.map_id f.ins]
  refine List.map_congr_left fun x hxm => ?_
  exact (insOk_ok (hx x hxm) a1.1 a2.1).2.1
 ·obtain ⟨x, hxm, he⟩ := hat i hi
  rw [he]
  exact bok_of (insOk_ok (hx x hxm) a1.1 a2.1).1 (by omega) (by omega) (by omega)
 ·obtain ⟨x, hxm, he⟩ := hat i hi
  rw [he] at hj ⊢
  rw [nisOf_len]
  have hok := insOk_ok (hx x hxm) a1.1 a2.1
  refine hok.2.2 ?_
  have ho : (x.ni.op : Int) = x.op := congrArg Mi.op hok.2.1
  unfold jmpN at hj
  simp only [Bool.or_eq_true, beq_iff_eq] at hj
  omega
def CanS (f : Mf) : Prop := MachOk (aloneS f) ∧ totN (nisOf f) (longN (nisOf f)) ≤ 8000
theorem CanS.fn {f : Mf} (h : MachOk (aloneS f)) : FnB f := fnB_of h (by simp [aloneS])
theorem aloneS_le {f : Mf} (h : f.ins.length ≤ 1048576) : MfsLe (aloneS f) := by
 have := mostK_le f.ins f.ins.length
 refine ⟨by simp [aloneS]; omega, fun g hg => ?_⟩
 rcases List.mem_append.1 hg with hg | hg
 ·have := List.eq_of_mem_replicate hg
  rw [this]; decide
 ·obtain rfl := List.mem_singleton.1 hg
  exact h
end Go.Proofs.YtbdbmmdnidonjaaDoor
set_option maxRecDepth 100000
namespace Go.Proofs.YtbdbmmdnidonjaaDoor
open Go.RowKit
def CanPost (f : Mf) (w : World) (e : Ending) (w' : World) : Prop := ∃ b, e = .returned (.bool b) ∧ (b = true ↔ CanS f) ∧ Below w.heap.size w w'
set_option maxHeartbeats 4000000 in
theorem can_any (w : World) (p s : Int) (iv : Value) (xs : List Mi) (hm : MisAt w iv xs) (hn : xs.length ≤ 1048576) :
  Calls Tryd.prog 139 #[.agg #[.int .i64 p, .int .i64 s, iv]] w (CanPost ⟨p, s, xs⟩ w) := by
 obtain ⟨fs, hfs⟩ : ∃ fs, fs = aloneS ⟨p, s, xs⟩ := ⟨_, rfl⟩
 have HAL := Lib.hid (fun w' h => alone_any w' p s iv xs h hn)
 rw [← hfs] at HAL
 have HLE : Hid (MfsLe fs) := Lib.hid (by rw [hfs]; exact aloneS_le hn)
 obtain ⟨ns, hns⟩ : ∃ ns, ns = nisOf ⟨p, s, xs⟩ := ⟨_, rfl⟩
 have HFB : Hid (MachOk fs → (ns.length ≤ 2000 ∧ 0 < ns.length ∧ ns.map Ni.mi = xs ∧ (∀ i, i < ns.length → BOk (niAt ns i)) ∧ (∀ i, i < ns.length → jmpN (niAt ns i).op = true → (niAt ns i).n < ns.length))) := Lib.hid (fun h => by
  rw [hfs] at h
  have hF := CanS.fn h
  have h1 := hF.len; have h2 := hF.pos; have h3 := hF.mi; have h4 := hF.ok; have h5 := hF.jmp
  rw [← nisOf_len, ← hns] at h1 h2
  rw [← hns] at h3 h4 h5
  exact ⟨h1, h2, h3, h4, h5⟩)
 have HCS : Hid (∀ b : Bool, (b = true ↔ (MachOk fs ∧ totN ns (longN ns) ≤ 8000)) → (b = true ↔ CanS ⟨p, s, xs⟩)) := Lib.hid (fun b h => by rw [h, hfs, hns]; exact Iff.rfl)
 have HMI := Lib.hid hm
 obtain ⟨n, hnn⟩ : ∃ n, n = xs.length := ⟨_, rfl⟩
 obtain ⟨la, lc, rfl, _⟩ := hm
 rw [← hnn] at HAL HMI hn ⊢
 have HNN := Lib.hid hnn
 clear hfs hns hnn
 go_enter Tryd.func139, Tryd.ntmps139
 go_wp2_with (fail)
 go_at_call 150
 generalize hw1 : w.alloc _ = w1
 obtain ⟨hb1, x0, x1, x2⟩ := box3 hw1
 refine (HAL.out w1 (HMI.out.below hb1)).mono ?_
 rintro e w2 ⟨v2, rfl, hv2, hb2⟩
 have y0 := cellB hb2 x0; have y1 := cellB hb2 x1; have y2 := cellB hb2 x2
 have HB2 := Lib.hid (hb1.trans (hb2.mono hb1.size))
 have HV2 := Lib.hid hv2
 clear hw1 hb1 hb2 x0 x1 x2 hv2 HAL
 go_wp2_with (fail)
 go_at_call 79
 refine (specValid_any w2 v2 fs HV2.out HLE.out).mono ?_
 rintro e w3 ⟨b, rfl, hb, hb3⟩
 have z0 := cellB hb3 y0; have z1 := cellB hb3 y1; have z2 := cellB hb3 y2
 have HB3 := Lib.hid (HB2.out.trans (hb3.mono HB2.out.size))
 have HV := Lib.hid hb
 clear hb hb3 y0 y1 y2 HV2 HB2
 cases b with
 |false =>
  go_wp2_with (fail)
  go_ret
  exact ⟨false, rfl, HCS.out false ⟨fun h => (by cases h), fun h => absurd (HV.out.2 h.1) (by simp)⟩, HB3.out⟩
 |true =>
  have hok := HV.out.1 rfl
  obtain ⟨h1, h2, h3, h4, h5⟩ := HFB.out hok
  have hln : n = ns.length := by rw [HNN.out, ← h3, List.length_map]
  have hni : NisAt w (.slice la n lc) ns := NisAt.of (by rw [h3]; exact HMI.out)
  have HLO := Lib.hid (fun w' h => long_any w' p s (.slice la n lc) ns h h1 h2 h4 h5)
  have HPL := Lib.hid (fun w' lv lg h hl hlg => places_any w' p s (.slice la n lc) lv ns lg h hl hlg h1 h4)
  have HNI := Lib.hid hni
  have HOK := Lib.hid hok
  obtain ⟨T, hT⟩ : ∃ T, T = totN ns (longN ns) := ⟨_, rfl⟩
  have hTn : T ≤ 8000 ∨ ¬ T ≤ 8000 := Classical.em _
  have HT := Lib.hid hT
  clear hok h1 h2 h3 h4 h5 hln hni HFB HLE hn hT
  go_wp2_with (fail)
  have hS3 := (show (fun W => W.cell? ⟨w.heap.size, 0, none⟩ = some (.int .i64 p) ∧ W.cell? ⟨w.heap.size, 1, none⟩ = some (.int .i64 s) ∧ W.cell? ⟨w.heap.size, 2, none⟩ = some (.slice la n lc)) w3 from ⟨z0, z1, z2⟩)
  have hS4 := (show (fun W => W.cell? ⟨w.heap.size, 0, none⟩ = some (.int .i64 p) ∧ W.cell? ⟨w.heap.size, 1, none⟩ = some (.int .i64 s) ∧ W.cell? ⟨w.heap.size, 2, none⟩ = some (.slice la n lc)) w3.drew from ⟨z0, z1, z2⟩)
  have hB4 := HB3.out.drew
  have HB4 := Lib.hid hB4
  clear hB4
  go_region_held3 (fun W => W.cell? ⟨w.heap.size, 0, none⟩ = some (.int .i64 p) ∧ W.cell? ⟨w.heap.size, 1, none⟩ = some (.int .i64 s) ∧ W.cell? ⟨w.heap.size, 2, none⟩ = some (.slice la n lc)) (first | assumption) (first | (go_at_call 140; refine (HLO.out _ (HNI.out.below HB4.out)).mono ?_; rintro e w5 ⟨g, cap, rfl, ho5, hb5, hl5⟩; have HB5 := Lib.hid (HB4.out.trans (hb5.mono HB4.out.size)); have hS5 := (show (fun W => W.cell? ⟨w.heap.size, 0, none⟩ = some (.int .i64 p) ∧ W.cell? ⟨w.heap.size, 1, none⟩ = some (.int .i64 s) ∧ W.cell? ⟨w.heap.size, 2, none⟩ = some (.slice la n lc)) w5 from ⟨cellB hb5 hS4.1, cellB hb5 hS4.2.1, cellB hb5 hS4.2.2⟩); have HLG := Lib.hid (LgAt.of hl5 ho5); have HLL := Lib.hid hl5; clear hb5 ho5 hl5) | (go_at_call 141; refine (HPL.out _ _ (longN ns) (HNI.out.below HB5.out) HLG.out HLL.out).mono ?_; rintro e w6 ⟨pv, rfl, _, hb6⟩; have HB6 := Lib.hid (HB5.out.trans (hb6.mono HB5.out.size)); have hS6 := (show (fun W => W.cell? ⟨w.heap.size, 0, none⟩ = some (.int .i64 p) ∧ W.cell? ⟨w.heap.size, 1, none⟩ = some (.int .i64 s) ∧ W.cell? ⟨w.heap.size, 2, none⟩ = some (.slice la n lc)) w6 from ⟨cellB hb6 hS5.1, cellB hb6 hS5.2.1, cellB hb6 hS5.2.2⟩); clear hb6))
  all_goals
   rw [← HT.out]
   clear HPL HLO HNI
   obtain ⟨q, hq⟩ : ∃ q, decide ((T : Int) ≤ 8000) = q := ⟨_, rfl⟩
   go_wp2_with (fail)
   go_ret
   refine ⟨q, rfl, HCS.out q ?_, HB6.out⟩
   rw [← HT.out, ← hq]
   simp only [decide_eq_true_eq]
   exact ⟨fun h => ⟨HOK.out, by omega⟩, fun h => by have := h.2; omega⟩
end Go.Proofs.YtbdbmmdnidonjaaDoor
set_option maxRecDepth 100000
namespace Go.Proofs.YtbdbmmdnidonjaaDoor
open Go.RowKit
def earlK (xs : List Mi) : Nat → Nat
 |0 => 0
 |k + 1 => if (miD xs k).op = 14 then max (earlK xs k) ((min (miD xs k).n 4 + 1).toNat) else earlK xs k
theorem earlK_le (xs : List Mi) : ∀ k, earlK xs k ≤ 5
 |0 => by simp [earlK]
 |k + 1 => by
  have := earlK_le xs k
  unfold earlK
  split <;> omega
theorem earlK_eq (xs : List Mi) : ∀ k, (∀ i, i < k → (miD xs i).op = 14 → (miD xs i).n < 4) → earlK xs k = mostK xs k
 |0, _ => rfl
 |k + 1, h => by
  have ih := earlK_eq xs k (fun i hi => h i (by omega))
  have h0 := h k (by omega)
  unfold earlK mostK
  rw [ih]
  by_cases ho : (miD xs k).op = 14
  ·have := h0 ho
   rw [if_pos ho]
   split <;> omega
  ·rw [if_neg ho, if_neg (fun h => ho h.1)]
theorem earlK_big (xs : List Mi) {i : Nat} (ho : (miD xs i).op = 14) (hn : 4 ≤ (miD xs i).n) : ∀ k, i < k → 5 ≤ earlK xs k
 |0, h => by omega
 |k + 1, h => by
  unfold earlK
  rcases Nat.lt_or_ge i k with h' | h'
  ·have := earlK_big xs ho hn k h'
   split <;> omega
  ·obtain rfl : i = k := by omega
   rw [if_pos ho]
   omega
def aloneI (f : Mf) : List Mf := List.replicate (earlK f.ins f.ins.length) backF ++ [f]
theorem alone_ok (f : Mf) : MachOk (aloneI f) ↔ MachOk (aloneS f) := by
 by_cases h : ∀ i, i < f.ins.length → (miD f.ins i).op = 14 → (miD f.ins i).n < 4
 ·unfold aloneI aloneS
  rw [earlK_eq _ _ h]
 ·obtain ⟨i, hi, ho, hn⟩ : ∃ i, i < f.ins.length ∧ (miD f.ins i).op = 14 ∧ 4 ≤ (miD f.ins i).n := by
   apply Classical.byContradiction
   intro hno
   exact h fun i hi ho => Classical.byContradiction fun h4 => hno ⟨i, hi, ho, by omega⟩
  constructor
  ·intro hm
   have := hm.1.2
   have h5 := earlK_big f.ins ho hn _ hi
   unfold aloneI at this
   simp at this
   omega
  ·intro hm
   exfalso
   have hk : (aloneS f)[mostK f.ins f.ins.length]? = some f := by simp [aloneS]
   have hok := hm.2.1 _ _ hk
   unfold fnOk at hok
   simp only [Bool.and_eq_true, Bool.not_eq_true'] at hok
   have hx := List.any_eq_false.1 hok.2 (f.ins[i]) (List.getElem_mem hi)
   have he : miD f.ins i = f.ins[i] := by simp [miD, List.getD_eq_getElem?_getD, hi]
   rw [← he] at hx
   generalize miD f.ins i = x at ho hn hx
   simp only [Bool.not_eq_true, Bool.not_eq_false'] at hx
   unfold insOk at hx
   simp only [Bool.and_eq_true] at hx
   have hlast := hx.2
   rw [ho] at hlast
   have h14 : hasF 3 14 = true := by decide
   rw [h14] at hlast
   simp only [Bool.not_true, Bool.false_or] at hlast
   unfold mostOf at hlast
   rw [if_pos rfl] at hlast
   have hl := inR_iff.1 hlast
   have := mostK_le f.ins f.ins.length
   omega
theorem aloneI_le {f : Mf} (h : f.ins.length ≤ 1048576) : MfsLe (aloneI f) := by
 have := earlK_le f.ins f.ins.length
 refine ⟨by simp [aloneI]; omega, fun g hg => ?_⟩
 rcases List.mem_append.1 hg with hg | hg
 ·have := List.eq_of_mem_replicate hg
  rw [this]; decide
 ·obtain rfl := List.mem_singleton.1 hg
  exact h
theorem earlK_step (xs : List Mi) (k : Nat) : ((earlK xs (k + 1) : Nat) : Int) = if (miD xs k).op = 14 then max (earlK xs k : Int) (min (miD xs k).n 4 + 1) else (earlK xs k : Int) := by
 conv => lhs; unfold earlK
 split
 ·omega
 ·rfl
end Go.Proofs.YtbdbmmdnidonjaaDoor
set_option maxRecDepth 100000
namespace Go.Proofs.YtbdbmmdnidonjaaDoor
open Go.RowKit
theorem run_copy_wide {P : Program} (w : World) (dT sT ty elem : TypeId) (g o dLen dCap : Nat) (a : Addr) (sLen sCap size : Nat) (cur : Array Value) (t : TypeId) (cs : List Value)
  (hu : P.underlying dT = some (.slice elem)) (hs : (P.info? elem).map (·.size) = some size)
  (hg : w.heap[g]? = some (.cells cur t (0, 0))) (hn : cs.length = Nat.min sLen dLen * size)
  (hsrc : ∀ j v, cs[j]? = some v → w.cell? (a.add j) = some v) (hfit : o + cs.length ≤ cur.size) (h1 : ∀ v ∈ cs, v.oneCell' = true) :
  (Builtin.copy_ #[dT, sT] ty #[.slice (some ⟨g, o, none⟩) dLen dCap, .slice (some a) sLen sCap]).run P w =
   .ok (goInt (Nat.min sLen dLen)) (w.setRow g (cur.toList.take o ++ (cs ++ cur.toList.drop (o + cs.length))).toArray) := by
 have hl := run_loadCells_list (P := P) w a cs hsrc
 have hst := run_storeCells_at P g o t cs 0 cur w hg (by simpa using hfit) h1
 cases hq : P.info? elem with
 |none => simp [hq] at hs
 |some i =>
  have hi : i.size = size := by simpa [hq] using hs
  rw [hn] at hl
  simp [Builtin.copy_, run_underlying hu, Builtin.lenOf, Builtin.firstCells, sizeOf, typeInfo, hq, hi, hl, hst]
theorem wpList_copy_wide {P : Program} {w : World} {ops : Array Oper} {rest : List Oper} {o : Oper} {a : Act} {Q : Exit → Act → World → Prop} (hgd : o.guard = none) (d s : Operand) (dT sT : TypeId)
  (ho : o.op = .call { callee := .builtin .copy, args := #[d, s], argTypes := #[dT, sT] }) (elem : TypeId) (hu : P.underlying dT = some (.slice elem)) (size : Nat) (hsz : (P.info? elem).map (·.size) = some size)
  (g off dLen dCap : Nat) (ad : Addr) (sLen sCap : Nat) (hd : a.eval d = .slice (some ⟨g, off, none⟩) dLen dCap) (hs : a.eval s = .slice (some ad) sLen sCap)
  (cur : List Value) (t : TypeId) (hg : w.heap[g]? = some (.cells cur.toArray t (0, 0))) (cs : List Value) (k : Nat) (hk : k = Nat.min sLen dLen) (hn : cs.length = k * size)
  (hsrc : ∀ j v, cs[j]? = some v → w.cell? (ad.add j) = some v) (hfit : off + cs.length ≤ cur.length) (h1 : ∀ v ∈ cs, v.oneCell' = true) (B : Nat) (w0 : World) (hb : Below B w0 w) (hBg : B ≤ g)
  (h : ∀ w', Hid (w'.heap[g]? = some (.cells (splice cur off cs).toArray t (0, 0))) → Below B w0 w' → wpList P ops Q rest (a.put o.dst (goInt k)) w') : wpList P ops Q (o :: rest) a w := by
 subst hk
 refine wpList_plain hgd fun K hK => ?_
 have hrun := run_copy_wide (P := P) w dT sT o.type elem g off dLen dCap ad sLen sCap size cur.toArray t cs hu hsz hg hn hsrc (by simpa using hfit) h1
 unfold Oper.wp
 simp [execOp, ho, resolve, invoke, builtin, hd, hs, hrun, Result.andThen]
 exact hK _ _ (h _ (show _ = _ by simpa [splice] using setRow_heap w g _ _ t _ hg) (below_setRow hb hBg _))
theorem step_copy_wide {P : Program} {ops : Array Oper} {o : Oper} {a : Act} {w : World} {K : Act → World → Prop} {Q : Exit → Act → World → Prop} {E : Prop} (hgd : o.guard = none) (d s : Operand) (dT sT : TypeId)
  (ho : o.op = .call { callee := .builtin .copy, args := #[d, s], argTypes := #[dT, sT] }) (elem : TypeId) (hu : P.underlying dT = some (.slice elem)) (size : Nat) (hsz : (P.info? elem).map (·.size) = some size)
  (g off dLen dCap : Nat) (ad : Addr) (sLen sCap : Nat) (hd : a.eval d = .slice (some ⟨g, off, none⟩) dLen dCap) (hs : a.eval s = .slice (some ad) sLen sCap)
  (cur : List Value) (t : TypeId) (hg : w.heap[g]? = some (.cells cur.toArray t (0, 0))) (cs : List Value) (k : Nat) (hk : k = Nat.min sLen dLen) (hn : cs.length = k * size)
  (hsrc : ∀ j v, cs[j]? = some v → w.cell? (ad.add j) = some v) (hfit : off + cs.length ≤ cur.length) (h1 : ∀ v ∈ cs, v.oneCell' = true) (B : Nat) (w0 : World) (hb : Below B w0 w) (hBg : B ≤ g)
  (h : ∀ w', Hid (w'.heap[g]? = some (.cells (splice cur off cs).toArray t (0, 0))) → Below B w0 w' → K (a.put o.dst (goInt k)) w') :
  if Region.wanted o (yielded ops a.tmps) = true then Oper.wp P o a w K Q else E := by
 have hw : Region.wanted o (yielded ops a.tmps) = true := by simp [Region.wanted, hgd]
 rw [if_pos hw]
 subst hk
 have hrun := run_copy_wide (P := P) w dT sT o.type elem g off dLen dCap ad sLen sCap size cur.toArray t cs hu hsz hg hn hsrc (by simpa using hfit) h1
 unfold Oper.wp
 simp [execOp, ho, resolve, invoke, builtin, hd, hs, hrun, Result.andThen]
 exact h _ (show _ = _ by simpa [splice] using setRow_heap w g _ _ t _ hg) (below_setRow hb hBg _)
set_option maxHeartbeats 1000000 in
theorem mul64_any (w : World) (c : Nat) (hc : c ≤ 5) : Calls Tryd.prog 155 #[.int .u64 1, .int .u64 (c : Int)] w fun e w' => e = .returned (.tuple #[.int .u64 0, .int .u64 (c : Int)]) ∧ w = w' := by
 have hcc : c = 0 ∨ c = 1 ∨ c = 2 ∨ c = 3 ∨ c = 4 ∨ c = 5 := by omega
 rcases hcc with rfl | rfl | rfl | rfl | rfl | rfl
 all_goals
  go_enter Tryd.func155, Tryd.ntmps155
  go_wp2_with (fail)
  refine bodyPost_ret (v := .tuple #[.int .u64 0, .int .u64 _]) (by kernel_rfl) rfl ⟨rfl, rfl⟩
set_option maxHeartbeats 1000000 in
theorem mul_any (w : World) (c : Nat) (hc : c ≤ 5) : Calls Tryd.prog 153 #[.int .u64 1, .int .u64 (c : Int)] w fun e w' => e = .returned (.tuple #[.int .u64 0, .int .u64 (c : Int)]) ∧ w = w' := by
 have HM := Lib.hid (mul64_any w c hc)
 have hc0 : (0 : Int) ≤ c := by omega
 have hc5 : (c : Int) ≤ 5 := by omega
 go_enter Tryd.func153, Tryd.ntmps153
 go_wp2_with (fail)
 go_at_call 155
 refine HM.out.mono ?_
 rintro e _ ⟨rfl, rfl⟩
 go_wp2_with (fail)
 refine bodyPost_ret (v := .tuple #[.int .u64 0, .int .u64 (c : Int)]) (by simp [results, Tryd.results153, go_sem]) rfl ⟨rfl, rfl⟩
def alike (iv : Value) : Nat → List Value
 |0 => []
 |m + 1 => alike iv m ++ [.int .i64 0, .int .i64 0, iv]
theorem alike_len (iv : Value) : ∀ m, (alike iv m).length = m * 3
 |0 => rfl
 |m + 1 => by unfold alike; rw [List.length_append, alike_len iv m]; simp; omega
theorem alike_add (iv : Value) (m : Nat) : ∀ k, alike iv (m + k) = alike iv m ++ alike iv k
 |0 => by simp [alike]
 |k + 1 => by
  show alike iv (m + k) ++ _ = _ ++ (alike iv k ++ _)
  rw [alike_add iv m k]; simp
theorem alike_one (iv : Value) (h : iv.oneCell' = true) : ∀ m, ∀ v ∈ alike iv m, v.oneCell' = true
 |0, v, hv => by cases hv
 |m + 1, v, hv => by
  unfold alike at hv
  rcases List.mem_append.1 hv with hv | hv
  ·exact alike_one iv h m v hv
  ·simp only [List.mem_cons, List.not_mem_nil, or_false] at hv
   rcases hv with rfl | rfl | rfl
   ·rfl
   ·rfl
   ·exact h
/-- the next copy -/
theorem splice_alike (iv : Value) (m k r : Nat) (Z : List Value) (hZ : Z.length = (k + r) * 3) : splice (alike iv m ++ Z) (m * 3) (alike iv k) = alike iv (m + k) ++ Z.drop (k * 3) := by
 unfold splice
 have h1 : (alike iv m ++ Z).take (m * 3) = alike iv m := by
  rw [← alike_len iv m]; simp
 have h2 : (alike iv m ++ Z).drop (m * 3 + (alike iv k).length) = Z.drop (k * 3) := by
  rw [alike_len iv k, ← alike_len iv m, List.drop_append]
  simp
 rw [h1, h2, alike_add, List.append_assoc]
theorem alike_get {iv : Value} : ∀ {m i : Nat}, i < m → (alike iv m)[i * 3]? = some (.int .i64 0) ∧ (alike iv m)[i * 3 + 1]? = some (.int .i64 0) ∧ (alike iv m)[i * 3 + 2]? = some iv
 |0, i, h => by omega
 |m + 1, i, h => by
  have hl := alike_len iv m
  unfold alike
  rcases Nat.lt_or_ge i m with hi | hi
  ·obtain ⟨h1, h2, h3⟩ := alike_get (iv := iv) hi
   refine ⟨?_, ?_, ?_⟩
   all_goals rw [List.getElem?_append_left (by omega)]; assumption
  ·obtain rfl : i = m := by omega
   refine ⟨?_, ?_, ?_⟩
   all_goals rw [List.getElem?_append_right (by omega), hl]
   ·simp
   ·simp [show ∀ k m : Nat, k + m - k = m from fun k m => by omega]
   ·simp [show ∀ k m : Nat, k + m - k = m from fun k m => by omega]
def RepP (c : Nat) (iv : Value) (w : World) (e : Ending) (w' : World) : Prop :=
 ∃ g, e = .returned (.slice (some ⟨g, 0, none⟩) c c) ∧ w'.ownsRow w.heap.size 105 3 (.slice (some ⟨g, 0, none⟩) c c) c (alike iv c) ∧ Below w.heap.size w w'
theorem row_full {w : World} {B : Nat} {e : TypeId} {k g n : Nat} {xs : List Value} (h : w.ownsRow B e k (.slice (some ⟨g, 0, none⟩) n n) n xs) : w.heap[g]? = some (.cells xs.toArray e (0, 0)) ∧ B ≤ g := by
 rcases h.2 with ⟨h', _⟩ | ⟨g', cap', cur, h', hb, hg, _, _, hs, ht⟩
 ·simp at h'
 ·simp only [Value.slice.injEq, Option.some.injEq, Addr.mk.injEq, and_true, true_and] at h'
  obtain ⟨rfl, rfl⟩ := h'
  refine ⟨?_, hb⟩
  rw [hg, ← ht, List.take_of_length_le (by rw [Array.length_toList, hs]; exact Nat.le_refl _)]
theorem row_of_heap {w : World} {B : Nat} {e : TypeId} {k g n : Nat} {xs : List Value} (hg : w.heap[g]? = some (.cells xs.toArray e (0, 0))) (hB : B ≤ g) (hn : n ≤ maxLen) (hl : xs.length = n * k) : w.ownsRow B e k (.slice (some ⟨g, 0, none⟩) n n) n xs :=
 ⟨hl, .inr ⟨g, n, xs.toArray, rfl, hB, hg, Nat.le_refl _, hn, by simpa using hl, by rw [← hl]; simp⟩⟩
theorem news_blk {w : World} {q : Nat} {vs : List Value} (h : Blk w q vs) : ∀ j u, vs[j]? = some u → w.cell? ((⟨q, 0, none⟩ : Addr).add j) = some u := fun j u hu => by
 have := h.cell j
 rw [hu] at this
 by_cases e : j = 0
 ·subst e; simpa [Addr.add] using this
 ·simpa [Addr.add, e] using this
theorem alike_src {w : World} {q k : Nat} {iv : Value} (hk : k ≤ 1) (h : Blk w q [.int .i64 0, .int .i64 0, iv]) : ∀ j v, (alike iv k)[j]? = some v → w.cell? ((⟨q, 0, none⟩ : Addr).add j) = some v := fun j v hv => by
 have hkk : k = 0 ∨ k = 1 := by omega
 rcases hkk with rfl | rfl
 ·simp [alike] at hv
 ·exact news_blk h j v hv
theorem alike_src2 {w : World} {g k m : Nat} {iv : Value} {Zr : List Value} (hk : k ≤ m) (h : w.heap[g]? = some (.cells (alike iv m ++ Zr).toArray 105 (0, 0))) : ∀ j v, (alike iv k)[j]? = some v → w.cell? ((⟨g, 0, none⟩ : Addr).add j) = some v := fun j v hv => by
 refine news_blk (⟨_, _, h, rfl⟩ : Blk w g (alike iv m ++ Zr)) j v ?_
 obtain ⟨r, rfl⟩ : ∃ r, m = k + r := ⟨m - k, by omega⟩
 rw [alike_add, List.append_assoc, List.getElem?_append_left (idx_lt hv)]
 exact hv
theorem size_mf (w : World) : (sizeOf 105).run Tryd.prog w = .ok 3 w := by kernel_rfl
theorem elem_mfs : Tryd.prog.elem 23 = 105 := by kernel_rfl
theorem und_mfs : Tryd.prog.underlying 23 = some (.slice (Tryd.prog.elem 23)) := by kernel_rfl
set_option maxHeartbeats 4000000 in
theorem repeat_any (w : World) (q c : Nat) (iv : Value) (hc : c ≤ 5) (hq : Blk w q [.int .i64 0, .int .i64 0, iv]) (h1 : iv.oneCell' = true) :
  Calls Tryd.prog 151 #[.slice (some ⟨q, 0, none⟩) 1 1, .int .i64 (c : Int)] w (RepP c iv w) := by
 obtain ⟨i0, hi, hz0, hz1, hz2⟩ := info_parts info_mf
 have HMU := Lib.hid (mul_any w c hc)
 have hwc : IntKind.u64.wrap (c : Int) = (c : Int) := by unfold IntKind.wrap; simp [IntKind.bits, IntKind.signed]; omega
 have hwi : IntKind.i64.wrap (c : Int) = (c : Int) := IntWalk.i64_in _ (by omega)
 have hw1 : IntKind.u64.wrap (1 : Int) = 1 := by decide
 have hc0 : (0 : Int) ≤ c := by omega
 have hc5 : (c : Int) ≤ 5 := by omega
 have hneg : decide ((c : Int) < 0) = false := by simp
 have hbig : decide ((9223372036854775807 : Int) < c) = false := by simp; omega
 have HQ := Lib.hid hq
 have HONE := Lib.hid (alike_one iv h1)
 have hql := hq.lt
 obtain ⟨k1, hk1⟩ : ∃ k1, k1 = min 1 c := ⟨_, rfl⟩
 have hk1c : k1 ≤ c := by omega
 have hk11 : k1 ≤ 1 := by omega
 have HK1 := Lib.hid hk1
 have hcz : c = 0 → k1 = 0 := by omega
 have hcp : 0 < c → k1 = 1 := by omega
 have hsz3 : (Tryd.prog.info? 105).map (·.size) = some 3 := by rw [hi]; simp [hz1]
 clear hq h1 hk1
 go_enter Tryd.func151, Tryd.ntmps151
 go_wp2_with (fail)
 go_at_call 153
 refine HMU.out.mono ?_
 rintro e _ ⟨rfl, rfl⟩
 go_wp2_with (first | (refine wpList_make_full _ rfl _ _ 23 rfl w.heap.size 105 i0 _ 3 Tryd.underlying23 hi hz0 hz1 .i64 .i64 (c : Int) (c : Int) c (by rfl) (by rfl) rfl rfl (by rw [hz2]; omega) (by unfold maxLen; omega) (Nat.le_refl _) ?_; intro w1 hown hg; have HG := Lib.hid (row_full hown).1; have HZ := Lib.hid hown.1; have HB := Lib.hid ((Below.refl w.heap.size w).grown hg (Nat.le_refl _) (fun k hk => by cases hk)); clear hown hg; generalize (madeCells _ _).toList = Z at HG HZ; have HQ1 := Lib.hid (HQ.out.below HB.out); have HSRC := Lib.hid (alike_src hk11 HQ1.out); have hal := alike_len iv k1; have HZ0 := HZ.out; have HKM : Hid (k1 = Nat.min 1 c) := HK1) | (refine wpList_copy_wide rfl _ _ 23 23 rfl 105 Tryd.underlying23 3 hsz3 w.heap.size 0 c c ⟨q, 0, none⟩ 1 1 (by rfl) (by rfl) Z 105 HG.out (alike iv k1) k1 HKM.out hal HSRC.out (by omega) (HONE.out k1) w.heap.size w HB.out (Nat.le_refl _) ?_; intro w2 HG2 hB2; have HB2 := Lib.hid hB2; clear hB2) | fail)
 have HGS : Hid (w2.heap[w.heap.size]? = some (.cells (alike iv k1 ++ Z.drop (k1 * 3)).toArray 105 (0, 0))) := Lib.hid (by
  have := HG2.out
  rw [show splice Z 0 (alike iv k1) = alike iv k1 ++ Z.drop (k1 * 3) by simp [splice, hal]] at this
  exact this)
 have HZD : Hid ((Z.drop (k1 * 3)).length = (c - k1) * 3) := Lib.hid (by rw [List.length_drop, HZ0]; omega)
 generalize Z.drop (k1 * 3) = Z1 at HGS HZD
 clear HG2 HZ0 HG HZ HB HQ1 HSRC hal HKM HMU hwc hneg hbig hw1
 go_loopw [8] (fun nv wr => ∃ (m : Nat) (Zr : List Value), nv = .int .i64 (m : Int) ∧ m ≤ c ∧ (0 < c → 0 < m) ∧ Hid (wr.heap[w.heap.size]? = some (.cells (alike iv m ++ Zr).toArray 105 (0, 0))) ∧ Hid (Zr.length = (c - m) * 3) ∧ Hid (Below w.heap.size w wr)) (fun nv _ => c - (intOf nv).toNat)
 case atStart => exact ⟨k1, Z1, rfl, hk1c, fun h => by have := hcp h; omega, HGS, HZD, HB2⟩
 case round =>
  obtain ⟨m, Zr, rfl, hmc, hm0, HGR, HZR, HBR⟩ := hrel
  obtain ⟨wi, rfl⟩ : ∃ wi : World, wi = wr := ⟨_, rfl⟩
  by_cases hlt : m < c
  ·have hm1 := hm0 (by omega)
   have m0 : (0 : Int) ≤ m := by omega
   have m1 : (m : Int) < c := by omega
   have m2 : (m : Int) ≤ c := by omega
   obtain ⟨k, hk⟩ : ∃ k, k = min m (c - m) := ⟨_, rfl⟩
   have HKM : Hid (k = Nat.min m (c - m)) := Lib.hid hk
   have hkle : k ≤ m := by omega
   have hkpos : 0 < k := by omega
   have hmk : m + k ≤ c := by omega
   have hsum : IntKind.i64.wrap ((m : Int) + (k : Int)) = ((m + k : Nat) : Int) := by rw [IntWalk.i64_in _ (by omega)]; omega
   have hs1 : ∀ w', (Instr.slice 23 (.slice (some ⟨w.heap.size, 0, none⟩) c c) (some (.int .i64 (m : Int))) none none).run Tryd.prog w' = .ok (.slice (some ⟨w.heap.size, m * 3, none⟩) (c - m) (c - m)) w' := fun w' => by
    rw [run_slice_l w' 23 _ c c und_mfs .i64 _ m0 m2, elem_mfs, size_mf]
    show Result.ok _ w' = _
    unfold sliced
    simp only [Int.toNat_natCast]
    rw [if_neg (by omega)]
    simp only [Option.map_some]
    unfold Addr.add
    rw [if_neg (by omega)]
    simp
   have hs2 : ∀ w', (Instr.slice 23 (.slice (some ⟨w.heap.size, 0, none⟩) c c) none (some (.int .i64 (m : Int))) none).run Tryd.prog w' = .ok (.slice (some ⟨w.heap.size, 0, none⟩) m c) w' := fun w' => by
    rw [run_slice_h w' 23 _ c c und_mfs .i64 _ m0 m2, elem_mfs, size_mf]
    show Result.ok _ w' = _
    unfold sliced
    simp only [Int.toNat_natCast]
    rw [if_neg (by omega)]
    simp [Addr.add]
   have HSRC := Lib.hid (alike_src2 (Zr := Zr) hkle HGR.out)
   have hal := alike_len iv k
   have ham := alike_len iv m
   have hzr := HZR.out
   have HSP := Lib.hid (splice_alike iv m k (c - m - k) Zr (by rw [hzr]; congr 1; omega))
   clear hk
   go_wp2_with (fail)
   go_region_held3 (fun _ => True) (first | trivial) (first | (refine step_copy_wide rfl _ _ 23 23 rfl 105 Tryd.underlying23 3 hsz3 w.heap.size (m * 3) (c - m) (c - m) ⟨w.heap.size, 0, none⟩ m c (by rfl) (by rfl) (alike iv m ++ Zr) 105 HGR.out (alike iv k) k HKM.out hal HSRC.out (by rw [List.length_append]; omega) (HONE.out k) w.heap.size w HBR.out.drew (Nat.le_refl _) ?_; intro w4 HG4 hB4; have HB4 := Lib.hid hB4; clear hB4))
   all_goals
    go_wp2_with (fail)
    go_roundw
    case rel =>
     refine ⟨m + k, Zr.drop (k * 3), by go_num, hmk, fun _ => by omega, Lib.hid ?_, Lib.hid (by rw [List.length_drop, HZR.out]; omega), HB4⟩
     rw [← HSP.out]; exact HG4.out
    case measure => simp [intOf]; omega
  ·obtain rfl : m = c := by omega
   go_wp2_with (fail)
   go_ret
   have hz0 : Zr = [] := List.eq_nil_of_length_eq_zero (by rw [HZR.out]; omega)
   have hg := HGR.out
   rw [hz0, List.append_nil] at hg
   exact ⟨w.heap.size, rfl, row_of_heap hg (Nat.le_refl _) (by unfold maxLen; omega) (alike_len iv m), HBR.out⟩
end Go.Proofs.YtbdbmmdnidonjaaDoor
