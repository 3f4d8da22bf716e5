/- How a law closes: the call answers true and leaves what was there as it was. No conditions. The reader of the draws (l30Rd): what a pick does. No conditions. What the reading of an argument gives: []byte, []int. No conditions. Slices of ints: a copy, a comparison. No conditions. Small facts on rows of the call's own. Marks: markIntS writes them, heldIntS finds them. -/
import Derived.Test.YtbdbmmdnidonjaaDoorRows
import Derived.WalkKit
import Derived.ProofKit
import Derived.OpenShut
import Derived.JoinedCond
import Derived.WalkSpells
import Derived.WalkLawsBesides
import Derived.Lib.Hide
import Derived.Deep.QuietTactic
import Derived.BigQuiet
import Derived.Carry
import Derived.Deep.AppendLies
set_option linter.unusedVariables false
set_option linter.unusedSimpArgs false
namespace Go.Proofs.YtbdbmmdnidonjaaDoor.Lw
open Go.ChangeShapes Go.WideShapes Go.ChangeAt Go.RowKit
theorem trodAll_below {H : Type} {enc : TypeId × Value → H} {P : Program} (hl : laidOutB P = true) {W W' : World} (hb : Below W.heap.size W W') :
  ∀ (ts : List TypeId), (∀ t ∈ ts, P.readableRec t = true ∧ t < P.types.size) → ∀ (vs : List Value) (ds : List (DataW H)) (ps : List MemPlace),
  DataW.TrodAll enc P W 0 (fun _ => true) true ts vs ds ps → (∀ x ∈ ps, x.block < W.heap.size) →
  DataW.TrodAll enc P W' 0 (fun b => decide (b < W.heap.size)) true ts vs ds ps
 |[], _, [], [], _, h, _ => h
 |[], _, _ :: _, _, _, h, _ => by simp [DataW.TrodAll] at h
 |[], _, [], _ :: _, _, h, _ => by simp [DataW.TrodAll] at h
 |_ :: _, _, [], _, _, h, _ => by simp [DataW.TrodAll] at h
 |_ :: _, _, _ :: _, [], _, h, _ => by simp [DataW.TrodAll] at h
 |t :: ts, hr, v :: vs, d :: ds, ps, h, hlt => by
  obtain ⟨p, q, h1, h2, rfl⟩ := h
  refine ⟨p, q, ?_, trodAll_below hl hb ts (fun t ht => hr t (List.mem_cons_of_mem _ ht)) vs ds q h2 (fun x hx => hlt x (List.mem_append_right _ hx)), rfl⟩
  exact Below.trod hl (hr t (List.mem_cons_self ..)).1 (hr t (List.mem_cons_self ..)).2 h1 hb (fun x hx => hlt x (List.mem_append_left _ hx))
end Go.Proofs.YtbdbmmdnidonjaaDoor.Lw
namespace Go.Proofs.YtbdbmmdnidonjaaDoor
open Go.RowKit
/-- as it was but for the blocks of the list and for new blocks -/
structure Only (bs : List Nat) (w w' : World) : Prop where
 os : w'.os = w.os
 tape : w'.tape = w.tape
 output : w'.output = w.output
 size : w.heap.size ≤ w'.heap.size
 block : ∀ k, k < w.heap.size → k ∉ bs → w'.heap[k]? = w.heap[k]?
theorem Only.refl (bs : List Nat) (w : World) : Only bs w w := ⟨rfl, rfl, rfl, Nat.le_refl _, fun _ _ _ => rfl⟩
theorem Only.trans {bs : List Nat} {a b c : World} (h : Only bs a b) (k : Only bs b c) : Only bs a c :=
 ⟨k.os.trans h.os, k.tape.trans h.tape, k.output.trans h.output, Nat.le_trans h.size k.size, fun i hi hn => (k.block i (Nat.lt_of_lt_of_le hi h.size) hn).trans (h.block i hi hn)⟩
theorem Only.mono {bs cs : List Nat} {a b : World} (h : Only bs a b) (hs : ∀ x ∈ bs, x ∈ cs) : Only cs a b :=
 ⟨h.os, h.tape, h.output, h.size, fun k hk hn => h.block k hk (fun hb => hn (hs k hb))⟩
theorem Only.below {bs : List Nat} {B : Nat} {a w w' : World} (h : Below B a w) (k : Only bs w w') (hB : B ≤ w.heap.size) (hb : ∀ b ∈ bs, B ≤ b) : Below B a w' :=
 h.trans ⟨k.os, k.tape, k.output, k.size, fun i hi => k.block i (Nat.lt_of_lt_of_le hi hB) (fun hm => by have := hb i hm; omega)⟩
theorem Only.of_below {w w' : World} (h : Below w.heap.size w w') (bs : List Nat) : Only bs w w' :=
 ⟨h.os, h.tape, h.output, h.size, fun k hk _ => h.block k hk⟩
theorem Only.alloc {bs : List Nat} {a w : World} (h : Only bs a w) (o : Obj) : Only bs a (w.alloc o) :=
 h.trans (Only.of_below ((Below.refl _ _).alloc (Nat.le_refl _) o) bs)
theorem Only.drew {bs : List Nat} {a w : World} (h : Only bs a w) : Only bs a w.drew := h.trans (Only.of_below (Below.refl _ _).drew bs)
theorem Only.drewN {bs : List Nat} {a w : World} (h : Only bs a w) (n : Nat) : Only bs a (w.drewN n) := ⟨h.os, h.tape, h.output, h.size, h.block⟩
theorem Only.setCell {bs : List Nat} {a w : World} (h : Only bs a w) {p : Addr} (hp : p.block ∈ bs) (u : Value) : Only bs a (w.setCell p u) :=
 h.trans ⟨rfl, rfl, rfl, by simp [World.setCell], fun k _ hn => Below.heap_setCell _ _ _ _ (fun e => hn (e ▸ hp))⟩
theorem Only.cell {bs : List Nat} {w w' : World} (h : Only bs w w') {p : Addr} (hp : p.block < w.heap.size) (hn : p.block ∉ bs) : w'.cell? p = w.cell? p :=
 World.cell?_of_block (w := w) (h.block p.block hp hn)
/-- a slice of bytes that reads as xs; its block is older than r -/
def Bytes (w : World) (r : Nat) (v : Value) (xs : List Int) : Prop :=
 (∀ i, i < xs.length → 0 ≤ xs.getD i 0 ∧ xs.getD i 0 < 256) ∧
 ((xs = [] ∧ ∃ a cap, v = .slice a 0 cap) ∨ ∃ b off cap, v = .slice (some ⟨b, off, none⟩) xs.length cap ∧ xs.length ≤ cap ∧ b < r ∧ b < w.heap.size ∧ ∀ i, i < xs.length → w.cell? ⟨b, off + i, none⟩ = some (.int .u8 (xs.getD i 0)))
theorem Bytes.only {w w' : World} {r : Nat} {v : Value} {xs : List Int} (h : Bytes w r v xs) (k : Only [r] w w') : Bytes w' r v xs := by
 obtain ⟨hx, h⟩ := h
 refine ⟨hx, ?_⟩
 rcases h with h | ⟨b, off, cap, hv, hc, hb, hs, hcell⟩
 ·exact .inl h
 ·refine .inr ⟨b, off, cap, hv, hc, hb, Nat.lt_of_lt_of_le hs k.size, fun i hi => ?_⟩
  rw [k.cell (p := ⟨b, off + i, none⟩) hs (by simp; omega)]
  exact hcell i hi
/-- a reader at block r that has picked at most N times -/
def Rd (w : World) (r N : Nat) : Prop :=
 ∃ (v : Value) (xs : List Int) (p : Nat), w.heap[r]? = some (.cells #[v, .int .i64 p] 119 (0, 0)) ∧ p ≤ N ∧ xs.length ≤ 2000 ∧ Bytes w r v xs
theorem Rd.lt {w : World} {r N : Nat} (h : Rd w r N) : r < w.heap.size := by
 obtain ⟨v, xs, p, h, _⟩ := h
 rcases Nat.lt_or_ge r w.heap.size with hl | hl
 ·exact hl
 ·simp [Array.getElem?_eq_none hl] at h
theorem Rd.mono {w : World} {r N M : Nat} (h : Rd w r N) (hN : N ≤ M) : Rd w r M := by
 obtain ⟨v, xs, p, h, hp, hl, hb⟩ := h
 exact ⟨v, xs, p, h, by omega, hl, hb⟩
/-- what turns no block up to r turns no reader -/
theorem Rd.belowr {w w' : World} {r N : Nat} (h : Rd w r N) (hb : Below (r + 1) w w') : Rd w' r N := by
 obtain ⟨v, xs, p, h, hp, hl, hx, hB⟩ := h
 refine ⟨v, xs, p, by rw [hb.block r (by omega)]; exact h, hp, hl, hx, ?_⟩
 rcases hB with h | ⟨b, off, cap, hv, hc, hbr, hs, hcell⟩
 ·exact .inl h
 ·exact .inr ⟨b, off, cap, hv, hc, hbr, Nat.lt_of_lt_of_le hs hb.size, fun i hi => by rw [hb.cell (p := ⟨b, off + i, none⟩) (by simp; omega)]; exact hcell i hi⟩
theorem Rd.below {w w' : World} {r N : Nat} (h : Rd w r N) (hb : Below w.heap.size w w') : Rd w' r N := h.belowr (hb.mono h.lt)
theorem Rd.alloc {w : World} {r N : Nat} (h : Rd w r N) (o : Obj) : Rd (w.alloc o) r N := h.below ((Below.refl _ _).alloc (Nat.le_refl _) o)
theorem Rd.drew {w : World} {r N : Nat} (h : Rd w r N) : Rd w.drew r N := h.below (Below.refl _ _).drew
theorem Rd.drewN {w : World} {r N : Nat} (h : Rd w r N) (n : Nat) : Rd (w.drewN n) r N := h.below ⟨rfl, rfl, rfl, Nat.le_refl _, fun _ _ => rfl⟩
theorem Rd.setCell {w : World} {r N : Nat} (h : Rd w r N) {p : Addr} (hp : r < p.block) (u : Value) : Rd (w.setCell p u) r N := h.belowr ((Below.refl _ _).setCell hp u)
theorem Rd.grown {w w' : World} {r N : Nat} {row : Option Nat} (h : Rd w r N) (hg : w.grownBy w' row) (hr : ∀ k, row = some k → r < k) : Rd w' r N :=
 h.belowr ((Below.refl _ _).grown hg h.lt (fun k hk => hr k hk))
theorem Only.grown {bs : List Nat} {a w w' : World} {row : Option Nat} (h : Only bs a w) (hg : w.grownBy w' row) (hr : ∀ k, row = some k → a.heap.size ≤ k) : Only bs a w' := by
 refine ⟨hg.os.trans h.os, hg.tape.trans h.tape, hg.output.trans h.output, Nat.le_trans h.size hg.size, fun k hk hn => ?_⟩
 rw [hg.block k (Nat.lt_of_lt_of_le hk h.size) (fun e => by have := hr k e.symm; omega)]
 exact h.block k hk hn
theorem Only.setCellNew {bs : List Nat} {a w : World} (h : Only bs a w) {p : Addr} (hp : a.heap.size ≤ p.block) (u : Value) : Only bs a (w.setCell p u) := by
 refine ⟨h.os, h.tape, h.output, Nat.le_trans h.size (by simp [World.setCell]), fun k hk hn => ?_⟩
 rw [Below.heap_setCell _ _ _ _ (by omega)]
 exact h.block k hk hn
/-- a row of the call's own stands while only block r turns, an older one -/
theorem ownsRow_only {w w' : World} {base : Nat} {e : TypeId} {size : Nat} {v : Value} {n : Nat} {xs : List Value} (h : w.ownsRow base e size v n xs) {bs : List Nat} (ho : Only bs w w') (hb : ∀ b ∈ bs, b < base) : w'.ownsRow base e size v n xs := by
 obtain ⟨h1, h2⟩ := h
 refine ⟨h1, ?_⟩
 rcases h2 with h2 | ⟨g, cap, cur, hv, hg, hh, r⟩
 ·exact Or.inl h2
 ·have hlt : g < w.heap.size := by
   rcases Nat.lt_or_ge g w.heap.size with hl | hl
   ·exact hl
   ·simp [Array.getElem?_eq_none hl] at hh
  exact Or.inr ⟨g, cap, cur, hv, hg, by rw [ho.block g hlt (fun hm => by have := hb g hm; omega)]; exact hh, r⟩
end Go.Proofs.YtbdbmmdnidonjaaDoor
set_option maxRecDepth 100000
namespace Go.Proofs.YtbdbmmdnidonjaaDoor.Arg
open Go.ChangeShapes Go.WideShapes Go.ChangeAt Go.RowKit
theorem own : ownKnob Tryd.prog.godebug = none := by kernel_rfl
theorem laidOut : laidOutB Tryd.prog = true := by kernel_rfl
theorem add_eq (b off i : Nat) : (⟨b, off, none⟩ : Addr).add i = ⟨b, off + i, none⟩ := by
 simp only [Addr.add]
 split
 ·rename_i h; subst h; rfl
 ·rfl
/-- what the reading of a slice of integers gives -/
theorem open_nums {t e : TypeId} {k : IntKind} (ht : Tryd.prog.underlying t = some (.slice e)) (he : Tryd.prog.underlying e = some (.int k)) (hc1 : Tryd.prog.cellsOf e = 1)
  {H : Type} {enc : TypeId × Value → H} {W : World} {base : Nat} {v : Value} {d : DataW H} {p : List MemPlace} (hval : Value.okWide Tryd.prog W .any base t v)
  (h : DataW.Trod enc Tryd.prog W 0 (fun _ => true) true t v d p) :
  ∃ a n cap, ∃ xs : List Int, v = .slice a n cap ∧ n ≤ cap ∧ cap ≤ 9223372036854775807 ∧ xs.length = n ∧ (∀ x ∈ xs, (Lit.int k x).wf = true) ∧
   (n = 0 ∨ ∃ b off, a = some ⟨b, off, none⟩ ∧ b < W.heap.size ∧ ∀ i, i < n → W.cell? ⟨b, off + i, none⟩ = some (.int k (xs.getD i 0))) := by
 obtain ⟨a0, n, cap, rfl⟩ := okWide_slice ht hval
 obtain ⟨fuel, hf⟩ := h
 rcases open_ints ht he hc1 hf with ⟨hcs, _⟩ | ⟨a, len', cap', zs, hcs, _, hl, hm, hz, _, hcell, hwz⟩
 ·simp [Value.cells] at hcs
  obtain ⟨rfl, rfl, rfl⟩ := hcs
  exact ⟨none, 0, 0, [], rfl, Nat.le_refl _, by omega, rfl, by simp, .inl rfl⟩
 ·simp [Value.cells] at hcs
  obtain ⟨rfl, rfl, rfl⟩ := hcs
  simp only [if_true] at hz
  unfold maxLen at hm
  have hlen : (zs.take n).length = n := by simp; omega
  refine ⟨some a, n, cap, zs.take n, rfl, hl, hm, hlen, fun x hx => hwz x (List.mem_of_mem_take hx), ?_⟩
  by_cases hn : n = 0
  ·exact .inl hn
  ·refine .inr ?_
   have hget : ∀ i, i < n → (zs.take n).getD i 0 = zs.getD i 0 := fun i hi => by simp [List.getD_eq_getElem?_getD, hi]
   have hc0 := hcell 0 (by omega)
   obtain ⟨b, off, sp⟩ := a
   have hsp : sp = none := by
    cases sp with
    |none => rfl
    |some x =>
     exfalso
     simp only [World.cell?, Addr.add] at hc0
     split at hc0 <;> simp at hc0
   subst hsp
   have hbl : b < W.heap.size := World.block_lt_of_cell? W ⟨b, off + 0, none⟩ hc0
   refine ⟨b, off, rfl, hbl, fun i hi => ?_⟩
   rw [hget i hi]
   have := hcell i (by omega)
   rw [add_eq] at this
   exact this
end Go.Proofs.YtbdbmmdnidonjaaDoor.Arg
set_option maxRecDepth 100000
namespace Go.Proofs.YtbdbmmdnidonjaaDoor
open Go.RowKit
theorem info_int : (Tryd.prog.info? 3).map (fun i => (i.zero, i.size, i.bytes)) = some (some (.int .i64 0), 1, 8) := by kernel_rfl
/-- the slice v reads as the numbers zs -/
def IntsAt (w : World) (v : Value) (zs : List Int) : Prop :=
 ∃ a cap, v = .slice a zs.length cap ∧ ∀ i, i < zs.length → ∃ b off, a = some ⟨b, off, none⟩ ∧ w.cell? ⟨b, off + i, none⟩ = some (.int .i64 (zs.getD i 0))
theorem IntsAt.below {w w' : World} {v : Value} {zs : List Int} (h : IntsAt w v zs) (hb : Below w.heap.size w w') : IntsAt w' v zs := by
 obtain ⟨a, cap, hv, hc⟩ := h
 refine ⟨a, cap, hv, fun i hi => ?_⟩
 obtain ⟨b, off, ha, hcell⟩ := hc i hi
 exact ⟨b, off, ha, by rw [hb.cell (World.block_lt_of_cell? _ _ hcell)]; exact hcell⟩
def ints (zs : List Int) : List Value := zs.map (Value.int .i64)
theorem intsAt_own {w : World} {B g cap : Nat} {zs : List Int} (h : w.ownsRow B 3 1 (.slice (some ⟨g, 0, none⟩) zs.length cap) zs.length (ints zs)) : IntsAt w (.slice (some ⟨g, 0, none⟩) zs.length cap) zs := by
 refine ⟨_, _, rfl, fun i hi => ⟨g, 0, rfl, ?_⟩⟩
 rw [Nat.zero_add, h.cellAt i (by omega)]
 simp [ints, List.getD_eq_getElem?_getD, List.getElem?_eq_getElem hi]
/-- a new slice with these numbers; all else as it was -/
def NewInts (zs : List Int) (w : World) (e : Ending) (w' : World) : Prop :=
 ∃ g, e = .returned (.slice (some ⟨g, 0, none⟩) zs.length zs.length) ∧ w'.ownsRow w.heap.size 3 1 (.slice (some ⟨g, 0, none⟩) zs.length zs.length) zs.length (ints zs) ∧ Below w.heap.size w w'
set_option maxHeartbeats 1000000 in
theorem toIntS_any (w : World) (a : Option Addr) (cap n : Nat) (zs : List Int) (hl : zs.length = n) (hm : n ≤ 1099511627776)
  (hc : ∀ i, i < zs.length → ∃ b off, a = some ⟨b, off, none⟩ ∧ w.cell? ⟨b, off + i, none⟩ = some (.int .i64 (zs.getD i 0))) :
  Calls Tryd.prog 19 #[.slice a n cap] w (NewInts zs w) := by
 obtain ⟨i0, hi, hz0, hz1, hz2⟩ := info_parts info_int
 have Hc := Lib.hid hc
 have Hl := Lib.hid hl
 clear hc hl
 go_enter Tryd.func19, Tryd.ntmps19
 go_wp2_with (refine wpList_make_full _ rfl _ _ 26 rfl w.heap.size 3 i0 (.int .i64 0) 1 Tryd.underlying26 hi hz0 hz1 .i64 .i64 n n n (by rfl) (by rfl) rfl rfl (by rw [hz2]; omega) (by unfold maxLen; omega) (Nat.le_refl _) ?_; intro w1 hown hg; have HOWN := Lib.hid hown; have HB := Lib.hid ((Below.refl w.heap.size w).grown hg (Nat.le_refl _) (fun k hk => by cases hk)); clear hown hg)
 go_loopw [4] (fun i wr => ∃ k xs, k ≤ n ∧ i = .int .i64 k ∧ wr.ownsRow w.heap.size 3 1 (.slice (some ⟨w.heap.size, 0, none⟩) n n) n xs ∧ (∀ j, j < k → xs[j]? = some (.int .i64 (zs.getD j 0))) ∧ Below w.heap.size w wr) (fun i _ => n - (intOf i).toNat)
 case atStart => exact ⟨0, _, Nat.zero_le _, rfl, HOWN.out, by simp, HB.out⟩
 case round =>
  obtain ⟨k, xs, hk, rfl, hown, hxs, hB⟩ := hrel
  obtain ⟨wo, rfl⟩ : ∃ wo : World, wo = wr := ⟨_, rfl⟩
  by_cases hlt : k < n
  ·obtain ⟨b, off, rfl, hcell⟩ := Hc.out k (by rw [Hl.out]; exact hlt)
   have hbl : b < w.heap.size := World.block_lt_of_cell? w ⟨b, off + k, none⟩ hcell
   rw [← hB.cell (p := ⟨b, off + k, none⟩) hbl] at hcell
   have hlen : xs.length = n := by have := hown.1; omega
   have hfz := hown.frozenAt k
   have hck := hown.cellAt k (by omega)
   rw [List.getElem?_eq_getElem (by omega)] at hck
   have hst := hown.stored k (.int .i64 (zs.getD k 0))
   have hB' := hB.setCell (p := ⟨w.heap.size, k, none⟩) (Nat.le_refl _) (.int .i64 (zs.getD k 0))
   obtain ⟨z, hz⟩ : ∃ z, z = zs.getD k 0 := ⟨_, rfl⟩
   rw [← hz] at hst hB' hcell
   have HZ := Lib.hid hz
   clear hz
   have HST := Lib.hid hst; have HXS := Lib.hid hxs; have HB' := Lib.hid hB'
   clear hst hxs hB' hB hown
   go_wp2
   go_roundw
   case rel =>
    refine ⟨k + 1, _, by omega, by go_num, HST.out.1, fun j hj => ?_, HB'.out⟩
    by_cases hjk : j = k
    ·subst hjk
     rw [List.getElem?_set_self (by omega)]
     rw [← HZ.out]
    ·rw [List.getElem?_set_ne (by omega)]
     exact HXS.out j (by omega)
   case measure => simp [intOf]; omega
  ·obtain rfl : k = n := by omega
   have hxs' : xs = ints zs := by
    apply List.ext_getElem?
    intro j
    by_cases hj : j < k
    ·rw [hxs j hj]
     have hj' : j < zs.length := by rw [Hl.out]; exact hj
     simp [ints, List.getD_eq_getElem?_getD, List.getElem?_eq_getElem hj']
    ·have hlen : xs.length = k := by have := hown.1; omega
     rw [List.getElem?_eq_none (by omega), List.getElem?_eq_none (by simp [ints]; have := Hl.out; omega)]
   subst hxs'
   have HO := Lib.hid hown; have HB' := Lib.hid hB
   clear hxs hown hB
   go_wp2
   go_ret
   exact ⟨w.heap.size, by rw [Hl.out]; rfl, by rw [Hl.out]; exact HO.out, HB'.out⟩
/-- it says yes, and turns nothing -/
def Yes (w : World) (e : Ending) (w' : World) : Prop := e = .returned (.bool true) ∧ Below w.heap.size w w'
set_option maxHeartbeats 1000000 in
theorem eqIntS_same (w : World) (a a2 : Option Addr) (cap cap2 n : Nat) (zs : List Int) (hl : zs.length = n) (hm : n ≤ 1099511627776)
  (hc : ∀ i, i < zs.length → ∃ b off, a = some ⟨b, off, none⟩ ∧ w.cell? ⟨b, off + i, none⟩ = some (.int .i64 (zs.getD i 0)))
  (hc2 : ∀ i, i < zs.length → ∃ b off, a2 = some ⟨b, off, none⟩ ∧ w.cell? ⟨b, off + i, none⟩ = some (.int .i64 (zs.getD i 0))) :
  Calls Tryd.prog 21 #[.slice a n cap, .slice a2 n cap2] w (Yes w) := by
 have Hc := Lib.hid hc
 have Hc2 := Lib.hid hc2
 have Hl := Lib.hid hl
 clear hc hl hc2
 go_enter Tryd.func21, Tryd.ntmps21
 go_wp2
 go_loopw [5] (fun i wr => ∃ k : Nat, k ≤ n ∧ i = .int .i64 k ∧ ∃ m, wr = w.drewN m) (fun i _ => n - (intOf i).toNat)
 case atStart => exact ⟨0, Nat.zero_le _, rfl, 0, rfl⟩
 case round =>
  obtain ⟨k, hk, rfl, m, rfl⟩ := hrel
  by_cases hlt : k < n
  ·obtain ⟨b, off, rfl, hcell⟩ := Hc.out k (by rw [Hl.out]; exact hlt)
   obtain ⟨b2, off2, rfl, hcell2⟩ := Hc2.out k (by rw [Hl.out]; exact hlt)
   generalize zs.getD k 0 = z at *
   have hd : ∀ m', (w.drewN m').cell? ⟨b, off + k, none⟩ = some (.int .i64 z) := fun _ => hcell
   have hd2 : ∀ m', (w.drewN m').cell? ⟨b2, off2 + k, none⟩ = some (.int .i64 z) := fun _ => hcell2
   have k0 : (0 : Int) ≤ k := by omega
   have k1 : (k : Int) < n := by omega
   go_wp2
   go_quiet (fail)
   go_wp2
   go_roundw
   case rel => exact ⟨k + 1, by omega, by go_num, _, rfl⟩
   case measure => simp [intOf]; omega
  ·obtain rfl : k = n := by omega
   go_wp2
   go_ret
   exact ⟨rfl, rfl, rfl, rfl, Nat.le_refl _, fun _ _ => rfl⟩
theorem eqInts {w : World} {v v2 : Value} {zs : List Int} (h : IntsAt w v zs) (h2 : IntsAt w v2 zs) (hm : zs.length ≤ 1099511627776) : Calls Tryd.prog 21 #[v, v2] w (Yes w) := by
 obtain ⟨a, cap, rfl, hc⟩ := h
 obtain ⟨a2, cap2, rfl, hc2⟩ := h2
 exact eqIntS_same w a a2 cap cap2 _ zs rfl hm hc hc2
theorem toInts {w : World} {v : Value} {zs : List Int} (h : IntsAt w v zs) (hm : zs.length ≤ 1099511627776) : Calls Tryd.prog 19 #[v] w (NewInts zs w) := by
 obtain ⟨a, cap, rfl, hc⟩ := h
 exact toIntS_any w a cap _ zs rfl hm hc
end Go.Proofs.YtbdbmmdnidonjaaDoor
set_option maxRecDepth 100000
namespace Go.Proofs.YtbdbmmdnidonjaaDoor
open Go.RowKit
theorem ownBlock_of {B : Nat} {w : World} {e : TypeId} {size : Nat} {v : Value} {n : Nat} {xs : List Value} (h : w.ownsRow B e size v n xs) (k : Nat) (hk : v.ownBlock = some k) : B ≤ k := by
 rcases h.2 with ⟨rfl, _⟩ | ⟨g, cap, cur, rfl, hg, _⟩
 ·simp [Value.ownBlock] at hk
 ·simp [Value.ownBlock] at hk; omega
theorem ownsRow_empty (w : World) (e : TypeId) (size : Nat) : (w.alloc (.cells #[] e)).ownsRow w.heap.size e size (.slice (some ⟨w.heap.size, 0, none⟩) 0 0) 0 [] :=
 ⟨by simp, .inr ⟨_, 0, #[], rfl, Nat.le_refl _, by (show (w.heap.push _)[w.heap.size]? = _); simp, Nat.le_refl _, by decide, by simp, by simp⟩⟩
theorem ownsRow_lt {B : Nat} {w : World} {e : TypeId} {size : Nat} {g n cap : Nat} {xs : List Value} (h : w.ownsRow B e size (.slice (some ⟨g, 0, none⟩) n cap) n xs) : g < w.heap.size ∧ B ≤ g ∧ n ≤ cap := by
 rcases h.2 with ⟨h', _⟩ | ⟨g', cap', cur, h', hg, hh, hnc, _⟩
 ·simp at h'
 ·injection h' with h1 _ h2
  injection h1 with h1
  injection h1 with h1
  subst h1; subst h2
  refine ⟨?_, hg, hnc⟩
  rcases Nat.lt_or_ge g w.heap.size with hl | hl
  ·exact hl
  ·simp [Array.getElem?_eq_none hl] at hh
theorem ownsRow_form {B : Nat} {w : World} {e : TypeId} {size : Nat} {v : Value} {n : Nat} {xs : List Value} (h : w.ownsRow B e size v n xs) (hne : v ≠ .slice none 0 0) : ∃ g cap, v = .slice (some ⟨g, 0, none⟩) n cap := by
 rcases h.2 with ⟨h', _⟩ | ⟨g', cap', cur, h', _⟩
 ·exact absurd h' hne
 ·exact ⟨g', cap', h'⟩
theorem intsAt_of {w : World} {B : Nat} {v : Value} {zs : List Int} (h : w.ownsRow B 3 1 v zs.length (ints zs)) : IntsAt w v zs := by
 rcases h.2 with ⟨rfl, h0⟩ | ⟨g, cap, cur, rfl, _⟩
 ·have : zs = [] := by simpa using h0
  subst this
  exact ⟨none, 0, rfl, by simp⟩
 ·exact intsAt_own h
/-- a row of the call's own stands while what is below its base may turn -/
theorem ownsRow_below {w w' : World} {B : Nat} {e : TypeId} {size : Nat} {v : Value} {n : Nat} {xs : List Value} (h : w.ownsRow B e size v n xs) (hb : Below w.heap.size w w') : w'.ownsRow B e size v n xs :=
 ownsRow_only h (Only.of_below hb []) (by simp)
theorem ownsRow_mono {w : World} {B B' : Nat} {e : TypeId} {size : Nat} {v : Value} {n : Nat} {xs : List Value} (h : w.ownsRow B e size v n xs) (hB : B' ≤ B) : w.ownsRow B' e size v n xs := by
 obtain ⟨h1, h2⟩ := h
 refine ⟨h1, ?_⟩
 rcases h2 with h2 | ⟨g, cap, cur, hv, hg, r⟩
 ·exact .inl h2
 ·exact .inr ⟨g, cap, cur, hv, Nat.le_trans hB hg, r⟩
end Go.Proofs.YtbdbmmdnidonjaaDoor
set_option maxRecDepth 100000
namespace Go.Proofs.YtbdbmmdnidonjaaDoor
open Go.RowKit
def iota (k n : Nat) : List Int := (List.range n).map fun i => ((k + i : Nat) : Int)
theorem iota_length (k n : Nat) : (iota k n).length = n := by simp [iota]
theorem iota_at (k n i : Nat) (h : i < n) : (iota k n).getD i 0 = ((k + i : Nat) : Int) := by
 simp [iota, List.getD_eq_getElem?_getD, h]
set_option maxHeartbeats 1000000 in
theorem heldIntS_any (w : World) (v : Value) (n k : Nat) (h : IntsAt w v (iota k n)) (hk : k + n ≤ 1099511627776) :
  Calls Tryd.prog 45 #[v, .int .i64 k] w fun e w' => e = .returned (.int .i64 ((k + n : Nat) : Int)) ∧ w = w' := by
 obtain ⟨a, cap, rfl, hc⟩ := h
 rw [iota_length] at hc ⊢
 have HC := Lib.hid hc
 clear hc
 go_enter Tryd.func45, Tryd.ntmps45
 go_wp2
 go_loop [1, 5] (fun q i => ∃ j : Nat, j ≤ n ∧ i = .int .i64 j ∧ q = .int .i64 ((k + j : Nat) : Int)) (fun _ i => n - (intOf i).toNat)
 case atStart => exact ⟨0, Nat.zero_le _, rfl, rfl⟩
 case round =>
  obtain ⟨j, hj, rfl, rfl⟩ := hrel
  by_cases hlt : j < n
  ·obtain ⟨b, off, rfl, hcell⟩ := HC.out j hlt
   rw [iota_at k n j hlt] at hcell
   go_wp2
   go_round
   case rel => exact ⟨j + 1, by omega, by go_num, by congr 1⟩
   case measure => simp [intOf]; omega
  ·obtain rfl : j = n := by omega
   go_wp2
   go_ret
   exact ⟨rfl, rfl⟩
end Go.Proofs.YtbdbmmdnidonjaaDoor
