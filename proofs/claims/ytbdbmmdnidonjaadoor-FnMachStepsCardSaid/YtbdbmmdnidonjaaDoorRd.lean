/- The reader of the draws (l30Rd): what a pick does. No conditions. -/
import Derived.Test.YtbdbmmdnidonjaaDoorLw
import Derived.WalkKit
import Derived.WalkSpells
import Derived.WalkLawsBesides
import Derived.Lib.Hide
import Derived.Deep.QuietTactic
import Derived.BigQuiet
namespace Go.Proofs.YtbdbmmdnidonjaaDoor
open Go.RowKit

/-- as it was but for the blocks of the list and for new blocks -/
structure Only (bs : List Nat) (w w' : World) : Prop where
  os : w'.os = w.os
  tape : w'.tape = w.tape
  output : w'.output = w.output
  size : w.heap.size ≤ w'.heap.size
  block : ∀ k, k < w.heap.size → k ∉ bs → w'.heap[k]? = w.heap[k]?

theorem Only.refl (bs : List Nat) (w : World) : Only bs w w := ⟨rfl, rfl, rfl, Nat.le_refl _, fun _ _ _ => rfl⟩
theorem Only.trans {bs : List Nat} {a b c : World} (h : Only bs a b) (k : Only bs b c) : Only bs a c :=
  ⟨k.os.trans h.os, k.tape.trans h.tape, k.output.trans h.output, Nat.le_trans h.size k.size, fun i hi hn => (k.block i (Nat.lt_of_lt_of_le hi h.size) hn).trans (h.block i hi hn)⟩
theorem Only.mono {bs cs : List Nat} {a b : World} (h : Only bs a b) (hs : ∀ x ∈ bs, x ∈ cs) : Only cs a b :=
  ⟨h.os, h.tape, h.output, h.size, fun k hk hn => h.block k hk (fun hb => hn (hs k hb))⟩
theorem Only.below {bs : List Nat} {B : Nat} {a w w' : World} (h : Below B a w) (k : Only bs w w') (hB : B ≤ w.heap.size) (hb : ∀ b ∈ bs, B ≤ b) : Below B a w' :=
  h.trans ⟨k.os, k.tape, k.output, k.size, fun i hi => k.block i (Nat.lt_of_lt_of_le hi hB) (fun hm => by have := hb i hm; omega)⟩
theorem Only.of_below {w w' : World} (h : Below w.heap.size w w') (bs : List Nat) : Only bs w w' :=
  ⟨h.os, h.tape, h.output, h.size, fun k hk _ => h.block k hk⟩
theorem Only.alloc {bs : List Nat} {a w : World} (h : Only bs a w) (o : Obj) : Only bs a (w.alloc o) :=
  h.trans (Only.of_below ((Below.refl _ _).alloc (Nat.le_refl _) o) bs)
theorem Only.drew {bs : List Nat} {a w : World} (h : Only bs a w) : Only bs a w.drew := h.trans (Only.of_below (Below.refl _ _).drew bs)
theorem Only.drewN {bs : List Nat} {a w : World} (h : Only bs a w) (n : Nat) : Only bs a (w.drewN n) := ⟨h.os, h.tape, h.output, h.size, h.block⟩
theorem Only.setCell {bs : List Nat} {a w : World} (h : Only bs a w) {p : Addr} (hp : p.block ∈ bs) (u : Value) : Only bs a (w.setCell p u) :=
  h.trans ⟨rfl, rfl, rfl, by simp [World.setCell], fun k _ hn => Below.heap_setCell _ _ _ _ (fun e => hn (e ▸ hp))⟩
theorem Only.cell {bs : List Nat} {w w' : World} (h : Only bs w w') {p : Addr} (hp : p.block < w.heap.size) (hn : p.block ∉ bs) : w'.cell? p = w.cell? p :=
  World.cell?_of_block (w := w) (h.block p.block hp hn)

/-- a slice of bytes that reads as xs; its block is older than r -/
def Bytes (w : World) (r : Nat) (v : Value) (xs : List Int) : Prop :=
  (∀ i, i < xs.length → 0 ≤ xs.getD i 0 ∧ xs.getD i 0 < 256) ∧
  ((xs = [] ∧ ∃ a cap, v = .slice a 0 cap) ∨ ∃ b off cap, v = .slice (some ⟨b, off, none⟩) xs.length cap ∧ xs.length ≤ cap ∧ b < r ∧ b < w.heap.size ∧ ∀ i, i < xs.length → w.cell? ⟨b, off + i, none⟩ = some (.int .u8 (xs.getD i 0)))

theorem Bytes.only {w w' : World} {r : Nat} {v : Value} {xs : List Int} (h : Bytes w r v xs) (k : Only [r] w w') : Bytes w' r v xs := by
  obtain ⟨hx, h⟩ := h
  refine ⟨hx, ?_⟩
  rcases h with h | ⟨b, off, cap, hv, hc, hb, hs, hcell⟩
  · exact .inl h
  · refine .inr ⟨b, off, cap, hv, hc, hb, Nat.lt_of_lt_of_le hs k.size, fun i hi => ?_⟩
    rw [k.cell (p := ⟨b, off + i, none⟩) hs (by simp; omega)]
    exact hcell i hi

/-- a reader at block r that has picked at most N times -/
def Rd (w : World) (r N : Nat) : Prop :=
  ∃ (v : Value) (xs : List Int) (p : Nat), w.heap[r]? = some (.cells #[v, .int .i64 p] 119 (0, 0)) ∧ p ≤ N ∧ xs.length ≤ 2000 ∧ Bytes w r v xs

theorem Rd.lt {w : World} {r N : Nat} (h : Rd w r N) : r < w.heap.size := by
  obtain ⟨v, xs, p, h, _⟩ := h
  rcases Nat.lt_or_ge r w.heap.size with hl | hl
  · exact hl
  · simp [Array.getElem?_eq_none hl] at h
theorem Rd.mono {w : World} {r N M : Nat} (h : Rd w r N) (hN : N ≤ M) : Rd w r M := by
  obtain ⟨v, xs, p, h, hp, hl, hb⟩ := h
  exact ⟨v, xs, p, h, by omega, hl, hb⟩
/-- what turns no block up to r turns no reader -/
theorem Rd.belowr {w w' : World} {r N : Nat} (h : Rd w r N) (hb : Below (r + 1) w w') : Rd w' r N := by
  obtain ⟨v, xs, p, h, hp, hl, hx, hB⟩ := h
  refine ⟨v, xs, p, by rw [hb.block r (by omega)]; exact h, hp, hl, hx, ?_⟩
  rcases hB with h | ⟨b, off, cap, hv, hc, hbr, hs, hcell⟩
  · exact .inl h
  · exact .inr ⟨b, off, cap, hv, hc, hbr, Nat.lt_of_lt_of_le hs hb.size, fun i hi => by rw [hb.cell (p := ⟨b, off + i, none⟩) (by simp; omega)]; exact hcell i hi⟩
theorem Rd.below {w w' : World} {r N : Nat} (h : Rd w r N) (hb : Below w.heap.size w w') : Rd w' r N := h.belowr (hb.mono h.lt)
theorem Rd.alloc {w : World} {r N : Nat} (h : Rd w r N) (o : Obj) : Rd (w.alloc o) r N := h.below ((Below.refl _ _).alloc (Nat.le_refl _) o)
theorem Rd.drew {w : World} {r N : Nat} (h : Rd w r N) : Rd w.drew r N := h.below (Below.refl _ _).drew
theorem Rd.drewN {w : World} {r N : Nat} (h : Rd w r N) (n : Nat) : Rd (w.drewN n) r N := h.below ⟨rfl, rfl, rfl, Nat.le_refl _, fun _ _ => rfl⟩
theorem Rd.setCell {w : World} {r N : Nat} (h : Rd w r N) {p : Addr} (hp : r < p.block) (u : Value) : Rd (w.setCell p u) r N := h.belowr ((Below.refl _ _).setCell hp u)
theorem Rd.grown {w w' : World} {r N : Nat} {row : Option Nat} (h : Rd w r N) (hg : w.grownBy w' row) (hr : ∀ k, row = some k → r < k) : Rd w' r N :=
  h.belowr ((Below.refl _ _).grown hg h.lt (fun k hk => hr k hk))
theorem Only.grown {bs : List Nat} {a w w' : World} {row : Option Nat} (h : Only bs a w) (hg : w.grownBy w' row) (hr : ∀ k, row = some k → a.heap.size ≤ k) : Only bs a w' := by
  refine ⟨hg.os.trans h.os, hg.tape.trans h.tape, hg.output.trans h.output, Nat.le_trans h.size hg.size, fun k hk hn => ?_⟩
  rw [hg.block k (Nat.lt_of_lt_of_le hk h.size) (fun e => by have := hr k e.symm; omega)]
  exact h.block k hk hn
theorem Only.setCellNew {bs : List Nat} {a w : World} (h : Only bs a w) {p : Addr} (hp : a.heap.size ≤ p.block) (u : Value) : Only bs a (w.setCell p u) := by
  refine ⟨h.os, h.tape, h.output, Nat.le_trans h.size (by simp [World.setCell]), fun k hk hn => ?_⟩
  rw [Below.heap_setCell _ _ _ _ (by omega)]
  exact h.block k hk hn
/-- a row of the call's own stands while only block r turns, an older one -/
theorem ownsRow_only {w w' : World} {base : Nat} {e : TypeId} {size : Nat} {v : Value} {n : Nat} {xs : List Value} (h : w.ownsRow base e size v n xs) {bs : List Nat} (ho : Only bs w w') (hb : ∀ b ∈ bs, b < base) : w'.ownsRow base e size v n xs := by
  obtain ⟨h1, h2⟩ := h
  refine ⟨h1, ?_⟩
  rcases h2 with h2 | ⟨g, cap, cur, hv, hg, hh, r⟩
  · exact Or.inl h2
  · have hlt : g < w.heap.size := by
      rcases Nat.lt_or_ge g w.heap.size with hl | hl
      · exact hl
      · simp [Array.getElem?_eq_none hl] at hh
    exact Or.inr ⟨g, cap, cur, hv, hg, by rw [ho.block g hlt (fun hm => by have := hb g hm; omega)]; exact hh, r⟩

def PickPost (r N : Nat) (n : Int) (w : World) (e : Ending) (w' : World) : Prop :=
  ∃ k : Nat, e = .returned (.int .i64 k) ∧ (1 ≤ n → (k : Int) < n) ∧ (n < 1 → k = 0) ∧ Rd w' r (N + 1) ∧ Only [r] w w'

end Go.Proofs.YtbdbmmdnidonjaaDoor
