/- Blocks of memory as lists of values; what a run may turn. No program in sight. -/
import Derived.Test.YtbdbmmdnidonjaaDoorMx
set_option maxRecDepth 100000
namespace Go.Proofs.YtbdbmmdnidonjaaDoor
open Go.RowKit

/-- block p holds these cells, none of them frozen -/
def Blk (w : World) (p : Nat) (xs : List Value) : Prop := ∃ cur t, w.heap[p]? = some (.cells cur t (0, 0)) ∧ cur.toList = xs

theorem Blk.lt {w : World} {p : Nat} {xs : List Value} (h : Blk w p xs) : p < w.heap.size := by
  obtain ⟨cur, t, h, _⟩ := h
  exact (Array.getElem?_eq_some_iff.1 h).1
theorem Blk.cell {w : World} {p : Nat} {xs : List Value} (h : Blk w p xs) (j : Nat) : w.cell? ⟨p, j, none⟩ = xs[j]? := by
  obtain ⟨cur, t, h, rfl⟩ := h
  rw [cell_of_row w p j cur t (0, 0) h]; simp
theorem Blk.frozen {w : World} {p : Nat} {xs : List Value} (h : Blk w p xs) (j : Nat) : w.frozen? ⟨p, j, none⟩ = false := by
  obtain ⟨cur, t, h, _⟩ := h
  exact frozen_of_row w p j cur t h
theorem Blk.same {w w' : World} {p : Nat} {xs : List Value} (h : Blk w p xs) (hb : w'.heap[p]? = w.heap[p]?) : Blk w' p xs := by
  obtain ⟨cur, t, h, hx⟩ := h
  exact ⟨cur, t, by rw [hb]; exact h, hx⟩
theorem Blk.set {w : World} {p : Nat} {xs : List Value} (h : Blk w p xs) (j : Nat) (u : Value) : Blk (w.setCell ⟨p, j, none⟩ u) p (xs.set j u) := by
  obtain ⟨cur, t, h, rfl⟩ := h
  exact ⟨cur.setIfInBounds j u, t, heap_setCell_same w p j cur t u h, by simp⟩
theorem Blk.other {w : World} {p : Nat} {xs : List Value} (h : Blk w p xs) {a : Addr} (ha : p ≠ a.block) (u : Value) : Blk (w.setCell a u) p xs :=
  h.same (Below.heap_setCell _ _ _ _ ha)
theorem Blk.alloc {w : World} {p : Nat} {xs : List Value} (h : Blk w p xs) (o : Obj) : Blk (w.alloc o) p xs := h.same (Below.heap_alloc _ _ _ h.lt)
theorem Blk.drew {w : World} {p : Nat} {xs : List Value} (h : Blk w p xs) : Blk w.drew p xs := h
theorem Blk.drewN {w : World} {p : Nat} {xs : List Value} (h : Blk w p xs) (n : Nat) : Blk (w.drewN n) p xs := h
theorem Blk.new (w : World) (cs : Array Value) (t : TypeId) : Blk (w.alloc (.cells cs t)) w.heap.size cs.toList := ⟨cs, t, heap_alloc_new w _, rfl⟩
theorem Blk.grown {w w' : World} {p : Nat} {xs : List Value} {row : Option Nat} (h : Blk w p xs) (hg : w.grownBy w' row) (hr : row ≠ some p) : Blk w' p xs :=
  h.same (hg.block p h.lt (fun e => hr e.symm))
theorem Blk.below {w w' : World} {p : Nat} {xs : List Value} (h : Blk w p xs) (hb : Below w.heap.size w w') : Blk w' p xs := h.same (hb.block p h.lt)
/-- a full row of the call's own is a block -/
theorem Blk.of_row {w : World} {B : Nat} {e : TypeId} {g n : Nat} {xs : List Value} (h : w.ownsRow B e 1 (.slice (some ⟨g, 0, none⟩) n n) n xs) : Blk w g xs ∧ B ≤ g := by
  rcases h.2 with ⟨h', _⟩ | ⟨g', cap', cur, h', hb, hg, _, _, hs, ht⟩
  · simp at h'
  · simp only [Value.slice.injEq, Option.some.injEq, Addr.mk.injEq, and_true, true_and] at h'
    obtain ⟨rfl, rfl⟩ := h'
    refine ⟨⟨cur, e, hg, ?_⟩, hb⟩
    rw [← ht, List.take_of_length_le (by rw [Array.length_toList, hs]; exact Nat.le_refl _)]

def nats (xs : List Nat) : List Value := xs.map fun (n : Nat) => Value.int .i64 (n : Int)
theorem nats_len (xs : List Nat) : (nats xs).length = xs.length := by simp [nats]
theorem nats_get {xs : List Nat} {i : Nat} (h : i < xs.length) : (nats xs)[i]? = some (.int .i64 ((xs.getD i 0 : Nat) : Int)) := by
  simp [nats, List.getD_eq_getElem?_getD, List.getElem?_eq_getElem h]
theorem nats_set (xs : List Nat) (i v : Nat) : (nats xs).set i (.int .i64 (v : Int)) = nats (xs.set i v) := by simp [nats]
theorem nats_zeros (n : Nat) : List.replicate n (Value.int .i64 0) = nats (List.replicate n 0) := by simp [nats]

/-- what a run may turn: the blocks of a list, the row that it says into; new blocks as it likes -/
structure Fr (fx : List Nat) (sv : Value) (w : World) (sv' : Value) (w' : World) : Prop where
  only : Only (fx ++ sv.ownBlock.toList) w w'
  row : sv'.ownBlock = sv.ownBlock ∨ ∀ k, sv'.ownBlock = some k → w.heap.size ≤ k

theorem Fr.refl (fx : List Nat) (sv : Value) (w : World) : Fr fx sv w sv w := ⟨Only.refl _ _, .inl rfl⟩
theorem Fr.trans {fx : List Nat} {sa sb sc : Value} {a b c : World} (h : Fr fx sa a sb b) (k : Fr fx sb b sc c) : Fr fx sa a sc c := by
  refine ⟨⟨k.only.os.trans h.only.os, k.only.tape.trans h.only.tape, k.only.output.trans h.only.output, Nat.le_trans h.only.size k.only.size, fun i hi hn => ?_⟩, ?_⟩
  · rw [k.only.block i (Nat.lt_of_lt_of_le hi h.only.size) ?_, h.only.block i hi hn]
    intro hm
    rcases List.mem_append.1 hm with hm | hm
    · exact hn (List.mem_append_left _ hm)
    · have hm : sb.ownBlock = some i := by simpa using hm
      rcases h.row with he | he
      · exact hn (List.mem_append_right _ (by rw [← he, hm]; simp))
      · have := he i hm; omega
  · rcases k.row with he | he
    · rw [he]; exact h.row
    · exact .inr fun i hi => Nat.le_trans h.only.size (he i hi)
theorem Fr.below {fx : List Nat} {sv : Value} {w w' : World} (h : Below w.heap.size w w') : Fr fx sv w sv w' := ⟨Only.of_below h _, .inl rfl⟩
theorem Fr.block {fx : List Nat} {sv sv' : Value} {w w' : World} (h : Fr fx sv w sv' w') {k : Nat} (hk : k < w.heap.size) (hf : k ∉ fx) (hs : sv.ownBlock ≠ some k) : w'.heap[k]? = w.heap[k]? :=
  h.only.block k hk (fun hm => (List.mem_append.1 hm).elim hf (fun hm => hs (by simpa using hm)))
theorem Fr.blk {fx : List Nat} {sv sv' : Value} {w w' : World} (h : Fr fx sv w sv' w') {k : Nat} {xs : List Value} (hk : Blk w k xs) (hf : k ∉ fx) (hs : sv.ownBlock ≠ some k) : Blk w' k xs :=
  hk.same (h.block hk.lt hf hs)
/-- the said row is no block that was there ahead of it -/
theorem Fr.ne {fx : List Nat} {sv sv' : Value} {w w' : World} (h : Fr fx sv w sv' w') {k : Nat} (hk : k < w.heap.size) (hs : sv.ownBlock ≠ some k) : sv'.ownBlock ≠ some k := by
  rcases h.row with he | he
  · rw [he]; exact hs
  · intro hk2; have := he k hk2; omega
theorem Fr.size {fx : List Nat} {sv sv' : Value} {w w' : World} (h : Fr fx sv w sv' w') : w.heap.size ≤ w'.heap.size := h.only.size
theorem Fr.drew {fx : List Nat} {sv sv' : Value} {w w' : World} (h : Fr fx sv w sv' w') : Fr fx sv w sv' w'.drew := ⟨h.only.drew, h.row⟩
theorem Fr.drewN {fx : List Nat} {sv sv' : Value} {w w' : World} (h : Fr fx sv w sv' w') (n : Nat) : Fr fx sv w sv' (w'.drewN n) := ⟨h.only.drewN n, h.row⟩
theorem Fr.alloc {fx : List Nat} {sv sv' : Value} {w w' : World} (h : Fr fx sv w sv' w') (o : Obj) : Fr fx sv w sv' (w'.alloc o) := ⟨h.only.alloc o, h.row⟩
theorem Fr.setIn {fx : List Nat} {sv sv' : Value} {w w' : World} (h : Fr fx sv w sv' w') {a : Addr} (ha : a.block ∈ fx) (u : Value) : Fr fx sv w sv' (w'.setCell a u) :=
  ⟨h.only.setCell (List.mem_append_left _ ha) u, h.row⟩
theorem Fr.setNew {fx : List Nat} {sv sv' : Value} {w w' : World} (h : Fr fx sv w sv' w') {a : Addr} (ha : w.heap.size ≤ a.block) (u : Value) : Fr fx sv w sv' (w'.setCell a u) :=
  ⟨h.only.setCellNew ha u, h.row⟩
theorem Fr.mono {fx fy : List Nat} {sv sv' : Value} {w w' : World} (h : Fr fx sv w sv' w') (hs : ∀ x ∈ fx, x ∈ fy) : Fr fy sv w sv' w' :=
  ⟨h.only.mono (fun x hx => (List.mem_append.1 hx).elim (fun hx => List.mem_append_left _ (hs x hx)) (fun hx => List.mem_append_right _ hx)), h.row⟩
/-- what is below a base stands, if all that may turn lies above it -/
theorem Fr.below_of {fx : List Nat} {sv sv' : Value} {w w' : World} {B : Nat} (h : Fr fx sv w sv' w') (hB : B ≤ w.heap.size) (hf : ∀ k ∈ fx, B ≤ k) (hs : ∀ k, sv.ownBlock = some k → B ≤ k) : Below B w w' :=
  ⟨h.only.os, h.only.tape, h.only.output, h.only.size, fun k hk => h.block (by omega) (fun hm => by have := hf k hm; omega) (fun he => by have := hs k he; omega)⟩

theorem ownsRow_same {w w' : World} {B : Nat} {e : TypeId} {size : Nat} {v : Value} {n : Nat} {xs : List Value} (h : w.ownsRow B e size v n xs) (hb : ∀ k, v.ownBlock = some k → w'.heap[k]? = w.heap[k]?) : w'.ownsRow B e size v n xs := by
  obtain ⟨h1, h2⟩ := h
  refine ⟨h1, ?_⟩
  rcases h2 with h2 | ⟨g, cap, cur, rfl, hg, hh, r⟩
  · exact .inl h2
  · exact .inr ⟨g, cap, cur, rfl, hg, by rw [hb g rfl]; exact hh, r⟩

/-- the said row, with the machine's frame -/
def Said (w : World) (B : Nat) (sv : Value) (xs : List Nat) : Prop := w.ownsRow B 3 1 sv xs.length (nats xs)
theorem Said.same {w w' : World} {B : Nat} {sv : Value} {xs : List Nat} (h : Said w B sv xs) (hb : ∀ k, sv.ownBlock = some k → w'.heap[k]? = w.heap[k]?) : Said w' B sv xs := ownsRow_same h hb
theorem Said.set {w : World} {B : Nat} {sv : Value} {xs : List Nat} (h : Said w B sv xs) {a : Addr} (ha : sv.ownBlock ≠ some a.block) (u : Value) : Said (w.setCell a u) B sv xs :=
  h.same fun k hk => Below.heap_setCell _ _ _ _ (fun e => ha (by rw [hk, e]))
theorem Said.lt {w : World} {B : Nat} {sv : Value} {xs : List Nat} (h : Said w B sv xs) {k : Nat} (hk : sv.ownBlock = some k) : B ≤ k ∧ k < w.heap.size := World.ownsRow.lt h k hk
theorem Said.below {w w' : World} {B : Nat} {sv : Value} {xs : List Nat} (h : Said w B sv xs) (hb : Below w.heap.size w w') : Said w' B sv xs := h.same fun k hk => hb.block k (h.lt hk).2
theorem Said.alloc {w : World} {B : Nat} {sv : Value} {xs : List Nat} (h : Said w B sv xs) (o : Obj) : Said (w.alloc o) B sv xs := h.below ((Below.refl _ _).alloc (Nat.le_refl _) o)
theorem Said.drew {w : World} {B : Nat} {sv : Value} {xs : List Nat} (h : Said w B sv xs) : Said w.drew B sv xs := h

end Go.Proofs.YtbdbmmdnidonjaaDoor
