/- A run over bytes: frames with two rows that grow (what is said, what is trodden); the machine's block with bytes, list and trace behind it. No program in sight. -/
import Derived.Test.YtbdbmmdnidonjaaDoorUJi
import Derived.Test.YtbdbmmdnidonjaaDoorUCe
import Derived.Test.YtbdbmmdnidonjaaDoorUJt
import Derived.Test.YtbdbmmdnidonjaaDoorUIe
set_option linter.unusedVariables false
set_option linter.unusedSimpArgs false
set_option maxRecDepth 100000
namespace Go.Proofs.YtbdbmmdnidonjaaDoor
open Go.RowKit
structure Fr2 (fx : List Nat) (sv tv : Value) (w : World) (sv' tv' : Value) (w' : World) : Prop where
 os : w'.os = w.os
 tape : w'.tape = w.tape
 output : w'.output = w.output
 size : w.heap.size ≤ w'.heap.size
 block : ∀ k, k < w.heap.size → k ∉ fx → sv.ownBlock ≠ some k → tv.ownBlock ≠ some k → w'.heap[k]? = w.heap[k]?
 row1 : ∀ k, sv'.ownBlock = some k → sv.ownBlock = some k ∨ w.heap.size ≤ k
 row2 : ∀ k, tv'.ownBlock = some k → tv.ownBlock = some k ∨ w.heap.size ≤ k
section
variable {fx : List Nat} {sv sv' tv tv' : Value} {w w' : World}
theorem Fr2.refl (fx : List Nat) (sv tv : Value) (w : World) : Fr2 fx sv tv w sv tv w := ⟨rfl, rfl, rfl, Nat.le_refl _, fun _ _ _ _ _ => rfl, fun _ h => .inl h, fun _ h => .inl h⟩
theorem Fr2.ne1 (h : Fr2 fx sv tv w sv' tv' w') {k : Nat} (hk : k < w.heap.size) (hs : sv.ownBlock ≠ some k) : sv'.ownBlock ≠ some k := fun e => by
 rcases h.row1 k e with h | h
 ·exact hs h
 ·omega
theorem Fr2.ne2 (h : Fr2 fx sv tv w sv' tv' w') {k : Nat} (hk : k < w.heap.size) (hs : tv.ownBlock ≠ some k) : tv'.ownBlock ≠ some k := fun e => by
 rcases h.row2 k e with h | h
 ·exact hs h
 ·omega
theorem Fr2.trans {sc tc : Value} {c : World} (h : Fr2 fx sv tv w sv' tv' w') (k : Fr2 fx sv' tv' w' sc tc c) : Fr2 fx sv tv w sc tc c :=
 ⟨k.os.trans h.os, k.tape.trans h.tape, k.output.trans h.output, Nat.le_trans h.size k.size,
  fun q hq hf h1 h2 => (k.block q (Nat.lt_of_lt_of_le hq h.size) hf (h.ne1 hq h1) (h.ne2 hq h2)).trans (h.block q hq hf h1 h2),
  fun q hq => (k.row1 q hq).elim (fun e => h.row1 q e) (fun e => .inr (Nat.le_trans h.size e)),
  fun q hq => (k.row2 q hq).elim (fun e => h.row2 q e) (fun e => .inr (Nat.le_trans h.size e))⟩
theorem Fr2.transNew {nw : List Nat} {sc tc : Value} {c : World} (h : Fr2 fx sv tv w sv' tv' w') (k : Fr2 (fx ++ nw) sv' tv' w' sc tc c) (hn : ∀ x ∈ nw, w.heap.size ≤ x) : Fr2 fx sv tv w sc tc c :=
 ⟨k.os.trans h.os, k.tape.trans h.tape, k.output.trans h.output, Nat.le_trans h.size k.size,
  fun q hq hf h1 h2 => (k.block q (Nat.lt_of_lt_of_le hq h.size) (fun hm => (List.mem_append.1 hm).elim hf (fun h3 => by have := hn q h3; omega)) (h.ne1 hq h1) (h.ne2 hq h2)).trans (h.block q hq hf h1 h2),
  fun q hq => (k.row1 q hq).elim (fun e => h.row1 q e) (fun e => .inr (Nat.le_trans h.size e)),
  fun q hq => (k.row2 q hq).elim (fun e => h.row2 q e) (fun e => .inr (Nat.le_trans h.size e))⟩
theorem Fr2.mono {fy : List Nat} (h : Fr2 fx sv tv w sv' tv' w') (hs : ∀ x ∈ fx, x ∈ fy) : Fr2 fy sv tv w sv' tv' w' :=
 ⟨h.os, h.tape, h.output, h.size, fun q hq hf => h.block q hq (fun hm => hf (hs q hm)), h.row1, h.row2⟩
theorem Fr2.of1 (h : Fr fx sv w sv' w') (tv : Value) : Fr2 fx sv tv w sv' tv w' :=
 ⟨h.only.os, h.only.tape, h.only.output, h.size, fun _ hq hf h1 _ => h.block hq hf h1, fun q hq => by
  rcases h.row with e | e
  ·rw [e] at hq; exact .inl hq
  ·exact .inr (e q hq), fun _ h => .inl h⟩
theorem Fr2.of2 (h : Fr fx tv w tv' w') (sv : Value) : Fr2 fx sv tv w sv tv' w' :=
 ⟨h.only.os, h.only.tape, h.only.output, h.size, fun _ hq hf _ h2 => h.block hq hf h2, fun _ h => .inl h, fun q hq => by
  rcases h.row with e | e
  ·rw [e] at hq; exact .inl hq
  ·exact .inr (e q hq)⟩
theorem Fr2.below (h : Below w.heap.size w w') : Fr2 fx sv tv w sv tv w' := Fr2.of1 (Fr.below h) tv
theorem Fr2.setIn (h : Fr2 fx sv tv w sv' tv' w') {a : Addr} (ha : a.block ∈ fx) (u : Value) : Fr2 fx sv tv w sv' tv' (w'.setCell a u) :=
 h.trans (Fr2.of1 ((Fr.refl fx sv' w').setIn ha u) tv')
theorem Fr2.drewN (h : Fr2 fx sv tv w sv' tv' w') (n : Nat) : Fr2 fx sv tv w sv' tv' (w'.drewN n) := h.trans (Fr2.below (belowDr (Below.refl _ _) n))
end
/-- the blocks of a call keep off the trace -/
abbrev KTr (tv : Value) : Nat → Prop := fun k => tv.ownBlock ≠ some k
theorem CallAt.keep2 {w w' : World} {pm : Nat} {sv sv' tv tv' : Value} {pc pl par : Nat} {l : Lc} (h : CallAt (KTr tv) w pm sv pc pl par l) (hf : Fr2 [pm] sv tv w sv' tv' w') : CallAt (KTr tv') w' pm sv' pc pl par l := by
 obtain ⟨⟨inv, hb, hi⟩, hs, h1, h2, h3, h4, h5, k1, k2⟩ := h
 exact ⟨⟨inv, hb.same (hf.block _ hb.lt (by simpa using h1) h4 k1), hi.mono fun pi hlt hp => ⟨hf.block _ hlt (by simpa using hp.1) hp.2.2.2.1 hp.2.2.2.2, hp.1, hp.2.1, hp.2.2.1, hf.ne1 hlt hp.2.2.2.1, hf.ne2 hlt hp.2.2.2.2⟩⟩,
  hs.same (hf.block _ hs.lt (by simpa using h2) h5 k2), h1, h2, h3, hf.ne1 hb.lt h4, hf.ne1 hs.lt h5, hf.ne2 hb.lt k1, hf.ne2 hs.lt k2⟩
/-- the places that were trodden, in a row off the machine and off what is said -/
structure TrAt (B : Nat) (w : World) (pm : Nat) (sv tv : Value) (tr : List Nat) : Prop where
 row : Said w B tv tr
 ne : tv.ownBlock ≠ some pm
 st : ∀ k, sv.ownBlock = some k → tv.ownBlock ≠ some k
theorem TrAt.keep {B : Nat} {w w' : World} {pm : Nat} {sv sv' tv : Value} {tr : List Nat} {fx : List Nat} (h : TrAt B w pm sv tv tr) (hf : Fr fx sv w sv' w') (hx : ∀ x ∈ fx, tv.ownBlock ≠ some x) : TrAt B w' pm sv' tv tr :=
 ⟨h.row.same fun k hk => hf.block (h.row.lt hk).2 (fun hm => hx k hm hk) (fun e => h.st k e hk), h.ne, fun k hk e => by
  rcases hf.row with he | he
  ·rw [he] at hk; exact h.st k hk e
  ·have := he k hk; have := (h.row.lt e).2; omega⟩
theorem TrAt.below {B : Nat} {w w' : World} {pm : Nat} {sv tv : Value} {tr : List Nat} (h : TrAt B w pm sv tv tr) (hb : Below w.heap.size w w') : TrAt B w' pm sv tv tr := ⟨h.row.below hb, h.ne, h.st⟩
theorem TrAt.form {B : Nat} {w : World} {pm : Nat} {sv tv : Value} {tr : List Nat} (h : TrAt B w pm sv tv tr) : ∃ a c, tv = .slice a tr.length c := by
 rcases h.row.2 with ⟨rfl, h0⟩ | ⟨g, cap, cur, rfl, _⟩
 ·exact ⟨none, 0, by rw [h0]⟩
 ·exact ⟨_, _, rfl⟩
theorem TrAt.set {B : Nat} {w : World} {pm : Nat} {sv tv : Value} {tr : List Nat} (h : TrAt B w pm sv tv tr) {a : Addr} (ha : tv.ownBlock ≠ some a.block) (u : Value) : TrAt B (w.setCell a u) pm sv tv tr := ⟨h.row.set ha u, h.ne, h.st⟩
theorem mkMac_rest {T u : Nat} {sv : Value} {cells : List Nat} {rest : List Value} (hc : cells.length = 16) (j : Nat) : (mkMac T u sv cells rest)[19 + j]? = rest[j]? := by
 rw [show 19 + j = 16 + j + 1 + 1 + 1 by omega]
 unfold mkMac
 simp only [List.getElem?_cons_succ]
 rw [List.getElem?_append_right (by rw [nats_len]; omega), nats_len, hc]
 congr 1; omega
theorem mkMac_trace {T u : Nat} {sv bv lv tv tv' : Value} {cells : List Nat} (hc : cells.length = 16) : (mkMac T u sv cells [bv, lv, tv]).set 21 tv' = mkMac T u sv cells [bv, lv, tv'] := by
 unfold mkMac
 rw [show 21 = 18 + 1 + 1 + 1 by omega]
 simp only [List.set_cons_succ]
 rw [List.set_append_right _ _ (by rw [nats_len]; omega), nats_len, hc]
 rfl
theorem MacAt.rest {B : Nat} {w : World} {pm : Nat} {bv lv tv : Value} {T : Nat} {s : Cm} {sv : Value} (h : MacAt B w pm [bv, lv, tv] T s sv) (hc : s.cells.length = 16) :
  w.cell? ⟨pm, 19, none⟩ = some bv ∧ w.cell? ⟨pm, 20, none⟩ = some lv ∧ w.cell? ⟨pm, 21, none⟩ = some tv := by
 refine ⟨?_, ?_, ?_⟩
 ·rw [h.blk.cell, show 19 = 19 + 0 by omega, mkMac_rest hc]; rfl
 ·rw [h.blk.cell, show 20 = 19 + 1 by omega, mkMac_rest hc]; rfl
 ·rw [h.blk.cell, show 21 = 19 + 2 by omega, mkMac_rest hc]; rfl
theorem MacAt.trace {B : Nat} {w : World} {pm : Nat} {bv lv tv : Value} {T : Nat} {s : Cm} {sv : Value} (h : MacAt B w pm [bv, lv, tv] T s sv) (hc : s.cells.length = 16) (tv' : Value) : MacAt B (w.setCell ⟨pm, 21, none⟩ tv') pm [bv, lv, tv'] T s sv :=
 ⟨by rw [← mkMac_trace hc (tv := tv)]; exact h.blk.set 21 tv', h.said.set h.sep _, h.sep, h.left, h.ge⟩
theorem MacAt.keepT {B : Nat} {w w' : World} {pm : Nat} {rest : List Value} {T : Nat} {s : Cm} {sv tv tv' : Value} {tr : List Nat} (h : MacAt B w pm rest T s sv) (ht : TrAt B w pm sv tv tr) (hf : Fr [] tv w tv' w') : MacAt B w' pm rest T s sv :=
 ⟨hf.blk h.blk (by simp) ht.ne, h.said.same (fun k hk => hf.block (h.said.lt hk).2 (by simp) (ht.st k hk)), h.sep, h.left, h.ge⟩
/-- a block that stands as it stood in an elder world, off the machine and its rows -/
structure StB (W1 : World) (pm q : Nat) (w : World) (sv tv : Value) : Prop where
 lt : q < w.heap.size
 same : w.heap[q]? = W1.heap[q]?
 ne : q ≠ pm
 n1 : sv.ownBlock ≠ some q
 n2 : tv.ownBlock ≠ some q
theorem StB.keep {W1 : World} {pm q : Nat} {w w' : World} {sv tv sv' tv' : Value} (h : StB W1 pm q w sv tv) (hf : Fr2 [pm] sv tv w sv' tv' w') : StB W1 pm q w' sv' tv' :=
 ⟨Nat.lt_of_lt_of_le h.lt hf.size, (hf.block q h.lt (by simpa using h.ne) h.n1 h.n2).trans h.same, h.ne, hf.ne1 h.lt h.n1, hf.ne2 h.lt h.n2⟩
theorem StB.keep3 {W1 : World} {pm q pc pl : Nat} {w w' : World} {sv tv sv' tv' : Value} (h : StB W1 pm q w sv tv) (hf : Fr2 ([pm] ++ [pc, pl]) sv tv w sv' tv' w') (h1 : q ≠ pc) (h2 : q ≠ pl) : StB W1 pm q w' sv' tv' :=
 ⟨Nat.lt_of_lt_of_le h.lt hf.size, (hf.block q h.lt (by simp; exact ⟨h.ne, h1, h2⟩) h.n1 h.n2).trans h.same, h.ne, hf.ne1 h.lt h.n1, hf.ne2 h.lt h.n2⟩
theorem csC_same {w w' : World} {bb bo n cap : Nat} {b : List Nat} (h : CsC w (.slice (some ⟨bb, bo, none⟩) n cap) b) (he : w'.heap[bb]? = w.heap[bb]?) : CsC w' (.slice (some ⟨bb, bo, none⟩) n cap) b := by
 obtain ⟨⟨a, c, hv, hs, hc⟩, h2⟩ := h
 refine ⟨⟨a, c, hv, hs, fun i hi => ?_⟩, h2⟩
 obtain ⟨g, off, ha, h1⟩ := hc i hi
 injection hv with e1 e2 e3
 rw [← e1] at ha
 injection ha with ha
 injection ha with e4 e5
 subst e4 e5
 exact ⟨bb, bo, e1.symm, by rw [World.cell?_of_block (w := w) he]; exact h1⟩
theorem slice_at {w : World} {bb bo L cap : Nat} {cs : List Nat} (h : CsC w (.slice (some ⟨bb, bo, none⟩) L cap) cs) {lo n : Nat} (hn : lo + n ≤ L) :
  ∃ a' cap', (∀ w' : World, w'.heap[bb]? = w.heap[bb]? → CsC w' (.slice a' n cap') (cutN cs lo n)) ∧ (∀ (w' : World) (l h : Int), l = lo → h = ((lo + n : Nat) : Int) → (Instr.slice 22 (.slice (some ⟨bb, bo, none⟩) L cap) (some (.int .i64 l)) (some (.int .i64 h)) none).run Tryd.prog w' = .ok (.slice a' n cap') w') := by
 obtain ⟨a', cap', _, hr, _⟩ := slice_cs h hn
 refine ⟨a', cap', fun w' he => ?_, hr⟩
 obtain ⟨a2, cap2, h2, hr2, _⟩ := slice_cs (csC_same h he) hn
 have := hr w' _ _ rfl rfl
 rw [hr2 w' _ _ rfl rfl] at this
 injection this with e
 injection e with e1 e2 e3
 subst e1 e3
 exact h2
/-- the cells of a section, wherever its block stands -/
theorem secs_at {W1 w : World} {lb lc : Nat} {l : List Sec} (h : W1.ownsRow 0 87 4 (.slice (some ⟨lb, 0, none⟩) l.length lc) l.length (secCells l)) (he : w.heap[lb]? = W1.heap[lb]?) {k : Nat} {s : Sec} (hk : l[k]? = some s) :
  w.cell? ⟨lb, k * 4, none⟩ = some (.int .i64 (s.par : Int)) ∧ w.cell? ⟨lb, k * 4 + 1, none⟩ = some (.int .i64 (s.slo : Int)) ∧ w.cell? ⟨lb, k * 4 + 2, none⟩ = some (.int .i64 (s.beg : Int)) ∧ w.cell? ⟨lb, k * 4 + 3, none⟩ = some (.int .i64 (s.siz : Int)) := by
 have hl := idx_lt hk
 obtain ⟨h0, h1, h2, h3⟩ := secCells_at hk
 refine ⟨?_, ?_, ?_, ?_⟩
 ·rw [World.cell?_of_block (w := W1) (a := ⟨lb, k * 4, none⟩) he, h.cellAt _ (by omega)]; exact h0
 ·rw [World.cell?_of_block (w := W1) (a := ⟨lb, k * 4 + 1, none⟩) he, h.cellAt _ (by omega)]; exact h1
 ·rw [World.cell?_of_block (w := W1) (a := ⟨lb, k * 4 + 2, none⟩) he, h.cellAt _ (by omega)]; exact h2
 ·rw [World.cell?_of_block (w := W1) (a := ⟨lb, k * 4 + 3, none⟩) he, h.cellAt _ (by omega)]; exact h3
end Go.Proofs.YtbdbmmdnidonjaaDoor
