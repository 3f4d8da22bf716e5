/- A run of an image in spec: its blocks and what it may turn. No program in sight. -/
import Derived.Test.YtbdbmmdnidonjaaDoorUBf
import Derived.Test.YtbdbmmdnidonjaaDoorUJj
import Derived.Test.YtbdbmmdnidonjaaDoorUTs
import Derived.Test.YtbdbmmdnidonjaaDoorUJf
set_option linter.unusedVariables false
set_option linter.unusedSimpArgs false
set_option maxRecDepth 100000
namespace Go.Proofs.YtbdbmmdnidonjaaDoor
open Go.RowKit
/-- elder blocks that stand as they stood, off what may turn -/
structure StS (W1 : World) (fx : List Nat) (S : Nat → Prop) (w : World) (sv tv : Value) : Prop where
 lt : ∀ q, S q → q < w.heap.size
 same : ∀ q, S q → w.heap[q]? = W1.heap[q]?
 ne : ∀ q, S q → q ∉ fx
 n1 : ∀ q, S q → sv.ownBlock ≠ some q
 n2 : ∀ q, S q → tv.ownBlock ≠ some q
theorem StS.keep {W1 : World} {fx nw : List Nat} {S : Nat → Prop} {w w' : World} {sv tv sv' tv' : Value} (h : StS W1 fx S w sv tv) (hf : Fr2 (fx ++ nw) sv tv w sv' tv' w') (hn : ∀ q, S q → q ∉ nw) : StS W1 fx S w' sv' tv' :=
 ⟨fun q hq => Nat.lt_of_lt_of_le (h.lt q hq) hf.size, fun q hq => (hf.block q (h.lt q hq) (fun hm => (List.mem_append.1 hm).elim (h.ne q hq) (hn q hq)) (h.n1 q hq) (h.n2 q hq)).trans (h.same q hq), h.ne,
  fun q hq => hf.ne1 (h.lt q hq) (h.n1 q hq), fun q hq => hf.ne2 (h.lt q hq) (h.n2 q hq)⟩
theorem StS.keep0 {W1 : World} {fx : List Nat} {S : Nat → Prop} {w w' : World} {sv tv sv' tv' : Value} (h : StS W1 fx S w sv tv) (hf : Fr2 fx sv tv w sv' tv' w') : StS W1 fx S w' sv' tv' :=
 h.keep (nw := []) (hf.mono (fun x hx => by simpa using hx)) (fun _ _ => by simp)
/-- the run's blocks: its own, the machine's, the cells, what is said, what is trodden -/
structure ImAt (B : Nat) (w : World) (pq pr cb : Nat) (bv xv : Value) (en : Option Nat) (s : Cm) (sv tv : Value) (tr : List Nat) : Prop where
 run : RunAt B w pr cb (.slice none 0 0) en s sv
 blk : Blk w pq [bv, xv, .pointer (some ⟨pr, 0, none⟩), tv]
 tr : Said w B tv tr
 q1 : pq ≠ pr
 q2 : pq ≠ cb
 q3 : sv.ownBlock ≠ some pq
 q4 : tv.ownBlock ≠ some pq
 q5 : tv.ownBlock ≠ some pr
 q6 : tv.ownBlock ≠ some cb
 q7 : ∀ k, sv.ownBlock = some k → tv.ownBlock ≠ some k
 gq : B ≤ pq
section
variable {B : Nat} {w w' : World} {pq pr cb : Nat} {bv xv : Value} {en : Option Nat} {s : Cm} {sv tv : Value} {tr : List Nat}
theorem ImAt.below (h : ImAt B w pq pr cb bv xv en s sv tv tr) (hb : Below w.heap.size w w') : ImAt B w' pq pr cb bv xv en s sv tv tr :=
 ⟨h.run.below hb, h.blk.below hb, h.tr.below hb, h.q1, h.q2, h.q3, h.q4, h.q5, h.q6, h.q7, h.gq⟩
theorem ImAt.other (h : ImAt B w pq pr cb bv xv en s sv tv tr) {a : Addr} (h0 : a.block ≠ pq) (h1 : a.block ≠ pr) (h2 : a.block ≠ cb) (h3 : sv.ownBlock ≠ some a.block) (h4 : tv.ownBlock ≠ some a.block) (u : Value) : ImAt B (w.setCell a u) pq pr cb bv xv en s sv tv tr :=
 ⟨h.run.other h1 h2 h3 u, h.blk.other (fun e => h0 e.symm) u, h.tr.set h4 u, h.q1, h.q2, h.q3, h.q4, h.q5, h.q6, h.q7, h.gq⟩
theorem ImAt.tick (h : ImAt B w pq pr cb bv xv en s sv tv tr) (p : Nat) : ImAt B (w.setCell ⟨pr, 5, none⟩ (.int .i64 ((s.left - 1 : Nat) : Int))) pq pr cb bv xv en (s.step p) sv tv tr :=
 ⟨h.run.tick p, h.blk.other h.q1 _, h.tr.set h.q5 _, h.q1, h.q2, h.q3, h.q4, h.q5, h.q6, h.q7, h.gq⟩
theorem ImAt.stop (h : ImAt B w pq pr cb bv xv none s sv tv tr) (e : Nat) : ImAt B ((w.setCell ⟨pr, 2, none⟩ (.int .i64 (e : Int))).setCell ⟨pr, 6, none⟩ (.bool true)) pq pr cb bv xv (some e) s sv tv tr :=
 ⟨h.run.stop e, (h.blk.other h.q1 _).other h.q1 _, (h.tr.set h.q5 _).set h.q5 _, h.q1, h.q2, h.q3, h.q4, h.q5, h.q6, h.q7, h.gq⟩
/-- the machine's run has gone on -/
theorem ImAt.keep {nw : List Nat} {en' : Option Nat} {s' : Cm} {sv' : Value} (h : ImAt B w pq pr cb bv xv en s sv tv tr) (hr : RunAt B w' pr cb (.slice none 0 0) en' s' sv') (hf : Fr ([pr, cb] ++ nw) sv w sv' w') (hn : ∀ q ∈ nw, q ≠ pq ∧ tv.ownBlock ≠ some q) : ImAt B w' pq pr cb bv xv en' s' sv' tv tr := by
 have hq : pq ∉ [pr, cb] ++ nw := by
  intro hm
  rcases List.mem_append.1 hm with hm | hm
  ·have a1 := h.q1; have a2 := h.q2; simp at hm; omega
  ·exact (hn pq hm).1 rfl
 have ht : ∀ k, tv.ownBlock = some k → k ∉ [pr, cb] ++ nw := by
  intro k hk hm
  rcases List.mem_append.1 hm with hm | hm
  ·simp at hm
   rcases hm with rfl | rfl
   ·exact h.q5 hk
   ·exact h.q6 hk
  ·exact (hn k hm).2 hk
 have hs : ∀ k, tv.ownBlock = some k → sv.ownBlock ≠ some k := fun k hk e => h.q7 k e hk
 refine ⟨hr, hf.blk h.blk hq h.q3, h.tr.same (fun k hk => hf.block (h.tr.lt hk).2 (ht k hk) (hs k hk)), h.q1, h.q2, hf.ne h.blk.lt h.q3, h.q4, h.q5, h.q6, ?_, h.gq⟩
 intro k hk e
 exact (hf.ne (h.tr.lt e).2 (hs k e)) hk
end
theorem imCells {B : Nat} {w : World} {pq pr cb : Nat} {bv xv : Value} {en : Option Nat} {s : Cm} {sv tv : Value} {tr : List Nat} (h : ImAt B w pq pr cb bv xv en s sv tv tr) :
  w.cell? ⟨pq, 0, none⟩ = some bv ∧ w.cell? ⟨pq, 1, none⟩ = some xv ∧ w.cell? ⟨pq, 2, none⟩ = some (.pointer (some ⟨pr, 0, none⟩)) ∧ w.cell? ⟨pq, 3, none⟩ = some tv ∧ (∀ j, w.frozen? ⟨pq, j, none⟩ = false) := by
 refine ⟨?_, ?_, ?_, ?_, h.blk.frozen⟩
 all_goals rw [h.blk.cell]; rfl
theorem ImAt.form {B : Nat} {w : World} {pq pr cb : Nat} {bv xv : Value} {en : Option Nat} {s : Cm} {sv tv : Value} {tr : List Nat} (h : ImAt B w pq pr cb bv xv en s sv tv tr) : ∃ a c, tv = .slice a tr.length c := by
 rcases h.tr.2 with ⟨rfl, h0⟩ | ⟨g, cap, cur, rfl, _⟩
 ·exact ⟨none, 0, by rw [h0]⟩
 ·exact ⟨_, _, rfl⟩
/-- a call's blocks, off the run's -/
structure CaS (w : World) (pq pr cb : Nat) (sv tv : Value) (p : Ps) (par : Nat) (l : Lc) : Prop where
 sc : SCall w pr cb sv p par l
 far : ∀ q, p.has q → q ≠ pq ∧ tv.ownBlock ≠ some q
section
variable {w w' : World} {pq pr cb : Nat} {sv tv sv' tv' : Value} {p : Ps} {par : Nat} {l : Lc}
theorem CaS.keep (h : CaS w pq pr cb sv tv p par l) (hf : Fr2 [pq, pr, cb] sv tv w sv' tv' w') : CaS w' pq pr cb sv' tv' p par l := by
 refine ⟨h.sc.same (fun q hq => hf.block q (h.sc.lt hq) ?_ (h.sc.far q hq).2.2 (h.far q hq).2) (fun q hq => hf.ne1 (h.sc.lt hq) (h.sc.far q hq).2.2), fun q hq => ⟨(h.far q hq).1, hf.ne2 (h.sc.lt hq) (h.far q hq).2⟩⟩
 have a1 := (h.far q hq).1; have a2 := h.sc.far q hq
 simp; exact ⟨a1, a2.1, a2.2.1⟩
theorem CaS.below (h : CaS w pq pr cb sv tv p par l) (hb : Below w.heap.size w w') : CaS w' pq pr cb sv tv p par l := h.keep (Fr2.below hb)
theorem CaS.setRes (h : CaS w pq pr cb sv tv p par l) (v : Nat) : CaS (w.setCell ⟨p.p0, 4, none⟩ (.int .i64 (v : Int))) pq pr cb sv tv p par { l with res := v } := ⟨h.sc.setRes v, h.far⟩
end
/-- what an image's run answers -/
def ImPost (B pq pr cb : Nat) (bv xv : Value) (sv tv : Value) (r : Rs) (w : World) (e : Ending) (w' : World) : Prop :=
 ∃ sv' tv', e = .returned (.int .i64 (r.val : Int)) ∧ ImAt B w' pq pr cb bv xv r.eno r.cm sv' tv' r.cm.trace ∧ Fr2 [pq, pr, cb] sv tv w sv' tv' w'
def ImRel (P : Pg) (R : Rs) (B pq pr cb : Nat) (bv xv : Value) (T k : Nat) (p : Ps) (par slo : Nat) (sv0 tv0 : Value) (w2 : World) (g : Nat) (atv : Value) (wr : World) : Prop :=
 (∃ g' a l s sv tv, g' ≤ g ∧ atv = .int .i64 ((a : Nat) : Int) ∧ P.good k a ∧ loop P g' k a l s = R ∧ s.left < g' ∧ ImAt B wr pq pr cb bv xv none s sv tv s.trace ∧ CaS wr pq pr cb sv tv p par l ∧ LcOk par slo l ∧ CmOk s ∧ Fr2 ([pq, pr, cb] ++ [p.p0, p.p1, p.p2, p.p3]) sv0 tv0 w2 sv tv wr ∧ s.said.length + s.left ≤ T ∧ s.trace.length ≤ 500) ∨
 (∃ a en s sv tv, atv = .int .i64 ((a : Nat) : Int) ∧ R = .stop en s ∧ ImAt B wr pq pr cb bv xv (some en) s sv tv s.trace ∧ Fr2 ([pq, pr, cb] ++ [p.p0, p.p1, p.p2, p.p3]) sv0 tv0 w2 sv tv wr)
theorem ps4_has {p : Ps} {x : Nat} (h : x ∈ [p.p0, p.p1, p.p2, p.p3]) : p.has x := by
 simp at h
 rcases h with h | h | h | h
 ·exact .inl h
 ·exact .inr (.inl h)
 ·exact .inr (.inr (.inl h))
 ·exact .inr (.inr (.inr (.inl h)))
theorem imPost_of {B pq pr cb : Nat} {bv xv : Value} {sv tv sv' tv' : Value} {w w2 wr : World} {p : Ps} {s : Cm} (hb : Below w.heap.size w w2) (hF : Fr2 ([pq, pr, cb] ++ [p.p0, p.p1, p.p2, p.p3]) sv tv w2 sv' tv' wr) (hp : ∀ q, p.has q → w.heap.size ≤ q) :
  (∀ v, ImAt B wr pq pr cb bv xv none s sv' tv' s.trace → ImPost B pq pr cb bv xv sv tv (.ret v s) w (.returned (.int .i64 (v : Int))) wr) ∧ (∀ en, ImAt B wr pq pr cb bv xv (some en) s sv' tv' s.trace → ImPost B pq pr cb bv xv sv tv (.stop en s) w (.returned (.int .i64 0)) wr) := by
 have hfr : Fr2 [pq, pr, cb] sv tv w sv' tv' wr := (Fr2.below hb).transNew hF (fun x hx => hp x (ps4_has hx))
 exact ⟨fun v h => ⟨sv', tv', rfl, h, hfr⟩, fun en h => ⟨sv', tv', rfl, h, hfr⟩⟩
/-- between a step and the trace's row: what holds when the place is written down -/
def MidI (B pq pr cb : Nat) (bv xv : Value) (p : Ps) (par : Nat) (l : Lc) (s : Cm) (sv sv0 tv0 : Value) (w2 wx : World) : Prop :=
 ∃ tv, ImAt B wx pq pr cb bv xv none s sv tv s.trace ∧ CaS wx pq pr cb sv tv p par l ∧ Fr2 ([pq, pr, cb] ++ [p.p0, p.p1, p.p2, p.p3]) sv0 tv0 w2 sv tv wx
theorem midI_app {B pq pr cb : Nat} {bv xv : Value} {p : Ps} {par : Nat} {lo : Lc} {s2 : Cm} {sv1 tv1 sv tv : Value} {w2 w3 wl w7 : World} {tr : List Nat} {q g7 c7 n : Nat} (hI : ImAt B w3 pq pr cb bv xv none s2 sv1 tv1 tr) (hC : CaS w3 pq pr cb sv1 tv1 p par lo) (hF : Fr2 ([pq, pr, cb] ++ [p.p0, p.p1, p.p2, p.p3]) sv tv w2 sv1 tv1 w3)
  (hst : s2.trace = tr ++ [q]) (hb : Below w3.heap.size w3 wl) (hn : n = tr.length) (ho : w7.ownsRow B 3 1 (.slice (some ⟨g7, 0, none⟩) (n + 1) c7) (n + 1) (nats tr ++ [.int .i64 (q : Int)])) (hg : wl.grownBy w7 tv1.ownBlock) (hat : tv1.ownBlock = some g7 ∨ g7 = wl.heap.size) :
  MidI B pq pr cb bv xv p par lo s2 sv1 sv tv w2 (w7.setCell ⟨pq, 3, none⟩ (.slice (some ⟨g7, 0, none⟩) (n + 1) c7)) ∧ (∃ y, w7.cell? ⟨pq, 3, none⟩ = some y) ∧ w7.frozen? ⟨pq, 3, none⟩ = false := by
 have hf : Fr [] tv1 w3 (.slice (some ⟨g7, 0, none⟩) (n + 1) c7) w7 := (Fr.below hb).trans (Fr.app hg (by
  rcases hat with h | h
  ·exact .inl h.symm
  ·exact .inr (by rw [h]; rfl)))
 have hsd : Said w7 B (.slice (some ⟨g7, 0, none⟩) (n + 1) c7) s2.trace := by
  unfold Said
  rw [hst, List.length_append, ← hn]
  have e : nats (tr ++ [q]) = nats tr ++ [.int .i64 (q : Int)] := by simp [nats]
  rw [e]; exact ho
 have hR := hI.run
 have hst' : ∀ k, sv1.ownBlock = some k → tv1.ownBlock ≠ some k := hI.q7
 have hne : ∀ k, k < w3.heap.size → tv1.ownBlock ≠ some k → (Value.slice (some ⟨g7, 0, none⟩) (n + 1) c7).ownBlock ≠ some k := fun k hk h => hf.ne hk h
 have hR7 : RunAt B w7 pr cb (.slice none 0 0) none s2 sv1 := ⟨hf.blk hR.blk (by simp) hI.q5, hf.blk hR.cells (by simp) hI.q6, hR.said.same (fun k hk => hf.block (hR.said.lt hk).2 (by simp) (hst' k hk)), hR.ne, hR.sp, hR.sc, hR.gp, hR.gc⟩
 have hB7 := hf.blk hI.blk (by simp) hI.q4
 have n4 := hne pq hI.blk.lt hI.q4
 have n5 := hne pr hR.blk.lt hI.q5
 have n6 := hne cb hR.cells.lt hI.q6
 have hf2 : Fr2 [pq, pr, cb] sv1 tv1 w3 sv1 (.slice (some ⟨g7, 0, none⟩) (n + 1) c7) w7 := (Fr2.of2 hf sv1).mono (by simp)
 have hf3 : Fr2 [pq, pr, cb] sv1 tv1 w3 sv1 (.slice (some ⟨g7, 0, none⟩) (n + 1) c7) (w7.setCell ⟨pq, 3, none⟩ (.slice (some ⟨g7, 0, none⟩) (n + 1) c7)) := hf2.setIn (by simp) _
 refine ⟨⟨_, ⟨hR7.other hI.q1 hI.q2 hI.q3 _, hB7.set 3 _, hsd.set n4 _, hI.q1, hI.q2, hI.q3, n4, n5, n6, fun k hk => hne k (hR.said.lt hk).2 (hst' k hk), hI.gq⟩, hC.keep hf3, hF.trans (hf3.mono (fun x hx => List.mem_append_left _ hx))⟩, ⟨_, by rw [hB7.cell]; rfl⟩, hB7.frozen 3⟩
/-- the cells of a table, wherever its blocks stand -/
theorem tabRow_at {W1 W : World} {B tb tc k g n : Nat} {l : List Sec} {gs : List Nat} {s : Sec} (h : TabG B W1 (.slice (some ⟨tb, 0, none⟩) n tc) ((secRows l).map ints) gs) (hn : n = l.length) (hk : l[k]? = some s) (hg : gs[k]? = some g) (h1 : W.heap[tb]? = W1.heap[tb]?) (h2 : W.heap[g]? = W1.heap[g]?) :
  W.cell? ⟨tb, k, none⟩ = some (r4 g) ∧ W.cell? ⟨g, 0, none⟩ = some (.int .i64 (s.par : Int)) ∧ W.cell? ⟨g, 1, none⟩ = some (.int .i64 (s.slo : Int)) ∧ W.cell? ⟨g, 2, none⟩ = some (.int .i64 (s.beg : Int)) ∧ W.cell? ⟨g, 3, none⟩ = some (.int .i64 (s.siz : Int)) := by
 obtain ⟨a1, a2, _, _, a5⟩ := h
 subst hn
 have hkl := idx_lt hk
 have hr : ((secRows l).map ints)[k]? = some (ints (secRow s)) := by simp [secRows, hk]
 have ho := a5 k g _ hg hr
 unfold r4 at ho
 rw [List.length_map, secRows_len] at a2
 have c0 := a2.cellAt k (by omega)
 refine ⟨?_, ?_, ?_, ?_, ?_⟩
 ·rw [World.cell?_of_block (w := W1) (a := ⟨tb, k, none⟩) h1, c0]; simp [hg]
 ·rw [World.cell?_of_block (w := W1) (a := ⟨g, 0, none⟩) h2, ho.cellAt 0 (by omega)]; rfl
 ·rw [World.cell?_of_block (w := W1) (a := ⟨g, 1, none⟩) h2, ho.cellAt 1 (by omega)]; rfl
 ·rw [World.cell?_of_block (w := W1) (a := ⟨g, 2, none⟩) h2, ho.cellAt 2 (by omega)]; rfl
 ·rw [World.cell?_of_block (w := W1) (a := ⟨g, 3, none⟩) h2, ho.cellAt 3 (by omega)]; rfl
end Go.Proofs.YtbdbmmdnidonjaaDoor
