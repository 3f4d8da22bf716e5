/- A call within a call of the machine, in spec: plain at op 14. And copy into a row. -/
import Derived.Test.YtbdbmmdnidonjaaDoorSc
import Derived.Test.YtbdbmmdnidonjaaDoorOd
set_option maxRecDepth 100000
namespace Go.Proofs.YtbdbmmdnidonjaaDoor
open Go.RowKit

def Rs.eno : Rs → Option Nat
  | .ret _ _ => none
  | .stop e _ => some e

set_option maxHeartbeats 2000000 in
theorem sp_14 (w : World) (B pr cb : Nat) (mv : Value) (p : Ps) (par : Nat) (a b c n : Nat) (l : Lc) (s : Cm) (sv : Value) (r : Rs) (hR : RunAt B w pr cb mv none s sv) (hC : SCall w pr cb sv p par l)
    (hcall : ∀ w', Below w.heap.size w w' → Calls Tryd.prog 81 #[.pointer (some ⟨pr, 0, none⟩), .int .i64 (n : Int), .slice (some ⟨p.p3, 0, none⟩) 3 3] w' (SRunPost B pr cb mv sv r w')) :
    Calls Tryd.prog 110 #[.pointer (some ⟨pr, 0, none⟩), .agg #[.int .i64 14, .int .i64 (a : Int), .int .i64 (b : Int), .int .i64 (c : Int), .int .i64 (n : Int)], .pointer (some ⟨p.p0, 0, none⟩)] w
      (fun e w' => e = .returned (.tuple #[]) ∧ ∃ w5 sv', w' = w5.setCell ⟨p.p0, 4, none⟩ (.int .i64 (r.val : Int)) ∧ RunAt B w5 pr cb mv r.eno r.cm sv' ∧ Fr [pr, cb] sv w sv' w5) := by
  have HC := Lib.hid hC
  have HR := Lib.hid hR
  have HCA := Lib.hid hcall
  clear hC hR hcall
  go_enter Tryd.func110, Tryd.ntmps110
  go_wp2_with (fail)
  generalize hw1 : w.alloc _ = w1
  obtain ⟨hb1, x1, x2, x3, x4⟩ := boxed hw1
  have hC1 := HC.out.below hb1
  obtain ⟨s0, s1, s2, s3, s4⟩ := scCells hC1
  have hlw : w.heap.size < w1.heap.size := World.block_lt_of_cell? _ _ x4
  have HB1 := Lib.hid hb1
  have HC1 := Lib.hid hC1
  clear hb1 hw1 x1 x2 x3 s0 s1 s3 s4 hC1
  refine wp_region_held (fun W => W.cell? ⟨w.heap.size, 4, none⟩ = some (.int .i64 (n : Int)) ∧ W.cell? ⟨p.p0, 2, none⟩ = some (.slice (some ⟨p.p3, 0, none⟩) 3 3)) [(0, false), (1, false), (2, false), (3, true), (4, false), (5, false), (6, false), (7, true)] [8, 9, 10, 11] 11 (by kernel_rfl) (by kernel_rfl) (fun d v c a w h => by cases d <;> exact h) ⟨x4, s2⟩ ?_
  simp only [pickO, List.map_cons, List.map_nil, List.getD_cons_zero, List.getD_cons_succ]
  refine heldO_stepY (v := ?_) rfl ?_ ?_
  rotate_left
  · intro W
    go_simp
    try rfl
  simp only [Act.put, List.setIfInBounds_toArray, List.set_cons_zero, List.set_cons_succ]
  refine heldO_stepY (v := ?_) rfl ?_ ?_
  rotate_left
  · intro W
    go_simp
    try rfl
  simp only [Act.put, List.setIfInBounds_toArray, List.set_cons_zero, List.set_cons_succ]
  refine heldO_stepY (v := ?_) rfl ?_ ?_
  rotate_left
  · intro W
    go_simp
    try rfl
  simp only [Act.put, List.setIfInBounds_toArray, List.set_cons_zero, List.set_cons_succ]
  refine heldO_step (v := ?_) rfl ?_ ?_
  rotate_left
  · intro W hS
    obtain ⟨k1, k2⟩ := hS
    go_simp
    try rfl
  simp only [Act.put, List.setIfInBounds_toArray, List.set_cons_zero, List.set_cons_succ]
  refine heldO_stepY (v := ?_) rfl ?_ ?_
  rotate_left
  · intro W
    go_simp
    try rfl
  simp only [Act.put, List.setIfInBounds_toArray, List.set_cons_zero, List.set_cons_succ]
  refine heldO_stepY (v := ?_) rfl ?_ ?_
  rotate_left
  · intro W
    go_simp
    try rfl
  simp only [Act.put, List.setIfInBounds_toArray, List.set_cons_zero, List.set_cons_succ]
  refine heldO_stepY (v := ?_) rfl ?_ ?_
  rotate_left
  · intro W
    go_simp
    try rfl
  simp only [Act.put, List.setIfInBounds_toArray, List.set_cons_zero, List.set_cons_succ]
  refine heldO_step (v := ?_) rfl ?_ ?_
  rotate_left
  · intro W hS
    obtain ⟨k1, k2⟩ := hS
    go_simp
    try rfl
  simp only [Act.put, List.setIfInBounds_toArray, List.set_cons_zero, List.set_cons_succ]
  refine heldO_nil ?_
  refine tailO_step rfl (fun K hK => ?_)
  go_simp
  refine (HCA.out _ HB1.out.drew).mono ?_
  rintro e w5 hpost
  have hkey : ∃ sv', e = .returned (.int .i64 (r.val : Int)) ∧ RunAt B w5 pr cb mv r.eno r.cm sv' ∧ Fr [pr, cb] sv w1.drew sv' w5 := by
    cases r with
    | ret v s2 => exact hpost
    | stop en s2 => exact hpost
  obtain ⟨sv', rfl, hR5, hF5⟩ := hkey
  have hp0 := HC.out.far p.p0 (.inl rfl)
  have hpr := HR.out.blk.lt
  have hcb := HR.out.cells.lt
  have y4 : w5.cell? ⟨w.heap.size, 4, none⟩ = some (.int .i64 (n : Int)) := (World.cell?_of_block (a := ⟨w.heap.size, 4, none⟩) (hF5.block (k := w.heap.size) hlw (by simp; omega) (fun e => by have := (HR.out.said.lt e).2; omega))).trans x4
  have hC5 : SCall w5 pr cb sv' p par l := (HC1.out.below (Below.refl _ _).drew).keep hF5
  have y2 := (scCells hC5).2.2.1
  have z4 := (scCells hC5).2.2.2.2
  have zf := hC5.blk.frozen 4
  have HR5 := Lib.hid hR5
  have HF5 := Lib.hid ((Fr.below HB1.out.drew : Fr [pr, cb] sv w sv w1.drew).trans hF5)
  refine hK _ _ (.inr ⟨y4, y2⟩) ?_
  clear hK K hR5 hF5 hC5 hpost x4 s2
  refine tailO_step rfl (fun K hK => ?_)
  go_simp
  refine hK _ _ (.inr ⟨y4, y2⟩) ?_
  clear hK K
  refine tailO_step rfl (fun K hK => ?_)
  go_simp
  refine hK _ _ (.inr ⟨y4, y2⟩) ?_
  clear hK K
  refine tailO_step rfl (fun K hK => ?_)
  go_simp
  refine hK _ _ (.inl rfl) (tailO_nil ?_)
  clear hK K
  go_wp2_with (fail)
  go_end0
  exact ⟨rfl, w5, sv', rfl, HR5.out, HF5.out⟩

theorem snew_of {wf X : World} {slo q0 q1 q2 q3 q4 : Nat} {t : TypeId} (h0 : q0 = X.heap.size) (hb : Below wf.heap.size wf X) (h1 : Blk X q1 (nats (List.replicate 8 0))) (h2 : Blk X q2 (nats (List.replicate slo 0))) (h3 : Blk X q3 (nats (List.replicate 3 0))) (h4 : Blk X q4 (nats (List.replicate 3 0)))
    (g1 : wf.heap.size ≤ q1) (g2 : wf.heap.size ≤ q2) (g3 : wf.heap.size ≤ q3) (g4 : wf.heap.size ≤ q4) (d : q1 ≠ q2 ∧ q1 ≠ q3 ∧ q1 ≠ q4 ∧ q2 ≠ q3 ∧ q2 ≠ q4 ∧ q3 ≠ q4) :
    ∃ p, Value.pointer (some ⟨q0, 0, none⟩) = Value.pointer (some ⟨Ps.p0 p, 0, none⟩) ∧ SNew wf slo p (X.alloc (.cells #[.slice (some ⟨q1, 0, none⟩) 8 8, .slice (some ⟨q2, 0, none⟩) slo slo, .slice (some ⟨q3, 0, none⟩) 3 3, .slice (some ⟨q4, 0, none⟩) 3 3, .int .i64 0] t)).drew := by
  have l1 := h1.lt
  have l2 := h2.lt
  have l3 := h3.lt
  have l4 := h4.lt
  have hsz := hb.size
  refine ⟨⟨q0, q1, q2, q3, q4⟩, rfl, (hb.alloc hsz _).drew, ?_, ⟨by simp only []; omega, by simp only []; omega, by simp only []; omega, by simp only []; omega, d.1, d.2.1, d.2.2.1, d.2.2.2.1, d.2.2.2.2.1, d.2.2.2.2.2⟩, Blk.newAt h0 rfl, h1.alloc _, h2.alloc _, h3.alloc _, h4.alloc _⟩
  intro q hq
  rcases hq with h | h | h | h | h <;> (simp only [] at h; omega)

theorem wpList_copy_row {P : Program} {w : World} {ops : Array Oper} {rest : List Oper} {o : Oper} {a : Act} {Q : Exit → Act → World → Prop} (hgd : o.guard = none) (d s : Operand) (dT sT : TypeId)
    (ho : o.op = .call { callee := .builtin .copy, args := #[d, s], argTypes := #[dT, sT] }) (elem : TypeId) (hu : P.underlying dT = some (.slice elem)) (hsz : (P.info? elem).map (·.size) = some 1)
    (g dLen dCap : Nat) (ad : Addr) (sLen sCap : Nat) (hd : a.eval d = .slice (some ⟨g, 0, none⟩) dLen dCap) (hs : a.eval s = .slice (some ad) sLen sCap)
    (xs : List Value) (hb : Blk w g xs) (cs : List Value) (hn : cs.length = Nat.min sLen dLen) (hsrc : ∀ j v, cs[j]? = some v → w.cell? (ad.add j) = some v) (hfit : cs.length ≤ xs.length) (h1 : ∀ v ∈ cs, v.oneCell' = true)
    (h : ∀ w', Blk w' g (cs ++ xs.drop cs.length) → Only [g] w w' → wpList P ops Q rest (a.put o.dst (goInt cs.length)) w') : wpList P ops Q (o :: rest) a w := by
  by_cases h0 : cs.length = 0
  · obtain rfl : cs = [] := List.eq_nil_of_length_eq_zero h0
    refine wpList_copy_nothing hgd d s dT sT ho elem hu hsz _ _ dLen dCap sLen sCap hd hs (by simpa using hn.symm) ?_
    exact h w (by simpa using hb) (Only.refl _ _)
  · obtain ⟨cur, t, hg, rfl⟩ := hb
    refine wpList_copy_own hgd d s dT sT ho elem hu hsz g 0 dLen dCap ad sLen sCap hd hs cur t hg cs hn hsrc (by simpa using hfit) h1 ?_
    refine h _ ?_ ⟨rfl, rfl, rfl, by simp [World.setRow], fun k _ hk => setRow_other w g k _ (by simpa using hk)⟩
    have hB : Blk w g cur.toList := ⟨cur, t, hg, rfl⟩
    have := hB.setRow (cur.toList.take 0 ++ (cs ++ cur.toList.drop (0 + cs.length))).toArray
    simpa using this

end Go.Proofs.YtbdbmmdnidonjaaDoor
