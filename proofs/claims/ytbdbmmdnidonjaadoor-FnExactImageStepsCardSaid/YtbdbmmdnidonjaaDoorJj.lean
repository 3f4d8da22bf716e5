/- A call of a function of the machine in spec: what its beginning makes. A call within a call of the machine, in spec: plain at op 14. And copy into a row. A call of a function of the machine in spec: the walk. -/
import Derived.Test.YtbdbmmdnidonjaaDoorJf
import Derived.Test.YtbdbmmdnidonjaaDoorJg
import Derived.Test.YtbdbmmdnidonjaaDoorJh
import Derived.Laws.CopyOwn
import Derived.Deep.CutRange
import Derived.Test.YtbdbmmdnidonjaaDoorJi
import Derived.Deep.RegionLaw
set_option linter.unusedVariables false
set_option linter.unusedSimpArgs false
set_option maxRecDepth 100000
namespace Go.Proofs.YtbdbmmdnidonjaaDoor
open Go.RowKit

def SNew (w : World) (slo : Nat) (p : Ps) (wx : World) : Prop :=
  Below w.heap.size w wx ∧ (∀ q, p.has q → w.heap.size ≤ q) ∧ p.Apart ∧ Blk wx p.p0 (mkSc p slo 0) ∧ Blk wx p.p1 (nats (List.replicate 8 0)) ∧ Blk wx p.p2 (nats (List.replicate slo 0)) ∧ Blk wx p.p3 (nats (List.replicate 3 0)) ∧ Blk wx p.p4 (nats (List.replicate 3 0))

theorem Blk.newAt {X : World} {p : Nat} {cs : Array Value} {t : TypeId} {xs : List Value} (h : p = X.heap.size) (hx : cs.toList = xs) : Blk (X.alloc (.cells cs t)) p xs := by
  subst h; subst hx; exact Blk.new _ _ _
theorem made_nats (n : Nat) : (madeCells (Value.int .i64 0).cells n).toList = nats (List.replicate n 0) := by rw [← nats_zeros]; exact toList_madeCells_one _ _
theorem Blk.setRow {w : World} {p : Nat} {xs : List Value} (h : Blk w p xs) (cs : Array Value) : Blk (w.setRow p cs) p cs.toList := by
  obtain ⟨cur, t, h, _⟩ := h
  exact ⟨cs, t, by simp [World.setRow, Array.getElem?_modify, h], rfl⟩
theorem Blk.otherRow {w : World} {p q : Nat} {xs : List Value} (h : Blk w p xs) (hq : p ≠ q) (cs : Array Value) : Blk (w.setRow q cs) p xs := h.same (setRow_other w q p cs hq)

def SRunPost (B pr cb : Nat) (mv : Value) (sv : Value) (r : Rs) (w : World) (e : Ending) (w' : World) : Prop :=
  match r with
  | .ret v s2 => ∃ sv', e = .returned (.int .i64 (v : Int)) ∧ RunAt B w' pr cb mv none s2 sv' ∧ Fr [pr, cb] sv w sv' w'
  | .stop en s2 => ∃ sv', e = .returned (.int .i64 0) ∧ RunAt B w' pr cb mv (some en) s2 sv' ∧ Fr [pr, cb] sv w sv' w'

/-- in the loop of a call: a run that goes on, or one that is over -/
def SRel (P : Pg) (R : Rs) (B pr cb : Nat) (mv : Value) (T k : Nat) (p : Ps) (par slo len : Nat) (sv0 : Value) (w2 : World) (g : Nat) (atv : Value) (wr : World) : Prop :=
  (∃ g' a l s sv, g' ≤ g ∧ atv = .int .i64 ((a : Nat) : Int) ∧ a < len ∧ loop P g' k a l s = R ∧ s.left < g' ∧ RunAt B wr pr cb mv none s sv ∧ SCall wr pr cb sv p par l ∧ LcOk par slo l ∧ CmOk s ∧ Fr ([pr, cb] ++ [p.p0, p.p1, p.p2, p.p3]) sv0 w2 sv wr ∧ s.said.length + s.left ≤ T) ∨
  (∃ a en s sv, atv = .int .i64 ((a : Nat) : Int) ∧ R = .stop en s ∧ RunAt B wr pr cb mv (some en) s sv ∧ Fr ([pr, cb] ++ [p.p0, p.p1, p.p2, p.p3]) sv0 w2 sv wr)

theorem sRunPost_of {B pr cb : Nat} {mv : Value} {sv sv' : Value} {w w2 wr : World} {p : Ps} {s : Cm} (hb : Below w.heap.size w w2) (hF : Fr ([pr, cb] ++ [p.p0, p.p1, p.p2, p.p3]) sv w2 sv' wr) (hp : ∀ q, p.has q → w.heap.size ≤ q) :
    (∀ v, RunAt B wr pr cb mv none s sv' → SRunPost B pr cb mv sv (.ret v s) w (.returned (.int .i64 (v : Int))) wr) ∧ (∀ en, RunAt B wr pr cb mv (some en) s sv' → SRunPost B pr cb mv sv (.stop en s) w (.returned (.int .i64 0)) wr) := by
  have hfr : Fr [pr, cb] sv w sv' wr := (Fr.below hb : Fr [pr, cb] sv w sv w2).transNew hF (fun x hx => hp x (by
    simp at hx
    rcases hx with h | h | h | h
    · exact .inl h
    · exact .inr (.inl h)
    · exact .inr (.inr (.inl h))
    · exact .inr (.inr (.inr (.inl h)))))
  exact ⟨fun v h => ⟨sv', rfl, h, hfr⟩, fun en h => ⟨sv', rfl, h, hfr⟩⟩

/-- the measure: the steps that are left, and one if the run is not over -/
def sleft (pr : Nat) (w : World) : Nat := (intOf ((w.cell? ⟨pr, 5, none⟩).getD (.int .i64 0))).toNat + (match w.cell? ⟨pr, 6, none⟩ with | some (.bool true) => 0 | _ => 1)
theorem sleft_at {B pr cb : Nat} {mv : Value} {en : Option Nat} {s : Cm} {sv : Value} {w : World} (h : RunAt B w pr cb mv en s sv) : sleft pr w = s.left + (if en.isSome then 0 else 1) := by
  obtain ⟨_, _, _, _, _, h5, h6, _⟩ := runCells h
  unfold sleft
  rw [h5, h6]
  cases en <;> simp [intOf]

end Go.Proofs.YtbdbmmdnidonjaaDoor

set_option maxRecDepth 100000
namespace Go.Proofs.YtbdbmmdnidonjaaDoor
open Go.RowKit

def Rs.eno : Rs → Option Nat
  | .ret _ _ => none
  | .stop e _ => some e

set_option maxHeartbeats 2000000 in
theorem sp_14 (w : World) (B pr cb : Nat) (mv : Value) (p : Ps) (par : Nat) (a b c n : Nat) (l : Lc) (s : Cm) (sv : Value) (r : Rs) (hR : RunAt B w pr cb mv none s sv) (hC : SCall w pr cb sv p par l)
    (hcall : ∀ w', Below w.heap.size w w' → Calls Tryd.prog 81 #[.pointer (some ⟨pr, 0, none⟩), .int .i64 (n : Int), .slice (some ⟨p.p3, 0, none⟩) 3 3] w' (SRunPost B pr cb mv sv r w')) :
    Calls Tryd.prog 110 #[.pointer (some ⟨pr, 0, none⟩), .agg #[.int .i64 14, .int .i64 (a : Int), .int .i64 (b : Int), .int .i64 (c : Int), .int .i64 (n : Int)], .pointer (some ⟨p.p0, 0, none⟩)] w
      (fun e w' => e = .returned (.tuple #[]) ∧ ∃ w5 sv', w' = w5.setCell ⟨p.p0, 4, none⟩ (.int .i64 (r.val : Int)) ∧ RunAt B w5 pr cb mv r.eno r.cm sv' ∧ Fr [pr, cb] sv w sv' w5) := by
  have HC := Lib.hid hC
  have HR := Lib.hid hR
  have HCA := Lib.hid hcall
  clear hC hR hcall
  go_enter Tryd.func110, Tryd.ntmps110
  go_wp2_with (fail)
  generalize hw1 : w.alloc _ = w1
  obtain ⟨hb1, x1, x2, x3, x4⟩ := boxed hw1
  have hC1 := HC.out.below hb1
  obtain ⟨s0, s1, s2, s3, s4⟩ := scCells hC1
  have hlw : w.heap.size < w1.heap.size := World.block_lt_of_cell? _ _ x4
  have HB1 := Lib.hid hb1
  have HC1 := Lib.hid hC1
  clear hb1 hw1 x1 x2 x3 s0 s1 s3 s4 hC1
  refine wp_region_held (fun W => W.cell? ⟨w.heap.size, 4, none⟩ = some (.int .i64 (n : Int)) ∧ W.cell? ⟨p.p0, 2, none⟩ = some (.slice (some ⟨p.p3, 0, none⟩) 3 3)) [(0, false), (1, false), (2, false), (3, true), (4, false), (5, false), (6, false), (7, true)] [8, 9, 10, 11] 11 (by kernel_rfl) (by kernel_rfl) (fun d v c a w h => by cases d <;> exact h) ⟨x4, s2⟩ ?_
  simp only [pickO, List.map_cons, List.map_nil, List.getD_cons_zero, List.getD_cons_succ]
  refine heldO_stepY (v := ?_) rfl ?_ ?_
  rotate_left
  · intro W
    go_simp
    try rfl
  simp only [Act.put, List.setIfInBounds_toArray, List.set_cons_zero, List.set_cons_succ]
  refine heldO_stepY (v := ?_) rfl ?_ ?_
  rotate_left
  · intro W
    go_simp
    try rfl
  simp only [Act.put, List.setIfInBounds_toArray, List.set_cons_zero, List.set_cons_succ]
  refine heldO_stepY (v := ?_) rfl ?_ ?_
  rotate_left
  · intro W
    go_simp
    try rfl
  simp only [Act.put, List.setIfInBounds_toArray, List.set_cons_zero, List.set_cons_succ]
  refine heldO_step (v := ?_) rfl ?_ ?_
  rotate_left
  · intro W hS
    obtain ⟨k1, k2⟩ := hS
    go_simp
    try rfl
  simp only [Act.put, List.setIfInBounds_toArray, List.set_cons_zero, List.set_cons_succ]
  refine heldO_stepY (v := ?_) rfl ?_ ?_
  rotate_left
  · intro W
    go_simp
    try rfl
  simp only [Act.put, List.setIfInBounds_toArray, List.set_cons_zero, List.set_cons_succ]
  refine heldO_stepY (v := ?_) rfl ?_ ?_
  rotate_left
  · intro W
    go_simp
    try rfl
  simp only [Act.put, List.setIfInBounds_toArray, List.set_cons_zero, List.set_cons_succ]
  refine heldO_stepY (v := ?_) rfl ?_ ?_
  rotate_left
  · intro W
    go_simp
    try rfl
  simp only [Act.put, List.setIfInBounds_toArray, List.set_cons_zero, List.set_cons_succ]
  refine heldO_step (v := ?_) rfl ?_ ?_
  rotate_left
  · intro W hS
    obtain ⟨k1, k2⟩ := hS
    go_simp
    try rfl
  simp only [Act.put, List.setIfInBounds_toArray, List.set_cons_zero, List.set_cons_succ]
  refine heldO_nil ?_
  refine tailO_step rfl (fun K hK => ?_)
  go_simp
  refine (HCA.out _ HB1.out.drew).mono ?_
  rintro e w5 hpost
  have hkey : ∃ sv', e = .returned (.int .i64 (r.val : Int)) ∧ RunAt B w5 pr cb mv r.eno r.cm sv' ∧ Fr [pr, cb] sv w1.drew sv' w5 := by
    cases r with
    | ret v s2 => exact hpost
    | stop en s2 => exact hpost
  obtain ⟨sv', rfl, hR5, hF5⟩ := hkey
  have hp0 := HC.out.far p.p0 (.inl rfl)
  have hpr := HR.out.blk.lt
  have hcb := HR.out.cells.lt
  have y4 : w5.cell? ⟨w.heap.size, 4, none⟩ = some (.int .i64 (n : Int)) := (World.cell?_of_block (a := ⟨w.heap.size, 4, none⟩) (hF5.block (k := w.heap.size) hlw (by simp; omega) (fun e => by have := (HR.out.said.lt e).2; omega))).trans x4
  have hC5 : SCall w5 pr cb sv' p par l := (HC1.out.below (Below.refl _ _).drew).keep hF5
  have y2 := (scCells hC5).2.2.1
  have z4 := (scCells hC5).2.2.2.2
  have zf := hC5.blk.frozen 4
  have HR5 := Lib.hid hR5
  have HF5 := Lib.hid ((Fr.below HB1.out.drew : Fr [pr, cb] sv w sv w1.drew).trans hF5)
  refine hK _ _ (.inr ⟨y4, y2⟩) ?_
  clear hK K hR5 hF5 hC5 hpost x4 s2
  refine tailO_step rfl (fun K hK => ?_)
  go_simp
  refine hK _ _ (.inr ⟨y4, y2⟩) ?_
  clear hK K
  refine tailO_step rfl (fun K hK => ?_)
  go_simp
  refine hK _ _ (.inr ⟨y4, y2⟩) ?_
  clear hK K
  refine tailO_step rfl (fun K hK => ?_)
  go_simp
  refine hK _ _ (.inl rfl) (tailO_nil ?_)
  clear hK K
  go_wp2_with (fail)
  go_end0
  exact ⟨rfl, w5, sv', rfl, HR5.out, HF5.out⟩

theorem snew_of {wf X : World} {slo q0 q1 q2 q3 q4 : Nat} {t : TypeId} (h0 : q0 = X.heap.size) (hb : Below wf.heap.size wf X) (h1 : Blk X q1 (nats (List.replicate 8 0))) (h2 : Blk X q2 (nats (List.replicate slo 0))) (h3 : Blk X q3 (nats (List.replicate 3 0))) (h4 : Blk X q4 (nats (List.replicate 3 0)))
    (g1 : wf.heap.size ≤ q1) (g2 : wf.heap.size ≤ q2) (g3 : wf.heap.size ≤ q3) (g4 : wf.heap.size ≤ q4) (d : q1 ≠ q2 ∧ q1 ≠ q3 ∧ q1 ≠ q4 ∧ q2 ≠ q3 ∧ q2 ≠ q4 ∧ q3 ≠ q4) :
    ∃ p, Value.pointer (some ⟨q0, 0, none⟩) = Value.pointer (some ⟨Ps.p0 p, 0, none⟩) ∧ SNew wf slo p (X.alloc (.cells #[.slice (some ⟨q1, 0, none⟩) 8 8, .slice (some ⟨q2, 0, none⟩) slo slo, .slice (some ⟨q3, 0, none⟩) 3 3, .slice (some ⟨q4, 0, none⟩) 3 3, .int .i64 0] t)).drew := by
  have l1 := h1.lt
  have l2 := h2.lt
  have l3 := h3.lt
  have l4 := h4.lt
  have hsz := hb.size
  refine ⟨⟨q0, q1, q2, q3, q4⟩, rfl, (hb.alloc hsz _).drew, ?_, ⟨by simp only []; omega, by simp only []; omega, by simp only []; omega, by simp only []; omega, d.1, d.2.1, d.2.2.1, d.2.2.2.1, d.2.2.2.2.1, d.2.2.2.2.2⟩, Blk.newAt h0 rfl, h1.alloc _, h2.alloc _, h3.alloc _, h4.alloc _⟩
  intro q hq
  rcases hq with h | h | h | h | h <;> (simp only [] at h; omega)

theorem wpList_copy_row {P : Program} {w : World} {ops : Array Oper} {rest : List Oper} {o : Oper} {a : Act} {Q : Exit → Act → World → Prop} (hgd : o.guard = none) (d s : Operand) (dT sT : TypeId)
    (ho : o.op = .call { callee := .builtin .copy, args := #[d, s], argTypes := #[dT, sT] }) (elem : TypeId) (hu : P.underlying dT = some (.slice elem)) (hsz : (P.info? elem).map (·.size) = some 1)
    (g dLen dCap : Nat) (ad : Addr) (sLen sCap : Nat) (hd : a.eval d = .slice (some ⟨g, 0, none⟩) dLen dCap) (hs : a.eval s = .slice (some ad) sLen sCap)
    (xs : List Value) (hb : Blk w g xs) (cs : List Value) (hn : cs.length = Nat.min sLen dLen) (hsrc : ∀ j v, cs[j]? = some v → w.cell? (ad.add j) = some v) (hfit : cs.length ≤ xs.length) (h1 : ∀ v ∈ cs, v.oneCell' = true)
    (h : ∀ w', Blk w' g (cs ++ xs.drop cs.length) → Only [g] w w' → wpList P ops Q rest (a.put o.dst (goInt cs.length)) w') : wpList P ops Q (o :: rest) a w := by
  by_cases h0 : cs.length = 0
  · obtain rfl : cs = [] := List.eq_nil_of_length_eq_zero h0
    refine wpList_copy_nothing hgd d s dT sT ho elem hu hsz _ _ dLen dCap sLen sCap hd hs (by simpa using hn.symm) ?_
    exact h w (by simpa using hb) (Only.refl _ _)
  · obtain ⟨cur, t, hg, rfl⟩ := hb
    refine wpList_copy_own hgd d s dT sT ho elem hu hsz g 0 dLen dCap ad sLen sCap hd hs cur t hg cs hn hsrc (by simpa using hfit) h1 ?_
    refine h _ ?_ ⟨rfl, rfl, rfl, by simp [World.setRow], fun k _ hk => setRow_other w g k _ (by simpa using hk)⟩
    have hB : Blk w g cur.toList := ⟨cur, t, hg, rfl⟩
    have := hB.setRow (cur.toList.take 0 ++ (cs ++ cur.toList.drop (0 + cs.length))).toArray
    simpa using this

end Go.Proofs.YtbdbmmdnidonjaaDoor

set_option maxRecDepth 100000
namespace Go.Proofs.YtbdbmmdnidonjaaDoor
open Go.RowKit

set_option maxHeartbeats 8000000 in
theorem call_any (W0 : World) (v : Value) (fs : List Mf) (hm : MfsAt W0 v fs) (hP : PgOk (machPg fs) fs.length) (hN : MfsNat fs) (hle : MfsLe fs) :
    ∀ g (w : World) (pr cb T : Nat) (s : Cm) (sv : Value) (k b off n cap : Nat) (inp : List Nat), s.left < g → k < fs.length → Below W0.heap.size W0 w → RunAt W0.heap.size w pr cb v none s sv → CmOk s →
      SrcAt w b off n cap inp → Small inp → (machPg fs).par k ≤ n → n ≤ 3 → s.said.length + s.left ≤ T → T ≤ 300000 →
    Calls Tryd.prog 81 #[.pointer (some ⟨pr, 0, none⟩), .int .i64 (k : Int), .slice (some ⟨b, off, none⟩) n cap] w
      (SRunPost W0.heap.size pr cb v sv (loop (machPg fs) g k 0 (newLc (machPg fs) k inp) s) w) := by
  intro g
  induction g using Nat.strongRecOn with
  | _ g ih =>
  intro w pr cb T s sv k b off n cap inp hg hk hB hM hs hsrc hin hpar hn3 hsd hT
  obtain ⟨f, hf⟩ : ∃ f, fs[k]? = some f := ⟨_, List.getElem?_eq_getElem hk⟩
  have hfm : f ∈ fs := List.mem_of_getElem? hf
  obtain ⟨vb, vo, vcap, iv, hv, hvb, c0, c1, c2, hmi⟩ := hm.get hf
  have hmf : mfAt fs k = f := by unfold mfAt; rw [hf]; rfl
  obtain ⟨par, hpr⟩ : ∃ par : Nat, f.params = par := ⟨f.params.toNat, by have := (hN.1 f hfm).1; omega⟩
  obtain ⟨slo, hsl⟩ : ∃ slo : Nat, f.slots = slo := ⟨f.slots.toNat, by have := (hN.1 f hfm).2; omega⟩
  have hpar' : (machPg fs).par k = par := by show (mfAt fs k).params.toNat = par; rw [hmf, hpr]; simp
  have hslo' : (machPg fs).slo k = slo := by show (mfAt fs k).slots.toNat = slo; rw [hmf, hsl]; simp
  have hslo64 : slo ≤ 64 := by rw [← hslo']; exact hP.slo k hk
  have hpar3 : par ≤ 3 := by rw [← hpar']; exact hP.par k hk
  rw [hpar'] at hpar
  have hlen0 : 0 < f.ins.length := by have := hP.start k hk; show 0 < f.ins.length; rw [← hmf]; exact this
  have hil := hle.2 f hfm
  obtain ⟨ib, io, icap, hiv, hins⟩ := hmi.gets hlen0
  subst hiv
  obtain ⟨len, hlen⟩ : ∃ len, len = f.ins.length := ⟨_, rfl⟩
  rw [← hlen] at c2 hlen0 hil
  obtain ⟨fl, hfl⟩ : ∃ fl, fl = fs.length := ⟨_, rfl⟩
  rw [← hfl] at hv hk
  have hfl4 : fl ≤ 1048576 := by rw [hfl]; exact hle.1
  obtain ⟨R, hR⟩ : ∃ R, loop (machPg fs) g k 0 (newLc (machPg fs) k inp) s = R := ⟨_, rfl⟩
  rw [hR]
  have HINS : Hid (∀ W, Below W0.heap.size W0 W → ∀ i x, f.ins[i]? = some x → W.cell? ⟨ib, io + i * 5, none⟩ = some (.int .i64 x.op) ∧ W.cell? ⟨ib, io + i * 5 + 1, none⟩ = some (.int .i64 x.a) ∧ W.cell? ⟨ib, io + i * 5 + 2, none⟩ = some (.int .i64 x.b) ∧ W.cell? ⟨ib, io + i * 5 + 3, none⟩ = some (.int .i64 x.c) ∧ W.cell? ⟨ib, io + i * 5 + 4, none⟩ = some (.int .i64 x.n)) := Lib.hid fun W hW i x hi => by
    obtain ⟨hl, d0, d1, d2, d3, d4⟩ := hins i x hi
    rw [hW.cell (p := ⟨ib, io + i * 5, none⟩) hl, hW.cell (p := ⟨ib, io + i * 5 + 1, none⟩) hl, hW.cell (p := ⟨ib, io + i * 5 + 2, none⟩) hl, hW.cell (p := ⟨ib, io + i * 5 + 3, none⟩) hl, hW.cell (p := ⟨ib, io + i * 5 + 4, none⟩) hl]
    exact ⟨d0, d1, d2, d3, d4⟩
  obtain ⟨i0, hi, hz0, hz1, hz2⟩ := info_parts info_int
  have hmk : ∀ (w : World) (m : Nat), m ≤ 64 → (Instr.makeSlice 26 (.int .i64 (m : Int)) (.int .i64 (m : Int))).run Tryd.prog w = .ok (.slice (some ⟨w.heap.size, 0, none⟩) m m) (w.alloc (.cells (madeCells (Value.int .i64 0).cells m) 3)) := fun w m hm => by
    have h := run_make (P := Tryd.prog) w 26 3 i0 (.int .i64 0) Tryd.underlying26 hi hz0 .i64 .i64 (m : Int) (m : Int) (by omega) (by omega) (by rw [hz2]; omega) (by omega)
    rw [hz1, Nat.mul_one] at h
    simpa using h
  have hmk8 : ∀ w : World, (Instr.makeSlice 26 (.int .i64 8) (.int .i64 8)).run Tryd.prog w = .ok (.slice (some ⟨w.heap.size, 0, none⟩) 8 8) (w.alloc (.cells (madeCells (Value.int .i64 0).cells 8) 3)) := fun w => hmk w 8 (by omega)
  have hmk3 : ∀ w : World, (Instr.makeSlice 26 (.int .i64 3) (.int .i64 3)).run Tryd.prog w = .ok (.slice (some ⟨w.heap.size, 0, none⟩) 3 3) (w.alloc (.cells (madeCells (Value.int .i64 0).cells 3) 3)) := fun w => hmk w 3 (by omega)
  have hmks : ∀ w : World, (Instr.makeSlice 26 (.int .i64 (slo : Int)) (.int .i64 (slo : Int))).run Tryd.prog w = .ok (.slice (some ⟨w.heap.size, 0, none⟩) slo slo) (w.alloc (.cells (madeCells (Value.int .i64 0).cells slo) 3)) := fun w => hmk w slo hslo64
  have k0 : (0 : Int) ≤ k := by omega
  have k1 : (k : Int) < fl := by omega
  have d0 : w.cell? ⟨vb, vo + k * 3, none⟩ = some (.int .i64 (par : Int)) := by rw [hB.cell (p := ⟨vb, vo + k * 3, none⟩) hvb, c0, hpr]
  have d1 : w.cell? ⟨vb, vo + k * 3 + 1, none⟩ = some (.int .i64 (slo : Int)) := by rw [hB.cell (p := ⟨vb, vo + k * 3 + 1, none⟩) hvb, c1, hsl]
  have d2 : w.cell? ⟨vb, vo + k * 3 + 2, none⟩ = some (.slice (some ⟨ib, io, none⟩) len icap) := by rw [hB.cell (p := ⟨vb, vo + k * 3 + 2, none⟩) hvb]; exact c2
  have q0 : w.cell? ⟨pr, 0, none⟩ = some v := (runCells hM).1
  have hprl := hM.blk.lt
  have HFL := Lib.hid hfl; have HLEN := Lib.hid hlen; have HR := Lib.hid hR; have HM := Lib.hid hM; have HS := Lib.hid hs; have HP := Lib.hid hP; have HN := Lib.hid hN; have HMF := Lib.hid hmf; have HIH := Lib.hid ih; have HB := Lib.hid hB; have HSRC := Lib.hid hsrc; have HIN := Lib.hid hin; have HSD := Lib.hid hsd; have HFM := Lib.hid hfm; have HLEFT := Lib.hid hg
  have HPAR := Lib.hid hpar'; have HSLO := Lib.hid hslo'
  subst hv
  clear hfl hlen hR hM hs hP hN hmf ih hB hsrc hin hsd hm hfm hg hle hpar' hslo' c0 c1 c2 hins hmi hf hpr hsl hi hz0 hz1 hz2 hmk
  go_enter Tryd.func81, Tryd.ntmps81
  go_upto_region 2 with (fail)
  generalize hwf : w.alloc _ = wf
  have hbf : Below w.heap.size w wf := by rw [← hwf]; exact below1 _ _
  have hszf : wf.heap.size = w.heap.size + 1 := by rw [← hwf]; simp
  have p1 : wf.cell? ⟨w.heap.size, 1, none⟩ = some (.int .i64 (slo : Int)) := by rw [← hwf]; simp [go_sem]
  have p2 : wf.cell? ⟨w.heap.size, 2, none⟩ = some (.slice (some ⟨ib, io, none⟩) len icap) := by rw [← hwf]; simp [go_sem]
  have HBF := Lib.hid hbf
  clear hwf hbf d0 d1 d2
  go_cut [8] from 19 to 26 (fun a wx => ∃ p, a = Value.pointer (some ⟨Ps.p0 p, 0, none⟩) ∧ SNew wf slo p wx)
  case first =>
    clear HINS HFL HLEN HR HM HS HP HN HMF HIH HB HSRC HIN HSD HFM HLEFT HPAR HSLO p2 HBF hil hlen0 hfl4 k0 k1 hT hn3 hpar hpar3 q0 hprl
    go_region_law (first | fail)
    all_goals go_wp2_with (fail)
    all_goals go_meet
    all_goals refine snew_of ?_ ?_ ?_ ?_ ?_ ?_ ?_ ?_ ?_ ?_ ?_
    all_goals first
      | omega
      | (simp; done)
      | (simp; omega)
      | ((repeat (first | exact Blk.newAt (by first | omega | (simp; omega)) (made_nats _) | refine Blk.alloc ?_ _)); done)
      | ((repeat' (first | exact Below.refl _ _ | assumption | (refine Below.setCell ?_ ?_ _) | (refine Below.alloc ?_ ?_ _) | (refine belowDrewN ?_ _) | omega | (simp; done) | (simp; omega))); done)
  case rest =>
    obtain ⟨p, rfl, hbx, hge, hap, b0, b1, b2, b3, b4⟩ := hcut
    have s3 : wc.cell? ⟨p.p0, 3, none⟩ = some (.slice (some ⟨p.p4, 0, none⟩) 3 3) := by rw [b0.cell]; rfl
    have hbwc : Below w.heap.size w wc := HBF.out.trans (hbx.mono HBF.out.size)
    have hsrcx := HSRC.out.below hbwc
    have HSRCX : Hid (∀ j v, (nats inp)[j]? = some v → wc.cell? ((⟨b, off, none⟩ : Addr).add j) = some v) := by
      apply Lib.hid
      intro j u hu
      have hj : j < inp.length := by
        rcases Nat.lt_or_ge j inp.length with h | h
        · exact h
        · rw [List.getElem?_eq_none (by rw [nats_len]; exact h)] at hu; cases hu
      rw [nats_get hj] at hu
      rw [Arg.add_eq, hsrcx.cells j (by rw [← hsrcx.len]; exact hj)]
      exact hu
    have hinl := HSRC.out.len
    have HBX := Lib.hid hbx; have HGE := Lib.hid hge; have HAP := Lib.hid hap; have HB0 := Lib.hid b0; have HB1 := Lib.hid b1; have HB2 := Lib.hid b2; have HB3 := Lib.hid b3; have HB4 := Lib.hid b4; have HBWC := Lib.hid hbwc
    clear hbx hge hap b0 b1 b2 b3 b4 hbwc hsrcx
    go_wp2_with (refine wpList_copy_row rfl _ _ 26 26 (by rfl) 3 Tryd.underlying26 (by kernel_rfl) p.p4 3 3 ⟨b, off, none⟩ n cap (by rfl) (by rfl) _ HB4.out (nats inp) (by rw [nats_len, hinl]; exact (Nat.min_eq_left hn3).symm) HSRCX.out (by rw [nats_len, nats_len, hinl]; simpa using hn3) (by simp [nats, Value.oneCell']) ?_; intro wd hbd hod; have HBD := Lib.hid hbd; have HOD := Lib.hid hod; clear hbd hod)
    have hszc : w.heap.size + 1 ≤ wc.heap.size := by have := HBX.out.size; omega
    have hge1 : ∀ q, p.has q → w.heap.size + 1 ≤ q := fun q hq => by have := HGE.out q hq; omega
    have hge4 := hge1 p.p4 (.inr (.inr (.inr (.inr rfl))))
    have hbd : Below w.heap.size w wd := Only.below HBWC.out HOD.out (by omega) (fun q hq => by have := List.mem_singleton.1 hq; omega)
    have hszd : wc.heap.size ≤ wd.heap.size := HOD.out.size
    have hsv : ∀ k, sv.ownBlock = some k → k < w.heap.size := fun k hk => (HM.out.said.lt hk).2
    have hM2 := HM.out.below hbd
    have hsame : ∀ q, q < wc.heap.size → q ≠ p.p4 → wd.heap[q]? = wc.heap[q]? := fun q h1 h2 => HOD.out.block q h1 (by simpa using h2)
    have hS : SCall wd pr cb sv p par (newLc (machPg fs) k inp) := by
      have hap := HAP.out
      have hcbl := HM.out.cells.lt
      refine ⟨?_, HB1.out.same (hsame _ HB1.out.lt hap.a14), ?_, HB3.out.same (hsame _ HB3.out.lt hap.a34), ⟨inp ++ (List.replicate 3 0).drop inp.length, ?_, by simp; omega, ?_⟩, hap, fun q hq => ?_⟩
      · have h := HB0.out.same (hsame _ HB0.out.lt hap.a04)
        unfold newLc; rw [HSLO.out]; simpa using h
      · have h := HB2.out.same (hsame _ HB2.out.lt hap.a24)
        unfold newLc; rw [HSLO.out]; exact h
      · have h := HBD.out
        rw [show nats (inp ++ (List.replicate 3 0).drop inp.length) = nats inp ++ (nats (List.replicate 3 0)).drop (nats inp).length by simp [nats]]
        exact h
      · intro j hj
        show _ = inp.getD j 0
        rw [List.getD_eq_getElem?_getD, List.getElem?_append_left (by omega), ← List.getD_eq_getElem?_getD]
      · have := hge1 q hq
        exact ⟨by omega, by omega, fun e => by have := hsv q e; omega⟩
    have HREL0 : Hid (SRel (machPg fs) R W0.heap.size pr cb (.slice (some ⟨vb, vo, none⟩) fl vcap) T k p par slo len sv wd g (.int .i64 0) wd) := by
      apply Lib.hid
      refine .inl ⟨g, 0, _, s, sv, Nat.le_refl _, rfl, hlen0, HR.out, HLEFT.out, hM2, hS, ?_, HS.out, Fr.refl _ _ _, HSD.out⟩
      rw [← HPAR.out, ← HSLO.out]; exact newLc_ok _ _ _ (by rw [HPAR.out, hinl]; exact hpar) HIN.out
    have c2d : wd.cell? ⟨w.heap.size, 2, none⟩ = some (.slice (some ⟨ib, io, none⟩) len icap) := by
      rw [World.cell?_of_block (w := wc) (a := ⟨w.heap.size, 2, none⟩) (hsame w.heap.size (by omega) (by omega)), HBX.out.cell (p := ⟨w.heap.size, 2, none⟩) (by simp only []; omega)]
      exact p2
    have HFR : Hid (∀ sv' W, Fr ([pr, cb] ++ [p.p0, p.p1, p.p2, p.p3]) sv wd sv' W → W.cell? ⟨w.heap.size, 2, none⟩ = some (.slice (some ⟨ib, io, none⟩) len icap) ∧ Below W0.heap.size W0 W ∧ wd.heap.size ≤ W.heap.size) := by
      apply Lib.hid
      intro sv' W hF
      have g0 := hge1 p.p0 (.inl rfl)
      have g1 := hge1 p.p1 (.inr (.inl rfl))
      have g2 := hge1 p.p2 (.inr (.inr (.inl rfl)))
      have g3 := hge1 p.p3 (.inr (.inr (.inr (.inl rfl))))
      have hcbl := HM.out.cells.lt
      refine ⟨?_, ?_, hF.size⟩
      · rw [World.cell?_of_block (w := wd) (a := ⟨w.heap.size, 2, none⟩) (hF.block (k := w.heap.size) (by omega) (by simp; omega) (fun e => by have := hsv _ e; omega))]; exact c2d
      · have hBw := HB.out.trans (hbd.mono HB.out.size)
        have e1 := HM.out.gp
        have e2 := HM.out.gc
        have e3 := HB.out.size
        refine hBw.trans (hF.below_of hBw.size (fun x hx => ?_) (fun k hk => (HM.out.said.lt hk).1))
        simp at hx
        rcases hx with h | h | h | h | h | h <;> omega
    have HHAS := Lib.hid (fun q hq => Nat.le_of_succ_le (hge1 q hq))
    have HBDW := Lib.hid hbd
    have HSV := Lib.hid hsv
    clear hbd hM2 hsame hS c2d hge1 hge4 hsv s3 HBX HGE HAP HB0 HB1 HB2 HB3 HB4 HBWC HBD HOD HSRCX p1 p2 hmk8 hmk3 hmks HLEFT HS q0
    go_loopw [9] (fun at_ wr => SRel (machPg fs) R W0.heap.size pr cb (.slice (some ⟨vb, vo, none⟩) fl vcap) T k p par slo len sv wd g at_ wr) (fun _ wr => sleft pr wr)
    case atStart => exact HREL0.out
    case round =>
      obtain ⟨wo, rfl⟩ : ∃ wo : World, wo = wr := ⟨_, rfl⟩
      rcases hrel with ⟨g1, a, l, s1, sv1, hg1, rfl, ha, hR1, hlt, hM1, hC1, hl1, hs1, hF1, hsd1⟩ | ⟨a, en, s1, sv1, rfl, hR1, hM1, hF1⟩
      case inr =>
        obtain ⟨_, _, _, _, _, _, q6, _⟩ := runCells hM1
        have HE := Lib.hid ((sRunPost_of (s := s1) HBDW.out hF1 HHAS.out).2 en hM1)
        have HRR := Lib.hid hR1
        simp only [Option.isSome_some] at q6
        clear hR1 hM1 hF1 HINS HIH HFR
        go_wp2_with (fail)
        go_ret
        rw [HRR.out]
        exact HE.out
      cases g1 with
      | zero => omega
      | succ g1 =>
      obtain ⟨q0, q1, q2, q3, q4, q5, q6, qf⟩ := runCells hM1
      simp only [Option.isSome_none] at q6
      by_cases h0 : s1.left = 0
      · have hR0 : R = .stop 3 s1 := by rw [← hR1]; unfold loop; rw [if_pos h0]
        rw [h0] at q5
        have HST := Lib.hid (sstop_any wo pr 3 _ q2 q6 qf)
        have HE := Lib.hid ((sRunPost_of (s := s1) HBDW.out ((hF1.setIn (a := ⟨pr, 2, none⟩) (by simp) (.int .i64 ((3 : Nat) : Int))).setIn (a := ⟨pr, 6, none⟩) (by simp) (.bool true)) HHAS.out).2 3 (hM1.stop 3))
        have HRR := Lib.hid hR0
        clear hR1 hM1 hC1 hl1 hs1 hF1 HINS HIH HFR hR0 h0
        go_wp2_with (fail)
        go_at_call 109
        refine HST.out.mono ?_
        rintro e w2 ⟨rfl, hw2⟩
        have hE := HE.out
        rw [← hw2] at hE
        have HE2 := Lib.hid hE
        clear hw2 hE HE HST
        go_wp2_with (fail)
        go_ret
        rw [HRR.out]
        exact HE2.out
      obtain ⟨x, hxa⟩ : ∃ x, f.ins[a]? = some x := ⟨_, List.getElem?_eq_getElem (by rw [← HLEN.out]; exact ha)⟩
      obtain ⟨X, hX⟩ : ∃ X, x.ni = X := ⟨_, rfl⟩
      have hxX : x = X.mi := by rw [← hX]; exact (HN.out.2 f HFM.out x (List.mem_of_getElem? hxa)).symm
      have hgood : (machPg fs).good k a := by show a < (mfAt fs k).ins.length; rw [HMF.out, ← HLEN.out]; exact ha
      have hfet : (machPg fs).fet k a = X := by show (miAt fs k a).ni = X; unfold miAt; rw [HMF.out, hxa]; exact hX
      have hkf : k < fs.length := by rw [← HFL.out]; exact hk
      have hok := HP.out.ins k a hkf hgood
      have hjmp := HP.out.jump k a hkf hgood
      have hnxt := HP.out.next k a hkf hgood
      rw [HPAR.out, HSLO.out, hfet] at hok
      rw [hfet] at hjmp hnxt
      have hgd : ∀ j, (machPg fs).good k j ↔ j < len := fun j => by show j < (mfAt fs k).ins.length ↔ _; rw [HMF.out, ← HLEN.out]
      have hnx : (machPg fs).nxt k a = a + 1 := rfl
      rw [hnx] at hnxt
      simp only [hgd] at hjmp hnxt
      have hR2 := hR1
      unfold loop at hR2
      rw [if_neg h0, hfet] at hR2
      have ha0 : (0 : Int) ≤ a := by omega
      have ha1 : (a : Int) < len := by omega
      have hM3 := hM1.tick ((machPg fs).base k + a)
      have hC3 : SCall (wo.setCell ⟨pr, 5, none⟩ (.int .i64 ((s1.left - 1 : Nat) : Int))) pr cb sv1 p par l := hC1.keep ((Fr.refl _ _ _).setIn (by simp) _)
      have hF3 := hF1.setIn (a := ⟨pr, 5, none⟩) (by simp) (.int .i64 ((s1.left - 1 : Nat) : Int))
      obtain ⟨p2, hBW3, hsz3⟩ := HFR.out _ _ hF3
      obtain ⟨i0, i1, i2, i3, i4⟩ := HINS.out _ hBW3 a x hxa
      rw [hxX] at i0 i1 i2 i3 i4
      simp only [Ni.mi] at i0 i1 i2 i3 i4
      have hs3 := hs1.step ((machPg fs).base k + a)
      have hl3 : (s1.step ((machPg fs).base k + a)).left + 1 = s1.left := by show s1.left - 1 + 1 = _; omega
      have hsd3 : (s1.step ((machPg fs).base k + a)).said.length + (s1.step ((machPg fs).base k + a)).left + 1 ≤ T := by
        rw [show (s1.step ((machPg fs).base k + a)).said = s1.said from rfl]; omega
      have hml := sleft_at hM1
      generalize s1.step ((machPg fs).base k + a) = s2 at *
      have hnn : ((s1.left : Nat) : Int) - 1 = ((s1.left - 1 : Nat) : Int) := by omega
      have hlz : (((s1.left : Nat) : Int) == 0) = false := by simp; omega
      have hpl : pr < wo.heap.size := hM1.blk.lt
      have qf5 := qf 5
      have hlb : s1.left ≤ 300000 := by omega
      obtain ⟨op, xa, xb, xc, xn⟩ := X
      have HR2 := Lib.hid hR2; have HOK := Lib.hid hok; have HJ := Lib.hid hjmp; have HNX := Lib.hid hnxt
      have ho1 := hok.op; have hxa8 := hok.a
      simp only [] at ho1 hxa8
      have HM3 := Lib.hid hM3; have HC3 := Lib.hid hC3; have HF3 := Lib.hid hF3; have HBW3 := Lib.hid hBW3; have HS3 := Lib.hid hs3; have HL3 := Lib.hid hl3; have HSD3 := Lib.hid hsd3; have HML := Lib.hid hml; have HL1 := Lib.hid hl1; have HLT := Lib.hid hlt
      clear hX hR2 hok hjmp hnxt hxX hxa hfet hgood hgd hnx hR1 hM1 hC1 hF1 hs1 hl1 hM3 hC3 hF3 hBW3 hs3 hl3 hsd3 hml hlt q0 q1 q2 q3 q4 hsd1
      by_cases h20 : op = 20
      · subst h20
        have hR := HR2.out
        rw [if_neg (by simp), if_pos rfl] at hR
        have HRR := Lib.hid hR
        have hxn := HJ.out (.inl rfl)
        clear hR HR2
        go_wp2_with (fail)
        generalize hw3 : wo.setCell _ _ = w3 at *
        generalize hw4 : w3.alloc _ = w4 at *
        have hb4 : Below w3.heap.size w3 w4 := by rw [← hw4]; exact below1 _ _
        have HB4 := Lib.hid hb4
        clear hw3 hw4 hb4
        go_roundw
        case rel => exact .inl ⟨g1, xn, l, s2, sv1, by omega, rfl, hxn, HRR.out, by have := HL3.out; have := HLT.out; omega, HM3.out.below HB4.out, HC3.out.below HB4.out, HL1.out, HS3.out, HF3.out.trans (Fr.below HB4.out), by have := HSD3.out; omega⟩
        case measure => rw [sleft_at (HM3.out.below HB4.out), HML.out]; have := HL3.out; simp; omega
      by_cases h21 : op = 21
      · subst h21
        have hR := HR2.out
        rw [if_neg (by simp), if_neg (by simp), if_pos rfl] at hR
        have HRR := Lib.hid hR
        have hxn := HJ.out (.inr rfl)
        have hnx := HNX.out (by simp) (by simp)
        clear hR HR2
        go_wp2_with (fail)
        generalize hw3 : wo.setCell _ _ = w3 at *
        have hse : w3.heap.size = wo.heap.size := by rw [← hw3]; simp
        generalize hw4 : w3.alloc _ = w4 at *
        have x0 := boxed0 hw4
        obtain ⟨hb4, x1, x2, x3, x4⟩ := boxed hw4
        rw [hse] at x0 x1 x2 x3 x4
        obtain ⟨s0, _, _, _, _⟩ := scCells (HC3.out.below hb4)
        have hreg := (sregs (HC3.out.below hb4) HL1.out.regs).1 xa hxa8
        have y0 : ∀ m, (w4.drewN m).cell? ⟨wo.heap.size, 0, none⟩ = some (.int .i64 21) := fun _ => x0
        have y1 : ∀ m, (w4.drewN m).cell? ⟨wo.heap.size, 1, none⟩ = some (.int .i64 (xa : Int)) := fun _ => x1
        have y4 : ∀ m, (w4.drewN m).cell? ⟨wo.heap.size, 4, none⟩ = some (.int .i64 (xn : Int)) := fun _ => x4
        have ys : ∀ m, (w4.drewN m).cell? ⟨p.p0, 0, none⟩ = some (.slice (some ⟨p.p1, 0, none⟩) 8 8) := fun _ => s0
        have ra : ∀ m, (w4.drewN m).cell? ⟨p.p1, xa, none⟩ = some (.int .i64 (l.reg xa : Int)) := fun _ => hreg
        have a0 : (0 : Int) ≤ xa := by omega
        have a1 : (xa : Int) < 8 := by omega
        have HB4 := Lib.hid hb4
        clear hw3 hw4 x0 x1 x2 x3 x4 hreg s0 hb4
        by_cases hz : l.reg xa = 0
        · have z1 : (((l.reg xa : Nat) : Int) != 0) = false := by rw [hz]; rfl
          have HRZ := HRR.out
          rw [if_pos hz] at HRZ
          have HRZ := Lib.hid HRZ
          clear hz HRR
          go_quiet (fail)
          have HB5 := Lib.hid (belowDr HB4.out nq)
          go_wp2_with (fail)
          generalize w4.drewN nq = w5 at *
          go_roundw
          case rel => exact .inl ⟨g1, a + 1, l, s2, sv1, by omega, by go_num, hnx, HRZ.out, by have := HL3.out; have := HLT.out; omega, HM3.out.below HB5.out, HC3.out.below HB5.out, HL1.out, HS3.out, HF3.out.trans (Fr.below HB5.out), by have := HSD3.out; omega⟩
          case measure => rw [sleft_at (HM3.out.below HB5.out), HML.out]; have := HL3.out; simp; omega
        · have z1 : (((l.reg xa : Nat) : Int) != 0) = true := by simp; omega
          have HRZ := HRR.out
          rw [if_neg hz] at HRZ
          have HRZ := Lib.hid HRZ
          clear hz HRR
          go_quiet (fail)
          have HB5 := Lib.hid (belowDr HB4.out nq)
          go_wp2_with (fail)
          generalize w4.drewN nq = w5 at *
          go_roundw
          case rel => exact .inl ⟨g1, xn, l, s2, sv1, by omega, rfl, hxn, HRZ.out, by have := HL3.out; have := HLT.out; omega, HM3.out.below HB5.out, HC3.out.below HB5.out, HL1.out, HS3.out, HF3.out.trans (Fr.below HB5.out), by have := HSD3.out; omega⟩
          case measure => rw [sleft_at (HM3.out.below HB5.out), HML.out]; have := HL3.out; simp; omega
      by_cases h22 : op = 22
      · subst h22
        have hR := HR2.out
        rw [if_pos rfl] at hR
        have HRR := Lib.hid hR
        have HE := Lib.hid (fun w4 (hb : Below (wo.setCell ⟨pr, 5, none⟩ (.int .i64 ((s1.left - 1 : Nat) : Int))).heap.size (wo.setCell ⟨pr, 5, none⟩ (.int .i64 ((s1.left - 1 : Nat) : Int))) w4) => (sRunPost_of (s := s2) HBDW.out (HF3.out.trans (Fr.below hb)) HHAS.out).1 (l.reg xa) (HM3.out.below hb))
        clear hR HR2
        go_wp2_with (fail)
        generalize hw3 : wo.setCell _ _ = w3 at *
        have hse : w3.heap.size = wo.heap.size := by rw [← hw3]; simp
        generalize hw4 : w3.alloc _ = w4 at *
        have x0 := boxed0 hw4
        obtain ⟨hb4, x1, x2, x3, x4⟩ := boxed hw4
        rw [hse] at x0 x1 x2 x3 x4
        obtain ⟨s0, _, _, _, _⟩ := scCells (HC3.out.below hb4)
        have hreg := (sregs (HC3.out.below hb4) HL1.out.regs).1 xa hxa8
        have y0 : ∀ m, (w4.drewN m).cell? ⟨wo.heap.size, 0, none⟩ = some (.int .i64 22) := fun _ => x0
        have HB4 := Lib.hid hb4
        have y1 : ∀ m, (w4.drewN m).cell? ⟨wo.heap.size, 1, none⟩ = some (.int .i64 (xa : Int)) := fun _ => x1
        have a0 : (0 : Int) ≤ xa := by omega
        have a1 : (xa : Int) < 8 := by omega
        clear hw3 hw4 x0 x1 x2 x3 x4 hb4
        go_quiet (fail)
        have HB5 := Lib.hid (belowDr HB4.out nq)
        have z0 := y0 nq
        have z1 := y1 nq
        have zs : ∀ m, ((w4.drewN nq).drewN m).cell? ⟨p.p0, 0, none⟩ = some (.slice (some ⟨p.p1, 0, none⟩) 8 8) := fun _ => s0
        have zr : ∀ m, ((w4.drewN nq).drewN m).cell? ⟨p.p1, xa, none⟩ = some (.int .i64 (l.reg xa : Int)) := fun _ => hreg
        have zb : ∀ m, ((w4.drewN nq).drewN m).cell? ⟨wo.heap.size, 1, none⟩ = some (.int .i64 (xa : Int)) := fun _ => y1 nq
        clear y0 y1 s0 hreg
        generalize w4.drewN nq = w5 at *
        go_wp2_with (fail)
        go_quiet (fail)
        go_wp2_with (fail)
        go_ret
        rw [← HRR.out]
        exact HE.out _ (belowDr HB5.out _)
      by_cases h14 : op = 14
      · subst h14
        have hR := HR2.out
        rw [if_neg (by simp), if_neg (by simp), if_neg (by simp), if_pos rfl] at hR
        have hnx := HNX.out (by simp) (by simp)
        have hxk : xn < k := HOK.out.call rfl
        have hxf : xn < fs.length := by rw [← HFL.out]; omega
        have hp3 : (machPg fs).par xn ≤ 3 := HP.out.par xn hxf
        have hlok := loop_ok HP.out g1 xn 0 (newLc (machPg fs) xn l.gives) s2 hxf (HP.out.start _ hxf) (newLc_ok _ _ _ (by rw [HL1.out.gives]; exact hp3) HL1.out.givesS) HS3.out
        have hlsd := loop_said (P := machPg fs) g1 xn 0 (newLc (machPg fs) xn l.gives) s2
        have hsp : ∀ w4, Below (wo.setCell ⟨pr, 5, none⟩ (.int .i64 ((s1.left - 1 : Nat) : Int))).heap.size (wo.setCell ⟨pr, 5, none⟩ (.int .i64 ((s1.left - 1 : Nat) : Int))) w4 → _ := fun w4 hb =>
          sp_14 w4 W0.heap.size pr cb (.slice (some ⟨vb, vo, none⟩) fl vcap) p par xa xb xc xn l s2 sv1 (loop (machPg fs) g1 xn 0 (newLc (machPg fs) xn l.gives) s2) (HM3.out.below hb) (HC3.out.below hb) (fun w5 hb5 =>
            HIH.out g1 (by omega) w5 pr cb T s2 sv1 xn p.p3 0 3 3 l.gives (by have := HL3.out; have := HLT.out; omega) hxf (HBW3.out.trans ((hb.trans (hb5.mono hb.size)).mono HBW3.out.size)) ((HM3.out.below hb).below hb5) HS3.out
              ⟨HL1.out.gives, Nat.le_refl _, by omega, fun i hi => by rw [Nat.zero_add]; exact sgives ((HC3.out.below hb).below hb5) (by rw [HL1.out.gives]; exact hi)⟩ HL1.out.givesS hp3 (Nat.le_refl _) (by have := HSD3.out; omega) hT)
        obtain ⟨r, hr⟩ : ∃ r, loop (machPg fs) g1 xn 0 (newLc (machPg fs) xn l.gives) s2 = r := ⟨_, rfl⟩
        rw [hr] at hR hlok hlsd
        simp only [hr] at hsp
        have HSP := Lib.hid hsp; have HRR := Lib.hid hR; have HLOK := Lib.hid hlok; have HLSD := Lib.hid hlsd
        clear hr hR HR2 hsp hlok hlsd HIH hxk hp3 hxf
        go_wp2_with (fail)
        generalize hw3 : wo.setCell _ _ = w3 at *
        have hse : w3.heap.size = wo.heap.size := by rw [← hw3]; simp
        generalize hw4 : w3.alloc _ = w4 at *
        have x0 := boxed0 hw4
        obtain ⟨hb4, x1, x2, x3, x4⟩ := boxed hw4
        rw [hse] at x0 x1 x2 x3 x4
        have y0 : ∀ m, (w4.drewN m).cell? ⟨wo.heap.size, 0, none⟩ = some (.int .i64 14) := fun _ => x0
        have HB4 := Lib.hid hb4
        clear hw3 hw4 hb4
        go_quiet (fail)
        have HB5 := Lib.hid (belowDr HB4.out nq)
        have z0 := y0 nq
        have z1 : (w4.drewN nq).cell? ⟨wo.heap.size, 1, none⟩ = some (.int .i64 (xa : Int)) := x1
        have z2 : (w4.drewN nq).cell? ⟨wo.heap.size, 2, none⟩ = some (.int .i64 (xb : Int)) := x2
        have z3 : (w4.drewN nq).cell? ⟨wo.heap.size, 3, none⟩ = some (.int .i64 (xc : Int)) := x3
        have z4 : (w4.drewN nq).cell? ⟨wo.heap.size, 4, none⟩ = some (.int .i64 (xn : Int)) := x4
        clear y0 x0 x1 x2 x3 x4
        generalize w4.drewN nq = w5 at *
        go_wp2_with (fail)
        go_at_call 110
        refine (HSP.out w5 HB5.out).mono ?_
        rintro e w6 ⟨rfl, w7, sv6, hw6, hM6, hF6⟩
        have hF7 := HF3.out.trans ((Fr.below HB5.out).trans (hF6.mono (fun x hx => List.mem_append_left _ hx)))
        have hC7 := ((HC3.out.below HB5.out).keep hF6).setRes r.val
        have hne := HC3.out.far p.p0 (.inl rfl)
        have hns : sv6.ownBlock ≠ some p.p0 := by
          intro e
          exact ((HC3.out.below HB5.out).keep hF6).far p.p0 (.inl rfl) |>.2.2 e
        have hM7 := hM6.other (a := ⟨p.p0, 4, none⟩) hne.1 hne.2.1 hns (.int .i64 (r.val : Int))
        have hF8 := hF7.setIn (a := ⟨p.p0, 4, none⟩) (by simp) (.int .i64 (r.val : Int))
        rw [← hw6] at hC7 hM7 hF8
        have HM7 := Lib.hid hM7; have HC7 := Lib.hid hC7; have HF8 := Lib.hid hF8
        have hRR := HRR.out
        clear hF7 hC7 hne hns hM7 hF8 hw6 hM6 hF6 z0 z1 z2 z3 z4 HSP HRR
        cases r with
        | ret v6 s6 =>
          have HRR2 := Lib.hid hRR
          obtain ⟨ho6, hv6, hle6⟩ := HLOK.out
          have hv6' : v6 < 256 := hv6
          have hle6' : s6.left ≤ s2.left := hle6
          have hsd6 : s6.said.length + s6.left ≤ s2.said.length + s2.left := HLSD.out
          have ho6' : CmOk s6 := ho6
          have HLC : Hid (LcOk par slo { l with res := v6 }) := Lib.hid ⟨HL1.out.regs, HL1.out.regsS, HL1.out.slots, HL1.out.slotsS, HL1.out.gives, HL1.out.givesS, HL1.out.args, HL1.out.argsS, hv6'⟩
          clear hRR HLOK HLSD ho6 hv6 hle6 hv6'
          go_wp2_with (fail)
          go_roundw
          case rel => exact .inl ⟨g1, a + 1, { l with res := v6 }, s6, sv6, by omega, by go_num, hnx, HRR2.out, by have := HL3.out; have := HLT.out; omega, HM7.out, HC7.out, HLC.out, ho6', HF8.out, by have := HSD3.out; omega⟩
          case measure => rw [sleft_at HM7.out, HML.out]; have := HL3.out; simp [Rs.cm, Rs.eno]; omega
        | stop en s6 =>
          have hle6' : s6.left ≤ s2.left := HLOK.out.2.2
          have HRR2 : Hid (R = Rs.stop en s6) := Lib.hid (Eq.symm hRR)
          clear hRR HLOK HLSD
          go_wp2_with (fail)
          go_roundw
          case rel => exact .inr ⟨a + 1, en, s6, sv6, by go_num, HRR2.out, HM7.out, HF8.out⟩
          case measure => rw [sleft_at HM7.out, HML.out]; have := HL3.out; simp [Rs.cm, Rs.eno]; omega
      have hR := HR2.out
      rw [if_neg h22, if_neg h20, if_neg h21, if_neg h14] at hR
      have HRR := Lib.hid hR
      have hnx := HNX.out h20 h22
      have e22 : ((op : Int) == 22) = false := by simp; omega
      have e20 : ((op : Int) == 20) = false := by simp; omega
      have e21 : ((op : Int) == 21) = false := by simp; omega
      have d21 : decide ((op : Int) = 21) = false := by simp; omega
      have HPL := Lib.hid (fun w4 (hb : Below (wo.setCell ⟨pr, 5, none⟩ (.int .i64 ((s1.left - 1 : Nat) : Int))).heap.size (wo.setCell ⟨pr, 5, none⟩ (.int .i64 ((s1.left - 1 : Nat) : Int))) w4) => plain22_any (slo := slo) w4 W0.heap.size pr cb _ p par k ⟨op, xa, xb, xc, xn⟩ l s2 sv1 (HM3.out.below hb) (HC3.out.below hb) HL1.out HS3.out HOK.out h14 (by simp only []; omega) hpar3 (by have := HSD3.out; omega) (by have := HBW3.out.size; have := hb.size; omega))
      simp only [Ni.val_mi] at HPL
      clear hR HR2
      go_wp2_with (fail)
      generalize hw3 : wo.setCell _ _ = w3 at *
      have hse : w3.heap.size = wo.heap.size := by rw [← hw3]; simp
      generalize hw4 : w3.alloc _ = w4 at *
      have x0 := boxed0 hw4
      obtain ⟨hb4, x1, x2, x3, x4⟩ := boxed hw4
      rw [hse] at x0 x1 x2 x3 x4
      have y0 : ∀ m, (w4.drewN m).cell? ⟨wo.heap.size, 0, none⟩ = some (.int .i64 (op : Int)) := fun _ => x0
      have HB4 := Lib.hid hb4
      have hbe : w4.heap.size = wo.heap.size + 1 := by rw [← hw4]; simp [hse]
      clear hw3 hw4 hb4
      go_quiet (fail)
      have HB5 := Lib.hid (belowDr HB4.out nq)
      have z0 := y0 nq
      have z1 : (w4.drewN nq).cell? ⟨wo.heap.size, 1, none⟩ = some (.int .i64 (xa : Int)) := x1
      have z2 : (w4.drewN nq).cell? ⟨wo.heap.size, 2, none⟩ = some (.int .i64 (xb : Int)) := x2
      have z3 : (w4.drewN nq).cell? ⟨wo.heap.size, 3, none⟩ = some (.int .i64 (xc : Int)) := x3
      have z4 : (w4.drewN nq).cell? ⟨wo.heap.size, 4, none⟩ = some (.int .i64 (xn : Int)) := x4
      clear y0 x0 x1 x2 x3 x4
      generalize w4.drewN nq = w5 at *
      go_wp2_with (fail)
      go_at_call 110
      refine (HPL.out w5 HB5.out).mono ?_
      rintro e w6 hpost
      unfold SPost at hpost
      have hRR := HRR.out
      cases hp : plainOp ⟨op, xa, xb, xc, xn⟩ l s2 with
      | inl ls =>
        obtain ⟨l6, s6⟩ := ls
        obtain ⟨hl6, hs6, hle6⟩ := plainOp_ok HL1.out HS3.out HOK.out hp
        have hsd6 := plainOp_said hp
        rw [hp] at hpost hRR
        obtain ⟨rfl, sv6, hM6, hC6, hF6⟩ := hpost
        have HRR2 := Lib.hid hRR
        have HM6 := Lib.hid hM6; have HC6 := Lib.hid hC6; have HF6 := Lib.hid (HF3.out.trans ((Fr.below HB5.out).trans hF6)); have HL6 := Lib.hid hl6; have HS6 := Lib.hid hs6; have HSD6 := Lib.hid hsd6
        clear hRR hM6 hC6 hF6 hl6 hs6 hle6 hsd6 hp HRR HPL
        go_wp2_with (fail)
        go_roundw
        case rel => exact .inl ⟨g1, a + 1, l6, s6, sv6, by omega, by go_num, hnx, HRR2.out, by have := HL3.out; have := HLT.out; have := HSD6.out.2; omega, HM6.out, HC6.out, HL6.out, HS6.out, HF6.out, by have := HSD3.out; have := HSD6.out; omega⟩
        case measure => rw [sleft_at HM6.out, HML.out]; have := HL3.out; have := HSD6.out.2; simp; omega
      | inr en =>
        rw [hp] at hpost hRR
        obtain ⟨rfl, hM6, hF6⟩ := hpost
        have HM6 := Lib.hid hM6
        have HF6 := Lib.hid (HF3.out.trans ((Fr.below HB5.out).trans (hF6.mono (fun x hx => List.mem_append_left _ hx))))
        have HRR2 := Lib.hid hRR
        clear hRR hM6 hF6 hp HRR HPL
        go_wp2_with (fail)
        go_roundw
        case rel => exact .inr ⟨a + 1, en, s2, sv1, by go_num, HRR2.out.symm, HM6.out, HF6.out⟩
        case measure => rw [sleft_at HM6.out, HML.out]; have := HL3.out; simp; omega

end Go.Proofs.YtbdbmmdnidonjaaDoor
