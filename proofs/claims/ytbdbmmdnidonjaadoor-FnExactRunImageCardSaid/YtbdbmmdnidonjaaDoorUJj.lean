/- A call of a function of the machine in spec: what its beginning makes. A call within a call of the machine, in spec: plain at op 14. And copy into a row. A call of a function of the machine in spec: the walk. -/
import Derived.Test.YtbdbmmdnidonjaaDoorUJf
import Derived.Test.YtbdbmmdnidonjaaDoorUJg
import Derived.Test.YtbdbmmdnidonjaaDoorUJh
import Derived.Laws.CopyOwn
import Derived.Deep.CutRange
import Derived.Test.YtbdbmmdnidonjaaDoorUJi
import Derived.Deep.RegionLaw
set_option linter.unusedVariables false
set_option linter.unusedSimpArgs false
set_option maxRecDepth 100000
namespace Go.Proofs.YtbdbmmdnidonjaaDoor
open Go.RowKit
def SNew (w : World) (slo : Nat) (p : Ps) (wx : World) : Prop :=
 Below w.heap.size w wx ∧ (∀ q, p.has q → w.heap.size ≤ q) ∧ p.Apart ∧ Blk wx p.p0 (mkSc p slo 0) ∧ Blk wx p.p1 (nats (List.replicate 8 0)) ∧ Blk wx p.p2 (nats (List.replicate slo 0)) ∧ Blk wx p.p3 (nats (List.replicate 3 0)) ∧ Blk wx p.p4 (nats (List.replicate 3 0))
theorem Blk.newAt {X : World} {p : Nat} {cs : Array Value} {t : TypeId} {xs : List Value} (h : p = X.heap.size) (hx : cs.toList = xs) : Blk (X.alloc (.cells cs t)) p xs := by
 subst h; subst hx; exact Blk.new _ _ _
theorem made_nats (n : Nat) : (madeCells (Value.int .i64 0).cells n).toList = nats (List.replicate n 0) := by rw [← nats_zeros]; exact toList_madeCells_one _ _
theorem Blk.setRow {w : World} {p : Nat} {xs : List Value} (h : Blk w p xs) (cs : Array Value) : Blk (w.setRow p cs) p cs.toList := by
 obtain ⟨cur, t, h, _⟩ := h
 exact ⟨cs, t, by simp [World.setRow, Array.getElem?_modify, h], rfl⟩
/-- the measure: the steps that are left, and one if the run is not over -/
def sleft (pr : Nat) (w : World) : Nat := (intOf ((w.cell? ⟨pr, 5, none⟩).getD (.int .i64 0))).toNat + (match w.cell? ⟨pr, 6, none⟩ with | some (.bool true) => 0 | _ => 1)
theorem sleft_at {B pr cb : Nat} {mv : Value} {en : Option Nat} {s : Cm} {sv : Value} {w : World} (h : RunAt B w pr cb mv en s sv) : sleft pr w = s.left + (if en.isSome then 0 else 1) := by
 obtain ⟨_, _, _, _, _, h5, h6, _⟩ := runCells h
 unfold sleft
 rw [h5, h6]
 cases en <;> simp [intOf]
end Go.Proofs.YtbdbmmdnidonjaaDoor
set_option maxRecDepth 100000
namespace Go.Proofs.YtbdbmmdnidonjaaDoor
open Go.RowKit
def Rs.eno : Rs → Option Nat
 |.ret _ _ => none
 |.stop e _ => some e
theorem snew_of {wf X : World} {slo q0 q1 q2 q3 q4 : Nat} {t : TypeId} (h0 : q0 = X.heap.size) (hb : Below wf.heap.size wf X) (h1 : Blk X q1 (nats (List.replicate 8 0))) (h2 : Blk X q2 (nats (List.replicate slo 0))) (h3 : Blk X q3 (nats (List.replicate 3 0))) (h4 : Blk X q4 (nats (List.replicate 3 0)))
  (g1 : wf.heap.size ≤ q1) (g2 : wf.heap.size ≤ q2) (g3 : wf.heap.size ≤ q3) (g4 : wf.heap.size ≤ q4) (d : q1 ≠ q2 ∧ q1 ≠ q3 ∧ q1 ≠ q4 ∧ q2 ≠ q3 ∧ q2 ≠ q4 ∧ q3 ≠ q4) :
  ∃ p, Value.pointer (some ⟨q0, 0, none⟩) = Value.pointer (some ⟨Ps.p0 p, 0, none⟩) ∧ SNew wf slo p (X.alloc (.cells #[.slice (some ⟨q1, 0, none⟩) 8 8, .slice (some ⟨q2, 0, none⟩) slo slo, .slice (some ⟨q3, 0, none⟩) 3 3, .slice (some ⟨q4, 0, none⟩) 3 3, .int .i64 0] t)).drew := by
 have l1 := h1.lt
 have l2 := h2.lt
 have l3 := h3.lt
 have l4 := h4.lt
 have hsz := hb.size
 refine ⟨⟨q0, q1, q2, q3, q4⟩, rfl, (hb.alloc hsz _).drew, ?_, ⟨by simp only []; omega, by simp only []; omega, by simp only []; omega, by simp only []; omega, d.1, d.2.1, d.2.2.1, d.2.2.2.1, d.2.2.2.2.1, d.2.2.2.2.2⟩, Blk.newAt h0 rfl, h1.alloc _, h2.alloc _, h3.alloc _, h4.alloc _⟩
 intro q hq
 rcases hq with h | h | h | h | h <;> (simp only [] at h; omega)
theorem wpList_copy_row {P : Program} {w : World} {ops : Array Oper} {rest : List Oper} {o : Oper} {a : Act} {Q : Exit → Act → World → Prop} (hgd : o.guard = none) (d s : Operand) (dT sT : TypeId)
  (ho : o.op = .call { callee := .builtin .copy, args := #[d, s], argTypes := #[dT, sT] }) (elem : TypeId) (hu : P.underlying dT = some (.slice elem)) (hsz : (P.info? elem).map (·.size) = some 1)
  (g dLen dCap : Nat) (ad : Addr) (sLen sCap : Nat) (hd : a.eval d = .slice (some ⟨g, 0, none⟩) dLen dCap) (hs : a.eval s = .slice (some ad) sLen sCap)
  (xs : List Value) (hb : Blk w g xs) (cs : List Value) (hn : cs.length = Nat.min sLen dLen) (hsrc : ∀ j v, cs[j]? = some v → w.cell? (ad.add j) = some v) (hfit : cs.length ≤ xs.length) (h1 : ∀ v ∈ cs, v.oneCell' = true)
  (h : ∀ w', Blk w' g (cs ++ xs.drop cs.length) → Only [g] w w' → wpList P ops Q rest (a.put o.dst (goInt cs.length)) w') : wpList P ops Q (o :: rest) a w := by
 by_cases h0 : cs.length = 0
 ·obtain rfl : cs = [] := List.eq_nil_of_length_eq_zero h0
  refine wpList_copy_nothing hgd d s dT sT ho elem hu hsz _ _ dLen dCap sLen sCap hd hs (by simpa using hn.symm) ?_
  exact h w (by simpa using hb) (Only.refl _ _)
 ·obtain ⟨cur, t, hg, rfl⟩ := hb
  refine wpList_copy_own hgd d s dT sT ho elem hu hsz g 0 dLen dCap ad sLen sCap hd hs cur t hg cs hn hsrc (by simpa using hfit) h1 ?_
  refine h _ ?_ ⟨rfl, rfl, rfl, by simp [World.setRow], fun k _ hk => setRow_other w g k _ (by simpa using hk)⟩
  have hB : Blk w g cur.toList := ⟨cur, t, hg, rfl⟩
  have := hB.setRow (cur.toList.take 0 ++ (cs ++ cur.toList.drop (0 + cs.length))).toArray
  simpa using this
end Go.Proofs.YtbdbmmdnidonjaaDoor
set_option maxRecDepth 100000
namespace Go.Proofs.YtbdbmmdnidonjaaDoor
open Go.RowKit
end Go.Proofs.YtbdbmmdnidonjaaDoor
