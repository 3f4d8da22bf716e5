/- Bytes of instructions in plain words: shapes, sizes, places, which jumps are long. No program in sight. The bytes of one instruction: impl's shapeOf, encoded, jumpOp; the reference's l24Jumps, l25Plain, l25Size. The bytes of one instruction on the reference's side: l24Jumps, l25Plain, l25Size. The places of instructions on the reference's side: l25Places. Which jumps are long, on the reference's side: l25Long. Where a number stands in a row: the reference's l10At. -/
import Derived.Test.YtbdbmmdnidonjaaDoorUJc
import Derived.Test.YtbdbmmdnidonjaaDoorUJk
import Derived.BigQuiet
import Derived.Test.YtbdbmmdnidonjaaDoorUJb
import Derived.Deep.RegionHeld3
import Derived.Test.YtbdbmmdnidonjaaDoorUJg
set_option linter.unusedVariables false
set_option linter.unusedSimpArgs false
set_option maxRecDepth 100000
namespace Go.Proofs.YtbdbmmdnidonjaaDoor
open Go.RowKit
def shN (op : Nat) : Nat :=
 if op = 1 ∨ op = 15 ∨ op = 16 ∨ op = 17 ∨ op = 18 then 0 else if op = 2 ∨ op = 10 ∨ op = 11 ∨ op = 12 then 1 else if op = 13 ∨ op = 19 ∨ op = 22 then 3
 else if op = 14 then 4 else if op = 20 ∨ op = 21 then 5 else 2
def jmpN (op : Nat) : Bool := op == 20 || op == 21
/-- an instruction whose fields fit into bytes -/
structure BOk (x : Ni) : Prop where
 op : 1 ≤ x.op ∧ x.op ≤ 22
 a : x.a < 8
 b : x.b < 8
 c : x.c < 8
 n : shN x.op = 0 ∨ shN x.op = 4 → x.n < 256
/-- the bytes of an instruction that is no jump -/
def encB (x : Ni) : List Nat :=
 if shN x.op = 0 then [x.op, x.a, x.n] else if shN x.op = 1 then [x.op, x.a + 8 * x.b] else if shN x.op = 2 then [x.op, x.a + 8 * x.b, x.c] else if shN x.op = 4 then [x.op, x.n] else [x.op, x.a]
def sizN (x : Ni) (long : Bool) : Nat := if jmpN x.op then 2 + (if x.op = 21 then 1 else 0) + (if long then 1 else 0) else (encB x).length
theorem sizN_le (x : Ni) (long : Bool) : 2 ≤ sizN x long ∧ sizN x long ≤ 4 := by
 unfold sizN encB
 repeat' split
 all_goals simp
def niAt (xs : List Ni) (i : Nat) : Ni := xs.getD i ⟨0, 0, 0, 0, 0⟩
/-- the byte at which instruction i begins -/
def plcN (xs : List Ni) (lg : List Bool) : Nat → Nat
 |0 => 0
 |i + 1 => plcN xs lg i + sizN (niAt xs i) (lg.getD i false)
def offN (xs : List Ni) (lg : List Bool) (i : Nat) : Int := (plcN xs lg (niAt xs i).n : Int) - plcN xs lg i - sizN (niAt xs i) (lg.getD i false)
/-- must this jump become long? -/
def needN (xs : List Ni) (lg : List Bool) (i : Nat) : Bool := jmpN (niAt xs i).op && !lg.getD i false && !(decide (-128 ≤ offN xs lg i) && decide (offN xs lg i ≤ 127))
def nextN (xs : List Ni) (lg : List Bool) : List Bool := (List.range xs.length).map fun i => lg.getD i false || needN xs lg i
def longF (xs : List Ni) : Nat → List Bool → List Bool
 |0, lg => lg
 |k + 1, lg => if (List.range xs.length).any (needN xs lg) then longF xs k (nextN xs lg) else lg
def longN (xs : List Ni) : List Bool := longF xs (xs.length + 1) (List.replicate xs.length false)
def totN (xs : List Ni) (lg : List Bool) : Nat := plcN xs lg xs.length
def encI (xs : List Ni) (lg : List Bool) (i : Nat) : List Nat :=
 if jmpN (niAt xs i).op then
  ((niAt xs i).op + (if lg.getD i false then 128 else 0)) :: ((if (niAt xs i).op = 21 then [(niAt xs i).a] else []) ++
   (if lg.getD i false then [plcN xs lg (niAt xs i).n % 256, plcN xs lg (niAt xs i).n / 256] else [((offN xs lg i + 256) % 256).toNat]))
 else encB (niAt xs i)
def encF (xs : List Ni) (lg : List Bool) : Nat → List Nat
 |0 => []
 |i + 1 => encF xs lg i ++ encI xs lg i
theorem plcN_le (xs : List Ni) (lg : List Bool) : ∀ i, plcN xs lg i ≤ 4 * i
 |0 => Nat.le_refl _
 |i + 1 => by
  have h1 := plcN_le xs lg i
  have h2 := (sizN_le (niAt xs i) (lg.getD i false)).2
  show plcN xs lg i + _ ≤ _
  omega
theorem nextN_len (xs : List Ni) (lg : List Bool) : (nextN xs lg).length = xs.length := by simp [nextN]
theorem nextN_get {xs : List Ni} (lg : List Bool) {i : Nat} (h : i < xs.length) : (nextN xs lg).getD i false = (lg.getD i false || needN xs lg i) := by
 simp [nextN, List.getD_eq_getElem?_getD, h]
/-- how many jumps are short yet -/
def shortN : List Bool → Nat
 |[] => 0
 |b :: l => (if b then 0 else 1) + shortN l
theorem count_le : ∀ (a b : List Bool), a.length = b.length → (∀ i, a.getD i false = true → b.getD i false = true) → shortN b ≤ shortN a
 |[], [], _, _ => Nat.le_refl _
 |[], _ :: _, h, _ => by simp at h
 |_ :: _, [], h, _ => by simp at h
 |x :: a, y :: b, hl, hm => by
  have h := count_le a b (by simpa using hl) (fun i h => by have := hm (i + 1); simpa using this (by simpa using h))
  have h0 := hm 0
  simp only [List.getD_cons_zero] at h0
  unfold shortN
  cases x <;> cases y <;> simp at h0 ⊢ <;> omega
theorem count_lt : ∀ (a b : List Bool), a.length = b.length → (∀ i, a.getD i false = true → b.getD i false = true) → (∃ i, i < a.length ∧ a.getD i false = false ∧ b.getD i false = true) → shortN b < shortN a
 |[], _, _, _, ⟨i, hi, _⟩ => by simp at hi
 |_ :: _, [], h, _, _ => by simp at h
 |x :: a, y :: b, hl, hm, ⟨i, hi, h1, h2⟩ => by
  have hl' : a.length = b.length := by simpa using hl
  have hm' : ∀ i, a.getD i false = true → b.getD i false = true := fun i h => by have := hm (i + 1); simpa using this (by simpa using h)
  cases i with
  |zero =>
   have h1 : x = false := by simpa using h1
   have h2 : y = true := by simpa using h2
   subst h1 h2
   have hle := count_le a b hl' hm'
   unfold shortN
   simp
   omega
  |succ i =>
   have h := count_lt a b hl' hm' ⟨i, by simpa using hi, by simpa using h1, by simpa using h2⟩
   have h0 := hm 0
   simp only [List.getD_cons_zero] at h0
   unfold shortN
   cases x <;> cases y <;> simp at h0 ⊢ <;> omega
theorem shortN_le : ∀ lg : List Bool, shortN lg ≤ lg.length
 |[] => Nat.le_refl _
 |b :: l => by
  have := shortN_le l
  unfold shortN
  cases b <;> simp <;> omega
theorem short_next {xs : List Ni} {lg : List Bool} (hl : lg.length = xs.length) (h : (List.range xs.length).any (needN xs lg) = true) : shortN (nextN xs lg) < shortN lg := by
 obtain ⟨i, hi, hn⟩ := List.any_eq_true.1 h
 have hi : i < xs.length := by simpa using hi
 refine count_lt lg (nextN xs lg) (by rw [nextN_len, hl]) (fun j hj => ?_) ⟨i, by omega, ?_, ?_⟩
 ·rcases Nat.lt_or_ge j xs.length with h | h
  ·rw [nextN_get lg h, hj]; rfl
  ·rw [List.getD_eq_getElem?_getD, List.getElem?_eq_none (by omega)] at hj; cases hj
 ·unfold needN at hn
  simp only [Bool.and_eq_true, Bool.not_eq_true'] at hn
  exact hn.1.2
 ·rw [nextN_get lg hi, hn]; simp
/-- the rounds come to an end: with enough of them, one more does nothing -/
theorem longF_end (xs : List Ni) : ∀ k lg, lg.length = xs.length → shortN lg < k → (List.range xs.length).any (needN xs (longF xs k lg)) = false ∧ (longF xs k lg).length = xs.length
 |0, _, _, h => by omega
 |k + 1, lg, hl, h => by
  unfold longF
  cases hn : (List.range xs.length).any (needN xs lg) with
  |false => rw [if_neg (by simp)]; exact ⟨hn, hl⟩
  |true =>
   rw [if_pos rfl]
   exact longF_end xs k _ (nextN_len _ _) (by have := short_next hl hn; omega)
/-- the number of rounds does not matter when there are enough -/
theorem longF_enough (xs : List Ni) : ∀ k m lg, lg.length = xs.length → shortN lg < k → shortN lg < m → longF xs k lg = longF xs m lg
 |0, _, _, _, h, _ => by omega
 |_ + 1, 0, _, _, _, h => by omega
 |k + 1, m + 1, lg, hl, h1, h2 => by
  unfold longF
  cases hn : (List.range xs.length).any (needN xs lg) with
  |false => rw [if_neg (by simp), if_neg (by simp)]
  |true =>
   rw [if_pos rfl, if_pos rfl]
   have := short_next hl hn
   exact longF_enough xs k m _ (nextN_len _ _) (by omega) (by omega)
theorem longN_step {xs : List Ni} {lg : List Bool} (hl : lg.length = xs.length) : longF xs (xs.length + 1) lg = if (List.range xs.length).any (needN xs lg) then longF xs (xs.length + 1) (nextN xs lg) else lg := by
 have h0 := shortN_le lg
 rw [longF_enough xs (xs.length + 1) (xs.length + 2) lg hl (by omega) (by omega)]
 rw [longF]
end Go.Proofs.YtbdbmmdnidonjaaDoor
set_option maxRecDepth 100000
namespace Go.Proofs.YtbdbmmdnidonjaaDoor
open Go.RowKit
theorem box5 {w w1 : World} {v0 v1 v2 v3 v4 : Value} {t : TypeId} (h : w.alloc (.cells #[v0, v1, v2, v3, v4] t) = w1) :
  Below w.heap.size w w1 ∧ w1.cell? ⟨w.heap.size, 0, none⟩ = some v0 ∧ w1.cell? ⟨w.heap.size, 1, none⟩ = some v1 ∧ w1.cell? ⟨w.heap.size, 2, none⟩ = some v2 ∧ w1.cell? ⟨w.heap.size, 3, none⟩ = some v3 ∧ w1.cell? ⟨w.heap.size, 4, none⟩ = some v4 := by
 subst h
 have hB := Blk.new w #[v0, v1, v2, v3, v4] t
 refine ⟨below1 _ _, ?_, ?_, ?_, ?_, ?_⟩
 all_goals rw [hB.cell]; rfl
def u8s (bs : List Nat) : List Value := bs.map fun (n : Nat) => Value.int .u8 (n : Int)
theorem u8s_len (bs : List Nat) : (u8s bs).length = bs.length := by simp [u8s]
/-- a new slice of bytes -/
def NewU8 (bs : List Nat) (w : World) (e : Ending) (w' : World) : Prop :=
 ∃ g c, e = .returned (.slice (some ⟨g, 0, none⟩) bs.length c) ∧ w'.ownsRow w.heap.size 5 1 (.slice (some ⟨g, 0, none⟩) bs.length c) bs.length (u8s bs) ∧ Below w.heap.size w w'
theorem newU8_lit {w X : World} {bs : List Nat} {cs : Array Value} {q n : Nat} (hq : q = X.heap.size) (hb : Below w.heap.size w X) (hc : cs.toList = u8s bs) (hn : n = bs.length) (hl : bs.length ≤ 1000) : NewU8 bs w (.returned (.slice (some ⟨q, 0, none⟩) n n)) (X.alloc (.cells cs 5)) := by
 subst hq hn
 have hs := hb.size
 have hcs : cs.size = bs.length := by rw [← Array.length_toList, hc, u8s_len]
 refine ⟨_, _, rfl, ?_, hb.alloc hs _⟩
 have := World.ownsRow_lit (base := w.heap.size) (e := 5) (size := 1) X cs bs.length hs (by unfold maxLen; omega) (by omega)
 rw [hc] at this
 exact this
set_option maxHeartbeats 2000000 in
theorem shape_any (w : World) (op : Nat) (h1 : 1 ≤ op) (h2 : op ≤ 22) : Calls Tryd.prog 143 #[.int .i64 (op : Int)] w fun e w' => e = .returned (.int .i64 ((shN op : Nat) : Int)) ∧ w = w' := by
 rcases (show op = 1 ∨ op = 2 ∨ op = 3 ∨ op = 4 ∨ op = 5 ∨ op = 6 ∨ op = 7 ∨ op = 8 ∨ op = 9 ∨ op = 10 ∨ op = 11 ∨ op = 12 ∨ op = 13 ∨ op = 14 ∨ op = 15 ∨ op = 16 ∨ op = 17 ∨ op = 18 ∨ op = 19 ∨ op = 20 ∨ op = 21 ∨ op = 22 by omega) with rfl | rfl | rfl | rfl | rfl | rfl | rfl | rfl | rfl | rfl | rfl | rfl | rfl | rfl | rfl | rfl | rfl | rfl | rfl | rfl | rfl | rfl
 all_goals
  go_enter Tryd.func143, Tryd.ntmps143
  go_wp2
  go_ret
  exact ⟨rfl, rfl⟩
theorem jump_any (w : World) (op : Nat) : Calls Tryd.prog 120 #[.int .i64 (op : Int)] w fun e w' => e = .returned (.bool (jmpN op)) ∧ w = w' := by
 unfold jmpN
 by_cases e20 : op = 20
 ·subst e20
  go_enter Tryd.func120, Tryd.ntmps120
  go_wp2
  go_ret
  exact ⟨rfl, rfl⟩
 ·have b20 : ((op : Int) == 20) = false := by simp; omega
  by_cases e21 : op = 21
  ·subst e21
   go_enter Tryd.func120, Tryd.ntmps120
   go_wp2
   go_ret
   exact ⟨rfl, rfl⟩
  ·have b21 : ((op : Int) == 21) = false := by simp; omega
   have c20 : (op == 20) = false := by simpa using e20
   have c21 : (op == 21) = false := by simpa using e21
   rw [c20, c21]
   go_enter Tryd.func120, Tryd.ntmps120
   go_wp2
   go_ret
   exact ⟨rfl, rfl⟩
theorem u8_small (n : Nat) (h : n < 256) : IntKind.u8.wrap (n : Int) = (n : Int) := by
 unfold IntKind.wrap
 simp [IntKind.signed, IntKind.bits]
 omega
set_option maxHeartbeats 4000000 in
theorem encoded_any (w : World) (x : Ni) (hx : BOk x) (hj : jmpN x.op = false) : Calls Tryd.prog 147 #[.agg #[.int .i64 (x.op : Int), .int .i64 (x.a : Int), .int .i64 (x.b : Int), .int .i64 (x.c : Int), .int .i64 (x.n : Int)]] w (NewU8 (encB x) w) := by
 obtain ⟨op, a, b, c, n⟩ := x
 obtain ⟨⟨h1, h2⟩, ha, hb, hc, hn⟩ := hx
 simp only at h1 h2 ha hb hc hn hj ⊢
 have HSH := Lib.hid (fun w' => shape_any w' op h1 h2)
 obtain ⟨sh, hsh⟩ : ∃ sh, sh = shN op := ⟨_, rfl⟩
 rw [← hsh] at HSH hn
 have hs5 : sh ≠ 5 := by
  intro e
  rw [e] at hsh
  unfold shN at hsh
  unfold jmpN at hj
  simp only [Bool.or_eq_false_iff, beq_eq_false_iff_ne] at hj
  repeat' split at hsh
  all_goals omega
 have hs6 : sh ≤ 5 := by
  rw [hsh]; unfold shN
  repeat' split
  all_goals omega
 have HE : Hid (∀ bs, (if sh = 0 then [op, a, n] else if sh = 1 then [op, a + 8 * b] else if sh = 2 then [op, a + 8 * b, c] else if sh = 4 then [op, n] else [op, a]) = bs → NewU8 bs w = NewU8 (encB ⟨op, a, b, c, n⟩) w) := Lib.hid fun bs h => by rw [← h, hsh]; rfl
 have HN := Lib.hid hn
 have e0 : IntKind.u8.wrap (op : Int) = (op : Int) := u8_small op (by omega)
 have e1 : IntKind.u8.wrap (a : Int) = (a : Int) := u8_small a (by omega)
 have e2 : IntKind.u8.wrap (b : Int) = (b : Int) := u8_small b (by omega)
 have e3 : IntKind.u8.wrap (c : Int) = (c : Int) := u8_small c (by omega)
 have e4 : IntKind.u8.wrap (8 * (b : Int)) = 8 * (b : Int) := by have := u8_small (8 * b) (by omega); simpa using this
 have e5 : IntKind.u8.wrap ((a : Int) + 8 * (b : Int)) = (a : Int) + 8 * (b : Int) := by have := u8_small (a + 8 * b) (by omega); simpa using this
 have E0 := Lib.hid e0; have E1 := Lib.hid e1; have E2 := Lib.hid e2; have E3 := Lib.hid e3; have E4 := Lib.hid e4; have E5 := Lib.hid e5
 clear hn hsh hj e0 e1 e2 e3 e4 e5
 go_enter Tryd.func147, Tryd.ntmps147
 go_wp2_with (fail)
 generalize hw1 : w.alloc _ = w1
 obtain ⟨hb1, x0, x1, x2, x3, x4⟩ := box5 hw1
 have y0 : ∀ m, (w1.drewN m).cell? ⟨w.heap.size, 0, none⟩ = some (.int .i64 (op : Int)) := fun _ => x0
 have y1 : ∀ m, (w1.drewN m).cell? ⟨w.heap.size, 1, none⟩ = some (.int .i64 (a : Int)) := fun _ => x1
 have e0 := E0.out; have e1 := E1.out
 have HB1 := Lib.hid hb1
 clear hw1 hb1
 go_quiet (fail)
 have HB2 := Lib.hid (belowDrewN HB1.out nq)
 have z0 := y0 nq
 have z2 : (w1.drewN nq).cell? ⟨w.heap.size, 2, none⟩ = some (.int .i64 (b : Int)) := x2
 have z3 : (w1.drewN nq).cell? ⟨w.heap.size, 3, none⟩ = some (.int .i64 (c : Int)) := x3
 have z4 : (w1.drewN nq).cell? ⟨w.heap.size, 4, none⟩ = some (.int .i64 (n : Int)) := x4
 clear y0 y1 x0 x1 x2 x3 x4 e0 e1 HB1
 generalize w1.drewN nq = w2 at *
 go_wp2_with (fail)
 go_at_call 143
 refine (HSH.out w2).mono ?_
 rintro e _ ⟨rfl, rfl⟩
 clear HSH z0
 rcases (show sh = 0 ∨ sh = 1 ∨ sh = 2 ∨ sh = 3 ∨ sh = 4 by omega) with rfl | rfl | rfl | rfl | rfl
 ·have e4 := u8_small n (HN.out (.inl rfl))
  go_wp2_with (fail)
  go_ret
  rw [← HE.out _ rfl]
  exact newU8_lit rfl HB2.out (by simp [u8s]) rfl (by simp)
 ·have e2 := E2.out; have e4 := E4.out; have e5 := E5.out
  go_wp2_with (fail)
  go_ret
  rw [← HE.out _ rfl]
  exact newU8_lit rfl HB2.out (by simp [u8s]) rfl (by simp)
 ·have e2 := E2.out; have e3 := E3.out; have e4 := E4.out; have e5 := E5.out
  go_wp2_with (fail)
  go_ret
  rw [← HE.out _ rfl]
  exact newU8_lit rfl HB2.out (by simp [u8s]) rfl (by simp)
 ·go_wp2_with (fail)
  go_ret
  rw [← HE.out _ rfl]
  exact newU8_lit rfl HB2.out (by simp [u8s]) rfl (by simp)
 ·have e4 := u8_small n (HN.out (.inr rfl))
  go_wp2_with (fail)
  go_ret
  rw [← HE.out _ rfl]
  exact newU8_lit rfl HB2.out (by simp [u8s]) rfl (by simp)
end Go.Proofs.YtbdbmmdnidonjaaDoor
set_option maxRecDepth 100000
namespace Go.Proofs.YtbdbmmdnidonjaaDoor
open Go.RowKit
theorem cellB {w w' : World} (h : Below w.heap.size w w') {a : Addr} {v : Value} (hc : w.cell? a = some v) : w'.cell? a = some v := by
 rw [h.cell (World.block_lt_of_cell? w a hc)]
 exact hc
theorem sjump_any (w : World) (op : Nat) (a b c n : Int) : Calls Tryd.prog 116 #[.agg #[.int .i64 (op : Int), .int .i64 a, .int .i64 b, .int .i64 c, .int .i64 n]] w fun e w' => e = .returned (.bool (jmpN op)) ∧ Below w.heap.size w w' := by
 unfold jmpN
 by_cases e20 : op = 20
 ·subst e20
  go_enter Tryd.func116, Tryd.ntmps116
  go_wp2_with (fail)
  generalize hw1 : w.alloc _ = w1
  obtain ⟨hb1, x0, x1, x2, x3, x4⟩ := box5 hw1
  have HB1 := Lib.hid hb1
  clear hw1 hb1 x1 x2 x3 x4
  go_wp2_with (fail)
  go_ret
  exact ⟨rfl, HB1.out⟩
 ·have b20 : ((op : Int) == 20) = false := by simp; omega
  have c20 : (op == 20) = false := by simpa using e20
  rw [c20]
  obtain ⟨p, hp⟩ : ∃ p, p = (op == 21) := ⟨_, rfl⟩
  have b21 : ((op : Int) == 21) = p := by rw [hp, Bool.eq_iff_iff]; simp <;> omega
  rw [← hp]
  clear hp c20 e20
  go_enter Tryd.func116, Tryd.ntmps116
  go_wp2_with (fail)
  generalize hw1 : w.alloc _ = w1
  obtain ⟨hb1, x0, x1, x2, x3, x4⟩ := box5 hw1
  have HB1 := Lib.hid hb1
  clear hw1 hb1 x1 x2 x3 x4
  go_wp2_with (fail)
  go_ret
  exact ⟨by simp, HB1.out⟩
set_option maxHeartbeats 2000000 in
set_option linter.unusedVariables false in
theorem plain_a (w : World) (op a b c n : Nat) (ha : a < 8) (hb : b < 8) (hc : c < 8) (hn : shN op = 0 ∨ shN op = 4 → n < 256) (h : op = 1) : Calls Tryd.prog 142 #[.agg #[.int .i64 (op : Int), .int .i64 (a : Int), .int .i64 (b : Int), .int .i64 (c : Int), .int .i64 (n : Int)]] w (NewU8 [op, a, n] w) := by
 have hn : n < 256 := hn (by unfold shN; first | (left; rw [if_pos (by omega)]) | (right; subst h; rfl))
 have e4 : IntKind.u8.wrap (n : Int) = (n : Int) := u8_small n hn
 have E4 := Lib.hid e4
 clear e4
 have e0 : IntKind.u8.wrap (op : Int) = (op : Int) := u8_small op (by omega)
 have E0 := Lib.hid e0
 clear e0
 have e1 : IntKind.u8.wrap (a : Int) = (a : Int) := u8_small a (by omega)
 have E1 := Lib.hid e1
 clear e1
 subst h
 have e0 := E0.out
 have e1 := E1.out
 have e4 := E4.out
 clear ha hb hc
 go_enter Tryd.func142, Tryd.ntmps142
 go_wp2_with (fail)
 go_ret
 exact newU8_lit (by simp) (below1 _ _) (by first | rfl | (simp [u8s]; done)) rfl (by simp)
set_option maxHeartbeats 2000000 in
set_option linter.unusedVariables false in
theorem plain_b (w : World) (op a b c n : Nat) (ha : a < 8) (hb : b < 8) (hc : c < 8) (hn : shN op = 0 ∨ shN op = 4 → n < 256) (h : 15 ≤ op ∧ op ≤ 18) : Calls Tryd.prog 142 #[.agg #[.int .i64 (op : Int), .int .i64 (a : Int), .int .i64 (b : Int), .int .i64 (c : Int), .int .i64 (n : Int)]] w (NewU8 [op, a, n] w) := by
 have hn : n < 256 := hn (by unfold shN; first | (left; rw [if_pos (by omega)]) | (right; subst h; rfl))
 have e4 : IntKind.u8.wrap (n : Int) = (n : Int) := u8_small n hn
 have E4 := Lib.hid e4
 clear e4
 have e0 : IntKind.u8.wrap (op : Int) = (op : Int) := u8_small op (by omega)
 have E0 := Lib.hid e0
 clear e0
 have e1 : IntKind.u8.wrap (a : Int) = (a : Int) := u8_small a (by omega)
 have E1 := Lib.hid e1
 clear e1
 have HI0 := Lib.hid (fun w' => l1In_named (op : Int) 15 18 true (by simp [inR]; omega) w')
 have b1 : ((op : Int) == 1) = false := by simp; omega
 have e0 := E0.out
 have e1 := E1.out
 have e4 := E4.out
 clear ha hb hc
 go_enter Tryd.func142, Tryd.ntmps142
 go_wp2_with (fail)
 go_at_call 61
 generalize hw1 : w.alloc _ = w1
 obtain ⟨hb1, x0, x1, x2, x3, x4⟩ := box5 hw1
 have HB1 := Lib.hid hb1
 clear hw1 hb1
 refine (HI0.out w1).mono ?_
 rintro e _ ⟨rfl, rfl⟩
 clear HI0
 go_wp2_with (fail)
 go_ret
 exact newU8_lit rfl HB1.out (by first | rfl | (simp [u8s]; done)) rfl (by simp)
set_option maxHeartbeats 2000000 in
set_option linter.unusedVariables false in
theorem plain_c (w : World) (op a b c n : Nat) (ha : a < 8) (hb : b < 8) (hc : c < 8) (hn : shN op = 0 ∨ shN op = 4 → n < 256) (h : 3 ≤ op ∧ op ≤ 9) : Calls Tryd.prog 142 #[.agg #[.int .i64 (op : Int), .int .i64 (a : Int), .int .i64 (b : Int), .int .i64 (c : Int), .int .i64 (n : Int)]] w (NewU8 [op, a + 8 * b, c] w) := by
 have e0 : IntKind.u8.wrap (op : Int) = (op : Int) := u8_small op (by omega)
 have E0 := Lib.hid e0
 clear e0
 have e3 : IntKind.u8.wrap (c : Int) = (c : Int) := u8_small c (by omega)
 have E3 := Lib.hid e3
 clear e3
 have e5 : IntKind.u8.wrap ((a : Int) + 8 * (b : Int)) = (a : Int) + 8 * (b : Int) := by have := u8_small (a + 8 * b) (by omega); simpa using this
 have E5 := Lib.hid e5
 have s1 : IntKind.i64.wrap (8 * (b : Int)) = 8 * (b : Int) := IntWalk.i64_in _ (by omega)
 have s2 : IntKind.i64.wrap ((a : Int) + 8 * (b : Int)) = (a : Int) + 8 * (b : Int) := IntWalk.i64_in _ (by omega)
 have S1 := Lib.hid s1; have S2 := Lib.hid s2
 clear e5 s1 s2
 have HI0 := Lib.hid (fun w' => l1In_named (op : Int) 15 18 false (by simp [inR]; omega) w')
 have HI1 := Lib.hid (fun w' => l1In_named (op : Int) 3 9 true (by simp [inR]; omega) w')
 have b1 : ((op : Int) == 1) = false := by simp; omega
 have e0 := E0.out
 have e5 := E5.out
 have e3 := E3.out
 have s1 := S1.out; have s2 := S2.out
 clear ha hb hc
 go_enter Tryd.func142, Tryd.ntmps142
 go_wp2_with (fail)
 go_at_call 61
 generalize hw1 : w.alloc _ = w1
 obtain ⟨hb1, x0, x1, x2, x3, x4⟩ := box5 hw1
 have HB1 := Lib.hid hb1
 clear hw1 hb1
 refine (HI0.out w1).mono ?_
 rintro e _ ⟨rfl, rfl⟩
 clear HI0
 go_wp2_with (fail)
 go_at_call 61
 refine (HI1.out w1).mono ?_
 rintro e _ ⟨rfl, rfl⟩
 clear HI1
 go_wp2_with (fail)
 go_ret
 exact newU8_lit rfl HB1.out (by first | rfl | (simp [u8s]; done)) rfl (by simp)
set_option maxHeartbeats 2000000 in
set_option linter.unusedVariables false in
theorem plain_d (w : World) (op a b c n : Nat) (ha : a < 8) (hb : b < 8) (hc : c < 8) (hn : shN op = 0 ∨ shN op = 4 → n < 256) (h : op = 2) : Calls Tryd.prog 142 #[.agg #[.int .i64 (op : Int), .int .i64 (a : Int), .int .i64 (b : Int), .int .i64 (c : Int), .int .i64 (n : Int)]] w (NewU8 [op, a + 8 * b] w) := by
 have e0 : IntKind.u8.wrap (op : Int) = (op : Int) := u8_small op (by omega)
 have E0 := Lib.hid e0
 clear e0
 have e5 : IntKind.u8.wrap ((a : Int) + 8 * (b : Int)) = (a : Int) + 8 * (b : Int) := by have := u8_small (a + 8 * b) (by omega); simpa using this
 have E5 := Lib.hid e5
 have s1 : IntKind.i64.wrap (8 * (b : Int)) = 8 * (b : Int) := IntWalk.i64_in _ (by omega)
 have s2 : IntKind.i64.wrap ((a : Int) + 8 * (b : Int)) = (a : Int) + 8 * (b : Int) := IntWalk.i64_in _ (by omega)
 have S1 := Lib.hid s1; have S2 := Lib.hid s2
 clear e5 s1 s2
 have HI0 := Lib.hid (fun w' => l1In_named (op : Int) 15 18 false (by simp [inR]; omega) w')
 have HI1 := Lib.hid (fun w' => l1In_named (op : Int) 3 9 false (by simp [inR]; omega) w')
 subst h
 have e0 := E0.out
 have e5 := E5.out
 have s1 := S1.out; have s2 := S2.out
 clear ha hb hc
 go_enter Tryd.func142, Tryd.ntmps142
 go_wp2_with (fail)
 go_at_call 61
 generalize hw1 : w.alloc _ = w1
 obtain ⟨hb1, x0, x1, x2, x3, x4⟩ := box5 hw1
 have HB1 := Lib.hid hb1
 clear hw1 hb1
 refine (HI0.out w1).mono ?_
 rintro e _ ⟨rfl, rfl⟩
 clear HI0
 go_wp2_with (fail)
 go_at_call 61
 refine (HI1.out w1).mono ?_
 rintro e _ ⟨rfl, rfl⟩
 clear HI1
 go_wp2_with (fail)
 go_ret
 exact newU8_lit rfl HB1.out (by first | rfl | (simp [u8s]; done)) rfl (by simp)
set_option maxHeartbeats 2000000 in
set_option linter.unusedVariables false in
theorem plain_e (w : World) (op a b c n : Nat) (ha : a < 8) (hb : b < 8) (hc : c < 8) (hn : shN op = 0 ∨ shN op = 4 → n < 256) (h : 10 ≤ op ∧ op ≤ 12) : Calls Tryd.prog 142 #[.agg #[.int .i64 (op : Int), .int .i64 (a : Int), .int .i64 (b : Int), .int .i64 (c : Int), .int .i64 (n : Int)]] w (NewU8 [op, a + 8 * b] w) := by
 have e0 : IntKind.u8.wrap (op : Int) = (op : Int) := u8_small op (by omega)
 have E0 := Lib.hid e0
 clear e0
 have e5 : IntKind.u8.wrap ((a : Int) + 8 * (b : Int)) = (a : Int) + 8 * (b : Int) := by have := u8_small (a + 8 * b) (by omega); simpa using this
 have E5 := Lib.hid e5
 have s1 : IntKind.i64.wrap (8 * (b : Int)) = 8 * (b : Int) := IntWalk.i64_in _ (by omega)
 have s2 : IntKind.i64.wrap ((a : Int) + 8 * (b : Int)) = (a : Int) + 8 * (b : Int) := IntWalk.i64_in _ (by omega)
 have S1 := Lib.hid s1; have S2 := Lib.hid s2
 clear e5 s1 s2
 have HI0 := Lib.hid (fun w' => l1In_named (op : Int) 15 18 false (by simp [inR]; omega) w')
 have HI1 := Lib.hid (fun w' => l1In_named (op : Int) 3 9 false (by simp [inR]; omega) w')
 have HI2 := Lib.hid (fun w' => l1In_named (op : Int) 10 12 true (by simp [inR]; omega) w')
 have b1 : ((op : Int) == 1) = false := by simp; omega
 have b2 : ((op : Int) == 2) = false := by simp; omega
 have e0 := E0.out
 have e5 := E5.out
 have s1 := S1.out; have s2 := S2.out
 clear ha hb hc
 go_enter Tryd.func142, Tryd.ntmps142
 go_wp2_with (fail)
 go_at_call 61
 generalize hw1 : w.alloc _ = w1
 obtain ⟨hb1, x0, x1, x2, x3, x4⟩ := box5 hw1
 have HB1 := Lib.hid hb1
 clear hw1 hb1
 refine (HI0.out w1).mono ?_
 rintro e _ ⟨rfl, rfl⟩
 clear HI0
 go_wp2_with (fail)
 go_at_call 61
 refine (HI1.out w1).mono ?_
 rintro e _ ⟨rfl, rfl⟩
 clear HI1
 go_wp2_with (fail)
 go_at_call 61
 refine (HI2.out w1).mono ?_
 rintro e _ ⟨rfl, rfl⟩
 clear HI2
 go_wp2_with (fail)
 go_ret
 exact newU8_lit rfl HB1.out (by first | rfl | (simp [u8s]; done)) rfl (by simp)
set_option maxHeartbeats 2000000 in
set_option linter.unusedVariables false in
theorem plain_f (w : World) (op a b c n : Nat) (ha : a < 8) (hb : b < 8) (hc : c < 8) (hn : shN op = 0 ∨ shN op = 4 → n < 256) (h : op = 14) : Calls Tryd.prog 142 #[.agg #[.int .i64 (op : Int), .int .i64 (a : Int), .int .i64 (b : Int), .int .i64 (c : Int), .int .i64 (n : Int)]] w (NewU8 [op, n] w) := by
 have hn : n < 256 := hn (by unfold shN; first | (left; rw [if_pos (by omega)]) | (right; subst h; rfl))
 have e4 : IntKind.u8.wrap (n : Int) = (n : Int) := u8_small n hn
 have E4 := Lib.hid e4
 clear e4
 have e0 : IntKind.u8.wrap (op : Int) = (op : Int) := u8_small op (by omega)
 have E0 := Lib.hid e0
 clear e0
 have HI0 := Lib.hid (fun w' => l1In_named (op : Int) 15 18 false (by simp [inR]; omega) w')
 have HI1 := Lib.hid (fun w' => l1In_named (op : Int) 3 9 false (by simp [inR]; omega) w')
 have HI2 := Lib.hid (fun w' => l1In_named (op : Int) 10 12 false (by simp [inR]; omega) w')
 subst h
 have e0 := E0.out
 have e4 := E4.out
 clear ha hb hc
 go_enter Tryd.func142, Tryd.ntmps142
 go_wp2_with (fail)
 go_at_call 61
 generalize hw1 : w.alloc _ = w1
 obtain ⟨hb1, x0, x1, x2, x3, x4⟩ := box5 hw1
 have HB1 := Lib.hid hb1
 clear hw1 hb1
 refine (HI0.out w1).mono ?_
 rintro e _ ⟨rfl, rfl⟩
 clear HI0
 go_wp2_with (fail)
 go_at_call 61
 refine (HI1.out w1).mono ?_
 rintro e _ ⟨rfl, rfl⟩
 clear HI1
 go_wp2_with (fail)
 go_at_call 61
 refine (HI2.out w1).mono ?_
 rintro e _ ⟨rfl, rfl⟩
 clear HI2
 go_wp2_with (fail)
 go_ret
 exact newU8_lit rfl HB1.out (by first | rfl | (simp [u8s]; done)) rfl (by simp)
set_option maxHeartbeats 2000000 in
set_option linter.unusedVariables false in
theorem plain_g (w : World) (op a b c n : Nat) (ha : a < 8) (hb : b < 8) (hc : c < 8) (hn : shN op = 0 ∨ shN op = 4 → n < 256) (h : op = 13 ∨ op = 19 ∨ op = 22) : Calls Tryd.prog 142 #[.agg #[.int .i64 (op : Int), .int .i64 (a : Int), .int .i64 (b : Int), .int .i64 (c : Int), .int .i64 (n : Int)]] w (NewU8 [op, a] w) := by
 have e0 : IntKind.u8.wrap (op : Int) = (op : Int) := u8_small op (by omega)
 have E0 := Lib.hid e0
 clear e0
 have e1 : IntKind.u8.wrap (a : Int) = (a : Int) := u8_small a (by omega)
 have E1 := Lib.hid e1
 clear e1
 have HI0 := Lib.hid (fun w' => l1In_named (op : Int) 15 18 false (by simp [inR]; omega) w')
 have HI1 := Lib.hid (fun w' => l1In_named (op : Int) 3 9 false (by simp [inR]; omega) w')
 have HI2 := Lib.hid (fun w' => l1In_named (op : Int) 10 12 false (by simp [inR]; omega) w')
 have b1 : ((op : Int) == 1) = false := by simp; omega
 have b2 : ((op : Int) == 2) = false := by simp; omega
 have b14 : ((op : Int) == 14) = false := by simp; omega
 have e0 := E0.out
 have e1 := E1.out
 clear ha hb hc
 go_enter Tryd.func142, Tryd.ntmps142
 go_wp2_with (fail)
 go_at_call 61
 generalize hw1 : w.alloc _ = w1
 obtain ⟨hb1, x0, x1, x2, x3, x4⟩ := box5 hw1
 have HB1 := Lib.hid hb1
 clear hw1 hb1
 refine (HI0.out w1).mono ?_
 rintro e _ ⟨rfl, rfl⟩
 clear HI0
 go_wp2_with (fail)
 go_at_call 61
 refine (HI1.out w1).mono ?_
 rintro e _ ⟨rfl, rfl⟩
 clear HI1
 go_wp2_with (fail)
 go_at_call 61
 refine (HI2.out w1).mono ?_
 rintro e _ ⟨rfl, rfl⟩
 clear HI2
 go_wp2_with (fail)
 go_ret
 exact newU8_lit rfl HB1.out (by first | rfl | (simp [u8s]; done)) rfl (by simp)
theorem plain_any (w : World) (x : Ni) (hx : BOk x) (hj : jmpN x.op = false) : Calls Tryd.prog 142 #[.agg #[.int .i64 (x.op : Int), .int .i64 (x.a : Int), .int .i64 (x.b : Int), .int .i64 (x.c : Int), .int .i64 (x.n : Int)]] w (NewU8 (encB x) w) := by
 obtain ⟨op, a, b, c, n⟩ := x
 obtain ⟨⟨h1, h2⟩, ha, hb, hc, hn⟩ := hx
 simp only at h1 h2 ha hb hc hn hj ⊢
 have hjj : op ≠ 20 ∧ op ≠ 21 := by
  unfold jmpN at hj
  simpa only [Bool.or_eq_false_iff, beq_eq_false_iff_ne] using hj
 rcases (show op = 1 ∨ (15 ≤ op ∧ op ≤ 18) ∨ (3 ≤ op ∧ op ≤ 9) ∨ op = 2 ∨ (10 ≤ op ∧ op ≤ 12) ∨ op = 14 ∨ (op = 13 ∨ op = 19 ∨ op = 22) by omega) with h | h | h | h | h | h | h
 ·have hs : shN op = 0 := by unfold shN; (repeat' split) <;> omega
  have he : encB ⟨op, a, b, c, n⟩ = [op, a, n] := by unfold encB; simp only [hs]; rfl
  rw [he]; exact plain_a w op a b c n ha hb hc hn h
 ·have hs : shN op = 0 := by unfold shN; (repeat' split) <;> omega
  have he : encB ⟨op, a, b, c, n⟩ = [op, a, n] := by unfold encB; simp only [hs]; rfl
  rw [he]; exact plain_b w op a b c n ha hb hc hn h
 ·have hs : shN op = 2 := by unfold shN; (repeat' split) <;> omega
  have he : encB ⟨op, a, b, c, n⟩ = [op, a + 8 * b, c] := by unfold encB; simp only [hs]; rfl
  rw [he]; exact plain_c w op a b c n ha hb hc hn h
 ·have hs : shN op = 1 := by unfold shN; (repeat' split) <;> omega
  have he : encB ⟨op, a, b, c, n⟩ = [op, a + 8 * b] := by unfold encB; simp only [hs]; rfl
  rw [he]; exact plain_d w op a b c n ha hb hc hn h
 ·have hs : shN op = 1 := by unfold shN; (repeat' split) <;> omega
  have he : encB ⟨op, a, b, c, n⟩ = [op, a + 8 * b] := by unfold encB; simp only [hs]; rfl
  rw [he]; exact plain_e w op a b c n ha hb hc hn h
 ·have hs : shN op = 4 := by unfold shN; (repeat' split) <;> omega
  have he : encB ⟨op, a, b, c, n⟩ = [op, n] := by unfold encB; simp only [hs]; rfl
  rw [he]; exact plain_f w op a b c n ha hb hc hn h
 ·have hs : shN op = 3 := by unfold shN; (repeat' split) <;> omega
  have he : encB ⟨op, a, b, c, n⟩ = [op, a] := by unfold encB; simp only [hs]; rfl
  rw [he]; exact plain_g w op a b c n ha hb hc hn h
theorem ssize_any (w : World) (x : Ni) (hx : BOk x) (lg : Bool) : Calls Tryd.prog 138 #[.agg #[.int .i64 (x.op : Int), .int .i64 (x.a : Int), .int .i64 (x.b : Int), .int .i64 (x.c : Int), .int .i64 (x.n : Int)], .bool lg] w fun e w' => e = .returned (.int .i64 ((sizN x lg : Nat) : Int)) ∧ Below w.heap.size w w' := by
 obtain ⟨jp, hj⟩ : ∃ jp, jp = jmpN x.op := ⟨_, rfl⟩
 have HJ := Lib.hid (fun w' => sjump_any w' x.op x.a x.b x.c x.n)
 have HL := Lib.hid (fun h w' => plain_any w' x hx h)
 obtain ⟨t1, ht1⟩ : ∃ t1, t1 = if lg then (1 : Nat) else 0 := ⟨_, rfl⟩
 obtain ⟨p, hp⟩ : ∃ p, p = (x.op == 21) := ⟨_, rfl⟩
 obtain ⟨t2, ht2⟩ : ∃ t2, t2 = if p then (1 : Nat) else 0 := ⟨_, rfl⟩
 have HT1 := Lib.hid (fun w' => struth_any w' lg t1 ht1)
 have HT2 := Lib.hid (fun w' => struth_any w' p t2 ht2)
 have b21 : ((x.op : Int) == 21) = p := by rw [hp, Bool.eq_iff_iff]; simp <;> omega
 have hsz : sizN x lg = if jp then 2 + t2 + t1 else (encB x).length := by unfold sizN; rw [← hj, ht1, ht2, hp]; by_cases e : x.op = 21 <;> simp [e]
 have hen : (encB x).length ≤ 3 := by unfold encB; (repeat' split) <;> simp
 have hl1 : t1 ≤ 1 := by rw [ht1]; split <;> omega
 have hl2 : t2 ≤ 1 := by rw [ht2]; split <;> omega
 rw [hsz]
 rw [← hj] at HL HJ
 obtain ⟨op, a, b, c, n⟩ := x
 have BS := Lib.hid b21
 clear hsz ht1 ht2 hp b21 hj hx
 cases jp with
 |false =>
  go_enter Tryd.func138, Tryd.ntmps138
  go_wp2_with (fail)
  generalize hw1 : w.alloc _ = w1
  obtain ⟨hb1, x0, x1, x2, x3, x4⟩ := box5 hw1
  clear hw1
  have HB1 := Lib.hid hb1
  clear hb1
  go_wp2_with (fail)
  go_at_call 116
  refine (HJ.out w1).mono ?_
  rintro e w2 ⟨rfl, hb2⟩
  have hs1 := HB1.out.size
  have z0 := cellB hb2 x0; have z1 := cellB hb2 x1; have z2 := cellB hb2 x2; have z3 := cellB hb2 x3; have z4 := cellB hb2 x4
  have HB2 := Lib.hid (HB1.out.trans (hb2.mono hs1))
  clear x0 x1 x2 x3 x4 hb2 hs1 HB1 HJ HT1 HT2 BS
  go_wp2_with (fail)
  go_at_call 142
  refine (HL.out (by first | rfl | trivial) w2).mono ?_
  rintro e w3 ⟨g, c', rfl, _, hb3⟩
  have HB3 := Lib.hid (HB2.out.trans (hb3.mono HB2.out.size))
  clear HB2 hb3 HL z0 z1 z2 z3 z4
  go_wp2_with (fail)
  go_ret
  exact ⟨rfl, HB3.out⟩
 |true =>
  go_enter Tryd.func138, Tryd.ntmps138
  go_wp2_with (fail)
  generalize hw1 : w.alloc _ = w1
  obtain ⟨hb1, x0, x1, x2, x3, x4⟩ := box5 hw1
  clear hw1
  have HB1 := Lib.hid hb1
  clear hb1
  go_wp2_with (fail)
  go_at_call 116
  refine (HJ.out w1).mono ?_
  rintro e w2 ⟨rfl, hb2⟩
  have hs1 := HB1.out.size
  have z0 := cellB hb2 x0
  have z0 : ∀ m, (w2.drewN m).cell? ⟨w.heap.size, 0, none⟩ = some (.int .i64 (op : Int)) := fun _ => z0
  have HB2 := Lib.hid (HB1.out.trans (hb2.mono hs1))
  clear x0 x1 x2 x3 x4 hb2 hs1 HB1 HJ HL
  have b21 := BS.out
  have HS1 := Lib.hid (show IntKind.i64.wrap (2 + (t1 : Int)) = 2 + (t1 : Int) from IntWalk.i64_in _ (by omega))
  have HS2 := Lib.hid (show IntKind.i64.wrap (2 + (t1 : Int) + (t2 : Int)) = ((2 + t2 + t1 : Nat) : Int) from by rw [IntWalk.i64_in _ (by omega)]; omega)
  clear hl1 hl2
  have s1 := HS1.out; have s2 := HS2.out
  go_wp2_with (fail)
  go_quiet (first | (go_at_call 133; refine Calls.quiet_of_same (HT1.out _)) | (go_at_call 133; refine Calls.quiet_of_same (HT2.out _)))
  go_wp2_with (fail)
  go_ret
  exact ⟨rfl, belowDrewN HB2.out _⟩
end Go.Proofs.YtbdbmmdnidonjaaDoor
set_option maxRecDepth 100000
namespace Go.Proofs.YtbdbmmdnidonjaaDoor
open Go.RowKit
/-- a readable slice of bools -/
def LgAt (w : World) (v : Value) (lg : List Bool) : Prop :=
 ∃ a cap, v = .slice a lg.length cap ∧ ∀ i, i < lg.length → ∃ q off, a = some ⟨q, off, none⟩ ∧ w.cell? ⟨q, off + i, none⟩ = some (.bool (lg.getD i false))
theorem LgAt.below {w w' : World} {v : Value} {lg : List Bool} (h : LgAt w v lg) (hb : Below w.heap.size w w') : LgAt w' v lg := by
 obtain ⟨a, cap, hv, hc⟩ := h
 refine ⟨a, cap, hv, fun i hi => ?_⟩
 obtain ⟨q, off, ha, c0⟩ := hc i hi
 exact ⟨q, off, ha, cellB hb c0⟩
/-- instructions of natural numbers, read -/
def NisAt (w : World) (v : Value) (xs : List Ni) : Prop :=
 ∃ a cap, v = .slice a xs.length cap ∧ ∀ i, i < xs.length → ∃ b off, a = some ⟨b, off, none⟩ ∧ w.cell? ⟨b, off + i * 5, none⟩ = some (.int .i64 ((niAt xs i).op : Int)) ∧ w.cell? ⟨b, off + i * 5 + 1, none⟩ = some (.int .i64 ((niAt xs i).a : Int)) ∧ w.cell? ⟨b, off + i * 5 + 2, none⟩ = some (.int .i64 ((niAt xs i).b : Int)) ∧ w.cell? ⟨b, off + i * 5 + 3, none⟩ = some (.int .i64 ((niAt xs i).c : Int)) ∧ w.cell? ⟨b, off + i * 5 + 4, none⟩ = some (.int .i64 ((niAt xs i).n : Int))
theorem NisAt.of {w : World} {v : Value} {xs : List Ni} (h : MisAt w v (xs.map Ni.mi)) : NisAt w v xs := by
 obtain ⟨a, cap, hv, hc⟩ := h
 refine ⟨a, cap, by rw [hv, List.length_map], fun i hi => ?_⟩
 have he : (xs.map Ni.mi)[i]? = some (niAt xs i).mi := by simp [niAt, List.getD_eq_getElem?_getD, hi]
 exact hc i _ he
theorem NisAt.below {w w' : World} {v : Value} {xs : List Ni} (h : NisAt w v xs) (hb : Below w.heap.size w w') : NisAt w' v xs := by
 obtain ⟨a, cap, hv, hc⟩ := h
 refine ⟨a, cap, hv, fun i hi => ?_⟩
 obtain ⟨b, off, ha, c0, c1, c2, c3, c4⟩ := hc i hi
 exact ⟨b, off, ha, cellB hb c0, cellB hb c1, cellB hb c2, cellB hb c3, cellB hb c4⟩
theorem box3 {w w1 : World} {v0 v1 v2 : Value} {t : TypeId} (h : w.alloc (.cells #[v0, v1, v2] t) = w1) :
  Below w.heap.size w w1 ∧ w1.cell? ⟨w.heap.size, 0, none⟩ = some v0 ∧ w1.cell? ⟨w.heap.size, 1, none⟩ = some v1 ∧ w1.cell? ⟨w.heap.size, 2, none⟩ = some v2 := by
 subst h
 have hB := Blk.new w #[v0, v1, v2] t
 refine ⟨below1 _ _, ?_, ?_, ?_⟩
 all_goals rw [hB.cell]; rfl
theorem ownLit0 {B : Nat} (X : World) (q : Nat) (t : TypeId) (hq : q = X.heap.size) (hb : B ≤ X.heap.size) : (X.alloc (.cells #[] t)).ownsRow B t 1 (.slice (some ⟨q, 0, none⟩) 0 0) 0 [] := by
 subst hq
 exact World.ownsRow_lit X #[] 0 hb (by decide) (by decide)
def plcs (xs : List Ni) (lg : List Bool) (k : Nat) : List Nat := (List.range k).map (plcN xs lg)
theorem plcs_succ (xs : List Ni) (lg : List Bool) (k : Nat) : nats (plcs xs lg (k + 1)) = nats (plcs xs lg k) ++ [.int .i64 ((plcN xs lg k : Nat) : Int)] := by
 simp [plcs, nats, List.range_succ]
def PlcPost (xs : List Ni) (lg : List Bool) (w : World) (e : Ending) (w' : World) : Prop :=
 ∃ v, e = .returned (.tuple #[v, .int .i64 ((totN xs lg : Nat) : Int)]) ∧ w'.ownsRow w.heap.size 3 1 v xs.length (nats (plcs xs lg xs.length)) ∧ Below w.heap.size w w'
set_option maxHeartbeats 4000000 in
theorem places_any (w : World) (p s : Int) (iv lv : Value) (xs : List Ni) (lg : List Bool) (hm : NisAt w iv xs) (hl : LgAt w lv lg) (hlg : lg.length = xs.length) (hn : xs.length ≤ 2000) (hx : ∀ i, i < xs.length → BOk (niAt xs i)) :
  Calls Tryd.prog 141 #[.agg #[.int .i64 p, .int .i64 s, iv], lv] w (PlcPost xs lg w) := by
 obtain ⟨i0, hi, hz0, hz1, hz2⟩ := info_parts info_int
 obtain ⟨n, hnn⟩ : ∃ n, n = xs.length := ⟨_, rfl⟩
 obtain ⟨la, lc, rfl, hc⟩ := hm
 obtain ⟨ga, gc, rfl, hg⟩ := hl
 rw [hlg, ← hnn] at hg
 rw [hlg]
 rw [← hnn] at hn hx hc ⊢
 have HP : Hid (∀ e w', (∃ v, e = .returned (.tuple #[v, .int .i64 ((plcN xs lg n : Nat) : Int)]) ∧ w'.ownsRow w.heap.size 3 1 v n (nats (plcs xs lg n)) ∧ Below w.heap.size w w') → PlcPost xs lg w e w') := by
  refine Lib.hid (fun e w' h => ?_)
  unfold PlcPost totN
  rw [← hnn]
  exact h
 have HC := Lib.hid hc
 have HG := Lib.hid hg
 have HX := Lib.hid hx
 obtain ⟨W, hW⟩ : ∃ W, W = PlcPost xs lg w := ⟨_, rfl⟩
 rw [← hW] at HP ⊢
 clear hc hg hx hlg hnn hW
 go_enter Tryd.func141, Tryd.ntmps141
 go_wp2_with (fail)
 generalize hw1 : w.alloc _ = w1
 have hsz1 : w1.heap.size = w.heap.size + 1 := by rw [← hw1]; simp
 obtain ⟨hb1, x0, x1, x2⟩ := box3 hw1
 have HX2 := Lib.hid x2
 have HB1 := Lib.hid hb1
 have HSZ := Lib.hid hsz1
 clear hw1 hb1 x0 x1 x2 hsz1
 go_loopw [6, 7, 8] (fun o at_ i wr => ∃ k : Nat, k ≤ n ∧ i = .int .i64 k ∧ at_ = .int .i64 ((plcN xs lg k : Nat) : Int) ∧ wr.ownsRow w1.heap.size 3 1 o k (nats (plcs xs lg k)) ∧ Below w1.heap.size w1 wr) (fun _ _ i _ => n - (intOf i).toNat)
 case atStart => exact ⟨0, Nat.zero_le _, rfl, rfl, ownLit0 _ _ _ HSZ.out.symm (Nat.le_refl _), (Below.refl _ _).alloc (Nat.le_refl _) _⟩
 case round =>
  obtain ⟨k, hk, rfl, rfl, hown, hB⟩ := hrel
  obtain ⟨wo, rfl⟩ : ∃ wo : World, wo = wr := ⟨_, rfl⟩
  have HB := Lib.hid hB
  have HOW := Lib.hid hown
  have hsz := hB.size
  have y2 := cellB hB HX2.out
  clear hB hown
  by_cases hlt : k < n
  ·have k0 : (0 : Int) ≤ k := by omega
   have k1 : (k : Int) < n := by omega
   obtain ⟨b, off, rfl, c0, c1, c2, c3, c4⟩ := HC.out k hlt
   obtain ⟨gb, goff, rfl, cg⟩ := HG.out k hlt
   obtain ⟨x, hxe⟩ : ∃ x, x = niAt xs k := ⟨_, rfl⟩
   obtain ⟨g, hge⟩ : ∃ g, g = lg.getD k false := ⟨_, rfl⟩
   obtain ⟨P, hPe⟩ : ∃ P, P = plcN xs lg k := ⟨_, rfl⟩
   have hP1 : plcN xs lg (k + 1) = P + sizN x g := by rw [hPe, hxe, hge]; rfl
   have hPle := plcN_le xs lg k
   rw [← hPe] at hPle ⊢
   rw [← hxe] at c0 c1 c2 c3 c4
   rw [← hge] at cg
   have hbx := HX.out k hlt
   rw [← hxe] at hbx
   have hsz4 := (sizN_le x g).2
   have HS := Lib.hid (fun w' => ssize_any w' x hbx g)
   obtain ⟨z, hz⟩ : ∃ z, z = sizN x g := ⟨_, rfl⟩
   rw [← hz] at HS hP1 hsz4
   have hsum : IntKind.i64.wrap ((P : Int) + (z : Int)) = ((P + z : Nat) : Int) := by rw [IntWalk.i64_in _ (by omega)]; omega
   have HSUM := Lib.hid hsum
   have HP1 := Lib.hid hP1
   have HPE := Lib.hid hPe
   have C0 := Lib.hid c0; have C1 := Lib.hid c1; have C2 := Lib.hid c2; have C3 := Lib.hid c3; have C4 := Lib.hid c4; have CG := Lib.hid cg
   clear c0 c1 c2 c3 c4 cg hxe hge hPe hbx hz hsum hP1 hPle hsz4
   go_wp2_with (first | (at_builtin; refine wpList_append_own _ rfl _ _ 26 (by rfl) w1.heap.size 3 i0 (.int .i64 0) 1 8 Tryd.underlying26 hi hz0 hz1 hz2 rfl (by decide) _ k _ (by rfl) (HOW.out.alloc _) ⟨wo.heap.size, 0, none⟩ 1 1 [.int .i64 (P : Int)] (by rfl) rfl (World.news_of_block (cs := #[.int .i64 (P : Int)]) (t := 3) (fr := (0, 0)) (heap_alloc_new wo _)) (by simp [Value.oneCell']) (by unfold maxLen; omega) (by omega) (by simp; omega) ?_; intro v2 w2 ho2 hg2 _; have HO2 := Lib.hid ho2; have HB2 := Lib.hid ((HB.out.alloc hsz _).grown hg2 (by simp; omega) (fun q hq => ownBlock_of HOW.out q hq)); clear ho2 hg2) | fail)
   have hB1w2 := HB1.out.trans (HB2.out.mono HB1.out.size)
   have hKeep : ∀ W, Below w1.heap.size w1 W → (fun W => W.cell? ⟨w.heap.size, 2, none⟩ = some (.slice (some ⟨b, off, none⟩) n lc) ∧ W.cell? ⟨b, off + k * 5, none⟩ = some (.int .i64 (x.op : Int)) ∧ W.cell? ⟨b, off + k * 5 + 1, none⟩ = some (.int .i64 (x.a : Int)) ∧ W.cell? ⟨b, off + k * 5 + 2, none⟩ = some (.int .i64 (x.b : Int)) ∧ W.cell? ⟨b, off + k * 5 + 3, none⟩ = some (.int .i64 (x.c : Int)) ∧ W.cell? ⟨b, off + k * 5 + 4, none⟩ = some (.int .i64 (x.n : Int)) ∧ W.cell? ⟨gb, goff + k, none⟩ = some (.bool g)) W := fun W h => by
    have hB1w2 := HB1.out.trans (h.mono HB1.out.size)
    exact ⟨cellB h HX2.out, cellB hB1w2 C0.out, cellB hB1w2 C1.out, cellB hB1w2 C2.out, cellB hB1w2 C3.out, cellB hB1w2 C4.out, cellB hB1w2 CG.out⟩
   have hS2 := hKeep _ HB2.out
   have hS3 := hKeep _ HB2.out.drew
   have HK := Lib.hid hKeep
   have HB3 := Lib.hid HB2.out.drew
   have HO3 : Hid (w2.drew.ownsRow w1.heap.size 3 1 v2 (k + 1) _) := HO2.out
   have hsum := HSUM.out
   clear C0 C1 C2 C3 C4 CG hKeep
   go_region_held3 (fun W => W.cell? ⟨w.heap.size, 2, none⟩ = some (.slice (some ⟨b, off, none⟩) n lc) ∧ W.cell? ⟨b, off + k * 5, none⟩ = some (.int .i64 (x.op : Int)) ∧ W.cell? ⟨b, off + k * 5 + 1, none⟩ = some (.int .i64 (x.a : Int)) ∧ W.cell? ⟨b, off + k * 5 + 2, none⟩ = some (.int .i64 (x.b : Int)) ∧ W.cell? ⟨b, off + k * 5 + 3, none⟩ = some (.int .i64 (x.c : Int)) ∧ W.cell? ⟨b, off + k * 5 + 4, none⟩ = some (.int .i64 (x.n : Int)) ∧ W.cell? ⟨gb, goff + k, none⟩ = some (.bool g)) (first | assumption) (first | (go_at_call 138; refine (HS.out _).mono ?_; rintro e w4 ⟨rfl, hb4⟩; have HB4 := Lib.hid (HB3.out.trans (hb4.mono HB3.out.size)); have HO4 := Lib.hid (ownsRow_below HO3.out hb4); have hS4 := HK.out _ HB4.out; clear hb4))
   all_goals
    try clear hS2 hS3
    go_wp2_with (fail)
    go_roundw
    case rel =>
     refine ⟨k + 1, by omega, by go_num, ?_, ?_, HB4.out⟩
     ·rw [HP1.out]; first | rfl | (simp; done) | (congr 1; omega)
     ·rw [plcs_succ, ← HPE.out]; exact HO4.out
    case measure => simp [intOf]; omega
  ·obtain rfl : k = n := by omega
   go_wp2_with (fail)
   exact HP.out _ _ ⟨_, rfl, ownsRow_mono HOW.out HB1.out.size, HB1.out.trans (HB.out.mono HB1.out.size)⟩
end Go.Proofs.YtbdbmmdnidonjaaDoor
set_option maxRecDepth 100000
namespace Go.Proofs.YtbdbmmdnidonjaaDoor
open Go.RowKit
def bools (lg : List Bool) : List Value := lg.map Value.bool
theorem bools_len (lg : List Bool) : (bools lg).length = lg.length := by simp [bools]
theorem bools_get {lg : List Bool} {i : Nat} (h : i < lg.length) : (bools lg)[i]? = some (.bool (lg.getD i false)) := by
 simp [bools, List.getD_eq_getElem?_getD, List.getElem?_eq_getElem h]
theorem bools_set (lg : List Bool) (i : Nat) (v : Bool) : (bools lg).set i (.bool v) = bools (lg.set i v) := by simp [bools]
theorem info_bool : (Tryd.prog.info? 4).map (fun i => (i.zero, i.size, i.bytes)) = some (some (.bool false), 1, 1) := by kernel_rfl
theorem own_cell1 {w : World} {B g n cap : Nat} {e : TypeId} {ys : List Value} (h : w.ownsRow B e 1 (.slice (some ⟨g, 0, none⟩) n cap) n ys) {j : Nat} (hj : j < n) : w.cell? ⟨g, j, none⟩ = ys[j]? := by
 have := h.cellAt j (by omega)
 simpa using this
theorem LgAt.of {w : World} {B g n cap : Nat} {lg : List Bool} (hl : lg.length = n) (h : w.ownsRow B 4 1 (.slice (some ⟨g, 0, none⟩) n cap) n (bools lg)) : LgAt w (.slice (some ⟨g, 0, none⟩) n cap) lg := by
 subst hl
 refine ⟨_, _, rfl, fun i hi => ⟨g, 0, rfl, ?_⟩⟩
 rw [Nat.zero_add, own_cell1 h hi, bools_get hi]
def nextK (xs : List Ni) (lg : List Bool) (k : Nat) : List Bool := (List.range xs.length).map fun i => lg.getD i false || (decide (i < k) && needN xs lg i)
theorem nextK_len (xs : List Ni) (lg : List Bool) (k : Nat) : (nextK xs lg k).length = xs.length := by simp [nextK]
theorem nextK_zero {xs : List Ni} {lg : List Bool} (h : lg.length = xs.length) : nextK xs lg 0 = lg := by
 apply List.ext_getElem
 ·simp [nextK, h]
 ·intro i h1 h2
  simp [nextK, List.getD_eq_getElem?_getD, h2]
theorem nextK_all (xs : List Ni) (lg : List Bool) : nextK xs lg xs.length = nextN xs lg := by
 unfold nextK nextN
 refine List.map_congr_left fun i hi => ?_
 have : i < xs.length := by simpa using hi
 simp [this]
theorem nextK_no {xs : List Ni} {lg : List Bool} {k : Nat} (h : needN xs lg k = false) : nextK xs lg (k + 1) = nextK xs lg k := by
 unfold nextK
 refine List.map_congr_left fun i hi => ?_
 rcases Nat.lt_trichotomy i k with h1 | h1 | h1
 ·simp [h1, show i < k + 1 by omega]
 ·subst h1; simp [h]
 ·simp [show ¬ i < k by omega, show ¬ i < k + 1 by omega]
theorem nextK_yes {xs : List Ni} {lg : List Bool} {k : Nat} (h : needN xs lg k = true) : nextK xs lg (k + 1) = (nextK xs lg k).set k true := by
 apply List.ext_getElem
 ·simp [nextK]
 ·intro i h1 h2
  have h1 : i < xs.length := by simpa [nextK] using h1
  rw [List.getElem_set]
  by_cases e : k = i
  ·subst e; simp [nextK, h]
  ·rw [if_neg e]
   simp only [nextK, List.getElem_map, List.getElem_range]
   have : (i < k + 1) = (i < k) := by simp; omega
   simp [this]
theorem any_succ (f : Nat → Bool) (k : Nat) : (List.range (k + 1)).any f = ((List.range k).any f || f k) := by simp [List.range_succ]
theorem nextN_same {xs : List Ni} {lg : List Bool} (hl : lg.length = xs.length) (h : (List.range xs.length).any (needN xs lg) = false) : nextN xs lg = lg := by
 apply List.ext_getElem
 ·simp [nextN, hl]
 ·intro i h1 h2
  have hi : i < xs.length := by omega
  have : needN xs lg i = false := by
   have := List.any_eq_false.1 h i (by simpa using hi)
   simpa using this
  simp [nextN, this, List.getD_eq_getElem?_getD, h2]
def isTr : Value → Bool | .bool b => b | _ => false
def readL (w : World) : Value → List Bool
 |.slice (some a) n _ => (List.range n).map fun i => ((w.cell? ⟨a.block, a.off + i, none⟩).map isTr).getD false
 |_ => []
theorem readL_of {w : World} {B g n cap : Nat} {lg : List Bool} (hl : lg.length = n) (h : w.ownsRow B 4 1 (.slice (some ⟨g, 0, none⟩) n cap) n (bools lg)) : readL w (.slice (some ⟨g, 0, none⟩) n cap) = lg := by
 subst hl
 apply List.ext_getElem
 ·simp [readL]
 ·intro i h1 h2
  simp only [readL, List.getElem_map, List.getElem_range, Nat.zero_add]
  rw [own_cell1 h h2, bools_get h2]
  simp [isTr, List.getD_eq_getElem?_getD, h2]
theorem made_bools (n : Nat) : (madeCells (Value.bool false).cells n).toList = bools (List.replicate n false) := by
 rw [show bools (List.replicate n false) = List.replicate n (Value.bool false) by simp [bools]]
 exact toList_madeCells_one _ _
theorem own_made {B : Nat} (X : World) (q n : Nat) (hq : q = X.heap.size) (hb : B ≤ X.heap.size) (hn : n ≤ 2000) : (X.alloc (.cells (madeCells (Value.bool false).cells n) 4)).ownsRow B 4 1 (.slice (some ⟨q, 0, none⟩) n n) n (bools (List.replicate n false)) := by
 subst hq
 have h := World.ownsRow_lit (base := B) (e := 4) (size := 1) X (madeCells (Value.bool false).cells n) n hb (by unfold maxLen; omega) (by rw [← Array.length_toList, made_bools, bools_len]; simp)
 rw [made_bools] at h
 exact h
def LongPost (xs : List Ni) (w : World) (e : Ending) (w' : World) : Prop :=
 ∃ g cap, e = .returned (.slice (some ⟨g, 0, none⟩) xs.length cap) ∧ w'.ownsRow w.heap.size 4 1 (.slice (some ⟨g, 0, none⟩) xs.length cap) xs.length (bools (longN xs)) ∧ Below w.heap.size w w' ∧ (longN xs).length = xs.length
theorem own_form {B : Nat} {w : World} {e : TypeId} {size : Nat} {v : Value} {n : Nat} {ys : List Value} (h : w.ownsRow B e size v n ys) (hn : 0 < n) (hs : 0 < size := by decide) : ∃ g cap, v = .slice (some ⟨g, 0, none⟩) n cap := by
 rcases h.2 with ⟨_, h'⟩ | ⟨g', cap', cur, h', _⟩
 ·have := h.1
  have hp := Nat.mul_pos hn hs
  first | omega | (rw [h'] at this; simp at this; omega)
 ·exact ⟨g', cap', h'⟩
set_option maxHeartbeats 8000000 in
theorem long_any (w : World) (p s : Int) (iv : Value) (xs : List Ni) (hm : NisAt w iv xs) (hn : xs.length ≤ 2000) (h0 : 0 < xs.length) (hx : ∀ i, i < xs.length → BOk (niAt xs i)) (hj : ∀ i, i < xs.length → jmpN (niAt xs i).op = true → (niAt xs i).n < xs.length) :
  Calls Tryd.prog 140 #[.agg #[.int .i64 p, .int .i64 s, iv]] w (LongPost xs w) := by
 obtain ⟨i0, hi, hz0, hz1, hz2⟩ := info_parts info_bool
 obtain ⟨n, hnn⟩ : ∃ n, n = xs.length := ⟨_, rfl⟩
 have HPL := Lib.hid (fun w' lv lg h1 h2 h3 => places_any w' p s iv lv xs lg h1 h2 h3 hn hx)
 have HNI := Lib.hid hm
 obtain ⟨la, lc, rfl, hc⟩ := hm
 have HLP : Hid (∀ g cap e w', e = .returned (.slice (some ⟨g, 0, none⟩) n cap) → ∀ lg, lg = longN xs → lg.length = n → w'.ownsRow w.heap.size 4 1 (.slice (some ⟨g, 0, none⟩) n cap) n (bools lg) → Below w.heap.size w w' → LongPost xs w e w') := by
  refine Lib.hid (fun g cap e w' h1 lg h2 h3 h4 h5 => ?_)
  subst h2
  rw [hnn] at h1 h3 h4
  exact ⟨g, cap, h1, h4, h5, h3⟩
 have HST : Hid (∀ lg, lg.length = n → longF xs (n + 1) lg = if (List.range n).any (needN xs lg) then longF xs (n + 1) (nextN xs lg) else lg) := Lib.hid (by rw [hnn]; exact fun lg h => longN_step h)
 have HL0 : Hid (longF xs (n + 1) (List.replicate n false) = longN xs) := Lib.hid (by rw [hnn]; rfl)
 have HSN : Hid (∀ lg, lg.length = n → (List.range n).any (needN xs lg) = true → shortN (nextN xs lg) < shortN lg) := Lib.hid (by rw [hnn]; exact fun lg h => short_next h)
 have HSM : Hid (∀ lg, lg.length = n → (List.range n).any (needN xs lg) = false → nextN xs lg = lg) := Lib.hid (by rw [hnn]; exact fun lg h => nextN_same h)
 have HZ0 : Hid (∀ lg, lg.length = n → nextK xs lg 0 = lg) := Lib.hid (by rw [hnn]; exact fun lg h => nextK_zero h)
 have HZA : Hid (∀ lg, nextK xs lg n = nextN xs lg) := Lib.hid (by rw [hnn]; exact fun lg => nextK_all xs lg)
 have HKL : Hid (∀ lg k, (nextK xs lg k).length = n) := Lib.hid (by rw [hnn]; exact fun lg k => nextK_len xs lg k)
 have HNL : Hid (∀ lg, (nextN xs lg).length = n) := Lib.hid (by rw [hnn]; exact fun lg => nextN_len xs lg)
 have HPN : Hid (∀ lg k, k ≤ n → plcN xs lg k ≤ 8000) := Lib.hid (by rw [hnn]; exact fun lg k hk => by have := plcN_le xs lg k; omega)
 have HPD : Hid (∀ lg k, k < n → (nats (plcs xs lg n))[k]? = some (.int .i64 ((plcN xs lg k : Nat) : Int))) := Lib.hid (fun lg k hk => by simp [nats, plcs, hk])
 unfold PlcPost at HPL
 rw [← hnn] at hn hx hc hj h0 HPL HNI ⊢
 have hmk : ∀ w : World, (Instr.makeSlice 183 (.int .i64 (n : Int)) (.int .i64 (n : Int))).run Tryd.prog w = .ok (.slice (some ⟨w.heap.size, 0, none⟩) n n) (w.alloc (.cells (madeCells (Value.bool false).cells n) 4)) := fun w => by
  have h := run_make (P := Tryd.prog) w 183 4 i0 (.bool false) Tryd.underlying183 hi hz0 .i64 .i64 (n : Int) (n : Int) (by omega) (by omega) (by rw [hz2]; omega) (by omega)
  rw [hz1, Nat.mul_one] at h
  simpa using h
 have HC := Lib.hid hc
 have HX := Lib.hid hx
 have HJ := Lib.hid hj
 obtain ⟨Q, hQ⟩ : ∃ Q, Q = LongPost xs w := ⟨_, rfl⟩
 rw [← hQ] at HLP ⊢
 clear hc hx hj hnn hQ
 go_enter Tryd.func140, Tryd.ntmps140
 go_wp2_with (fail)
 generalize hw1 : w.alloc _ = w1
 have hsz1 : w1.heap.size = w.heap.size + 1 := by rw [← hw1]; simp
 obtain ⟨hb1, x0, x1, x2⟩ := box3 hw1
 have HX0 := Lib.hid x0; have HX1 := Lib.hid x1; have HX2 := Lib.hid x2
 have HB1 := Lib.hid hb1
 have HSZ := Lib.hid hsz1
 clear hw1 hb1 x0 x1 x2 hsz1
 go_loopw [3, 4] (fun o ag wr => ∃ (lg : List Bool) (g cap : Nat) (a : Bool), Hid (lg.length = n) ∧ o = .slice (some ⟨g, 0, none⟩) n cap ∧ ag = .bool a ∧ wr.ownsRow w1.heap.size 4 1 (.slice (some ⟨g, 0, none⟩) n cap) n (bools lg) ∧ Below w1.heap.size w1 wr ∧ Hid (a = true → longF xs (n + 1) lg = longN xs) ∧ Hid (a = false → lg = longN xs)) (fun o ag wr => if isTr ag then shortN (readL wr o) + 1 else 0)
 case atStart => exact ⟨List.replicate n false, _, _, true, Lib.hid (by simp), rfl, rfl, own_made _ _ _ HSZ.out.symm (Nat.le_refl _) hn, (Below.refl _ _).alloc (Nat.le_refl _) _, Lib.hid (fun _ => HL0.out), Lib.hid (fun h => by cases h)⟩
 case round =>
  obtain ⟨lg, g, cap, a, HLG, rfl, rfl, hown, hB, HAT, HAF⟩ := hrel
  obtain ⟨wo, rfl⟩ : ∃ wo : World, wo = wr := ⟨_, rfl⟩
  have HB := Lib.hid hB
  have HOW := Lib.hid hown
  have hsz := hB.size
  clear hB hown hmk
  cases a with
  |false =>
   go_wp2_with (fail)
   exact HLP.out _ _ _ _ rfl lg (HAF.out (by first | rfl | trivial)) HLG.out (ownsRow_mono HOW.out HB1.out.size) (HB1.out.trans (HB.out.mono HB1.out.size))
  |true =>
   have y0 := cellB HB.out HX0.out; have y1 := cellB HB.out HX1.out; have y2 := cellB HB.out HX2.out
   go_wp2_with (fail)
   go_at_call 141
   refine (HPL.out wo _ lg (HNI.out.below (HB1.out.trans (HB.out.mono HB1.out.size))) (LgAt.of HLG.out HOW.out) (by first | exact HLG.out | (rw [HLG.out]; assumption))).mono ?_
   rintro e w5 ⟨pv, rfl, hown5, hb5⟩
   obtain ⟨gp, cp, rfl⟩ := own_form hown5 h0
   have HP5 := Lib.hid hown5
   have HB5 := Lib.hid (HB.out.trans (hb5.mono hsz))
   have HOL := Lib.hid (ownsRow_below HOW.out hb5)
   have hsz5 := HB5.out.size
   have hwo5 := hb5.size
   have HNW : Hid (∀ X : World, Below w5.heap.size w5 X → ∀ j u, (bools lg)[j]? = some u → X.cell? ((⟨g, 0, none⟩ : Addr).add j) = some u) := Lib.hid (fun X hX j u hu => by
    have hjl : j < n := by
     rcases Nat.lt_or_ge j n with h | h
     ·exact h
     ·rw [List.getElem?_eq_none (by rw [bools_len, HLG.out]; exact h)] at hu; cases hu
    have := own_cell1 HOL.out hjl
    rw [hu] at this
    have := cellB hX this
    by_cases e : j = 0
    ·subst e; simpa [Addr.add] using this
    ·simpa [Addr.add, e] using this)
   clear hown5 hb5 y0 y1 y2
   go_wp2_with (first | (at_builtin; refine wpList_append_own _ rfl _ _ 183 (by rfl) w5.heap.size 4 i0 (.bool false) 1 1 Tryd.underlying183 hi hz0 hz1 hz2 rfl (by decide) _ 0 [] (by rfl) (ownLit0 _ _ _ rfl (Nat.le_refl _)) ⟨g, 0, none⟩ n cap (bools lg) (by rfl) (by rw [bools_len, HLG.out, Nat.mul_one]) (HNW.out _ (below1 _ _)) (by intro u hu; obtain ⟨b, _, rfl⟩ := List.mem_map.1 hu; rfl) (by unfold maxLen; omega) (by omega) (by simp) ?_; intro v6 w6 ho6 hg6 _; rw [Nat.zero_add, List.nil_append] at ho6; have HO6 := Lib.hid ho6; have HB6 := Lib.hid ((below1 w5 _).grown hg6 (by simp) (fun q hq => by simp [Value.ownBlock] at hq; omega)); clear ho6 hg6) | fail)
   obtain ⟨g6, c6, rfl⟩ := own_form HO6.out h0
   clear HNW
   go_loopw [4, 8, 9] (fun ag i d wr => ∃ k : Nat, k ≤ n ∧ i = .int .i64 k ∧ ag = .bool ((List.range k).any (needN xs lg)) ∧ wr.ownsRow w5.heap.size 4 1 (.slice (some ⟨g6, 0, none⟩) n c6) n (bools (nextK xs lg k)) ∧ Below w5.heap.size w5 wr) (fun _ i _ _ => n - (intOf i).toNat)
   case atStart => exact ⟨0, Nat.zero_le _, rfl, rfl, by rw [HZ0.out lg HLG.out]; exact HO6.out, HB6.out⟩
   case round =>
    obtain ⟨k, hk, rfl, rfl, hown7, hB7⟩ := hrel
    obtain ⟨wi, rfl⟩ : ∃ wi : World, wi = wr := ⟨_, rfl⟩
    have HO7 := Lib.hid hown7
    have HB7 := Lib.hid hB7
    have hsz7 := hB7.size
    have hb17 := HB5.out.trans (hB7.mono hsz5)
    have y2 := cellB hb17 HX2.out
    have HB17 := Lib.hid hb17
    clear hown7 hB7 hb17
    by_cases hlt : k < n
    ·have k0 : (0 : Int) ≤ k := by omega
     have k1 : (k : Int) < n := by omega
     obtain ⟨b, off, rfl, c0, c1, c2, c3, c4⟩ := HC.out k hlt
     obtain ⟨x, hxe⟩ : ∃ x, x = niAt xs k := ⟨_, rfl⟩
     obtain ⟨L, hLe⟩ : ∃ L, L = lg.getD k false := ⟨_, rfl⟩
     obtain ⟨jp, hjp⟩ : ∃ jp, jp = jmpN x.op := ⟨_, rfl⟩
     have hneed : needN xs lg k = (jp && !L && !(decide (-128 ≤ offN xs lg k) && decide (offN xs lg k ≤ 127))) := by unfold needN; rw [← hxe, ← hjp, ← hLe]
     have HJM := Lib.hid (fun w' => sjump_any w' x.op x.a x.b x.c x.n)
     rw [← hjp] at HJM
     have hcl := own_cell1 HOL.out hlt
     rw [bools_get (by rw [HLG.out]; exact hlt), ← hLe] at hcl
     have HCL : Hid (∀ W, Below w5.heap.size w5 W → W.cell? ⟨g, k, none⟩ = some (.bool L)) := Lib.hid (fun W h => cellB h hcl)
     have hbx := HX.out k hlt
     have hjn := HJ.out k hlt
     have hfr := HO7.out.frozenAt k
     have hce := own_cell1 HO7.out hlt
     have hlen7 := bools_get (i := k) (show k < (nextK xs lg k).length by rw [HKL.out]; exact hlt)
     rw [hlen7] at hce
     rw [← hxe] at c0 c1 c2 c3 c4 hbx hjn
     rw [← hjp] at hjn
     have C0 := Lib.hid c0; have C1 := Lib.hid c1; have C2 := Lib.hid c2; have C3 := Lib.hid c3; have C4 := Lib.hid c4
     have hb1w := HB1.out.trans (HB17.out.mono HB1.out.size)
     have t0 := cellB hb1w c0; have t1 := cellB hb1w c1; have t3 := cellB hb1w c2; have t4 := cellB hb1w c3; have t5 := cellB hb1w c4
     have HXE := Lib.hid hxe; have HLE := Lib.hid hLe; have HND := Lib.hid hneed; have HBX := Lib.hid hbx; have HJN := Lib.hid hjn
     clear hxe hLe hneed hjp hcl hbx hjn hfr hce hlen7 c0 c1 c2 c3 c4 hb1w
     go_wp2_with (fail)
     go_at_call 116
     refine (HJM.out _).mono ?_
     rintro e w7 ⟨rfl, hb7⟩
     have HB8 := Lib.hid (HB7.out.trans (hb7.mono hsz7))
     have HO8 := Lib.hid (ownsRow_below HO7.out hb7)
     have tl := HCL.out w7 HB8.out
     clear hb7 HB7 HO7 HJM t0 t1 t3 t4 t5 y2
     cases jp with
     |false =>
      have HNO : Hid (needN xs lg k = false) := Lib.hid (by rw [HND.out]; simp)
      go_wp2_with (fail)
      go_roundw
      case rel => exact ⟨k + 1, by omega, by go_num, by rw [any_succ, HNO.out, Bool.or_false], by rw [nextK_no HNO.out]; exact HO8.out, HB8.out⟩
      case measure => simp [intOf]; omega
     |true =>
      cases L with
      |true =>
       have HNO : Hid (needN xs lg k = false) := Lib.hid (by rw [HND.out]; simp)
       go_wp2_with (fail)
       go_roundw
       case rel => exact ⟨k + 1, by omega, by go_num, by rw [any_succ, HNO.out, Bool.or_false], by rw [nextK_no HNO.out]; exact HO8.out, HB8.out⟩
       case measure => simp [intOf]; omega
      |false =>
       obtain ⟨op, a, b', c, N⟩ := x
       obtain ⟨T, hT⟩ : ∃ T, T = plcN xs lg N := ⟨_, rfl⟩
       obtain ⟨P, hP⟩ : ∃ P, P = plcN xs lg k := ⟨_, rfl⟩
       obtain ⟨z, hz⟩ : ∃ z, z = sizN ⟨op, a, b', c, N⟩ false := ⟨_, rfl⟩
       have hNn : N < n := HJN.out (by first | rfl | trivial)
       have hoff : offN xs lg k = (T : Int) - P - z := by unfold offN; rw [← HXE.out, ← HLE.out, hT, hP, hz]
       have hneed := HND.out
       rw [hoff] at hneed
       have hT8 := HPN.out lg N (by omega)
       have hP8 := HPN.out lg k (by omega)
       rw [← hT] at hT8; rw [← hP] at hP8
       have hz4 := (sizN_le ⟨op, a, b', c, N⟩ false).2
       rw [← hz] at hz4
       have HSZE := Lib.hid (fun w' => ssize_any w' _ HBX.out false)
       rw [← hz] at HSZE
       simp only at HSZE
       have s1 : IntKind.i64.wrap ((T : Int) - P) = (T : Int) - P := IntWalk.i64_in _ (by omega)
       obtain ⟨D, hD⟩ : ∃ D : Int, D = (T : Int) - P - z := ⟨_, rfl⟩
       have s2 : IntKind.i64.wrap ((T : Int) - P - z) = D := by rw [hD]; exact IntWalk.i64_in _ (by omega)
       rw [← hD] at hneed
       obtain ⟨q, hq⟩ : ∃ q, inR (-128) 127 D = q := ⟨_, rfl⟩
       have hneed : needN xs lg k = !q := by rw [hneed, ← hq]; simp [inR]
       have HIN := Lib.hid (fun w' => l1In_named D (-128) 127 q hq w')
       have cT := own_cell1 HP5.out hNn
       rw [HPD.out lg N hNn, ← hT] at cT
       have cP := own_cell1 HP5.out hlt
       rw [HPD.out lg k hlt, ← hP] at cP
       have hKeep : ∀ W, Below w5.heap.size w5 W → (fun W => W.cell? ⟨w.heap.size, 2, none⟩ = some (.slice (some ⟨b, off, none⟩) n lc) ∧ W.cell? ⟨b, off + k * 5, none⟩ = some (.int .i64 (op : Int)) ∧ W.cell? ⟨b, off + k * 5 + 1, none⟩ = some (.int .i64 (a : Int)) ∧ W.cell? ⟨b, off + k * 5 + 2, none⟩ = some (.int .i64 (b' : Int)) ∧ W.cell? ⟨b, off + k * 5 + 3, none⟩ = some (.int .i64 (c : Int)) ∧ W.cell? ⟨b, off + k * 5 + 4, none⟩ = some (.int .i64 (N : Int)) ∧ W.cell? ⟨gp, k, none⟩ = some (.int .i64 (P : Int)) ∧ W.cell? ⟨gp, N, none⟩ = some (.int .i64 (T : Int))) W := fun W h => by
        have hA := HB5.out.trans (h.mono hsz5)
        have hB := HB1.out.trans (hA.mono HB1.out.size)
        exact ⟨cellB hA HX2.out, cellB hB C0.out, cellB hB C1.out, cellB hB C2.out, cellB hB C3.out, cellB hB C4.out, cellB h cP, cellB h cT⟩
       have k2 : (0 : Int) ≤ N := by omega
       have k3 : (N : Int) < n := by omega
       have HK := Lib.hid hKeep
       have HS1 := Lib.hid s1; have HS2 := Lib.hid s2
       have HNE := Lib.hid hneed
       clear hT hP hz hoff hneed hT8 hP8 hz4 hD hq cT cP hKeep HXE HLE HND HBX HJN C0 C1 C2 C3 C4 s1 s2
       go_wp2_with (fail)
       clear tl
       have hS2 := HK.out _ HB8.out
       have hS3 := HK.out _ HB8.out.drew
       have HB9 := Lib.hid HB8.out.drew
       have s1 := HS1.out; have s2 := HS2.out
       go_region_held3 (fun W => W.cell? ⟨w.heap.size, 2, none⟩ = some (.slice (some ⟨b, off, none⟩) n lc) ∧ W.cell? ⟨b, off + k * 5, none⟩ = some (.int .i64 (op : Int)) ∧ W.cell? ⟨b, off + k * 5 + 1, none⟩ = some (.int .i64 (a : Int)) ∧ W.cell? ⟨b, off + k * 5 + 2, none⟩ = some (.int .i64 (b' : Int)) ∧ W.cell? ⟨b, off + k * 5 + 3, none⟩ = some (.int .i64 (c : Int)) ∧ W.cell? ⟨b, off + k * 5 + 4, none⟩ = some (.int .i64 (N : Int)) ∧ W.cell? ⟨gp, k, none⟩ = some (.int .i64 (P : Int)) ∧ W.cell? ⟨gp, N, none⟩ = some (.int .i64 (T : Int))) (first | assumption) (first | (go_at_call 138; refine (HSZE.out _).mono ?_; rintro e w9 ⟨rfl, hb9⟩; have HB10 := Lib.hid (HB9.out.trans (hb9.mono HB9.out.size)); have HO10 := Lib.hid (ownsRow_below (show w7.drew.ownsRow w5.heap.size 4 1 (.slice (some ⟨g6, 0, none⟩) n c6) n (bools (nextK xs lg k)) from HO8.out) hb9); have hS4 := HK.out _ HB10.out; clear hb9))
       all_goals
        try clear hS2 hS3
        go_wp2_with (fail)
        go_at_call 61
        refine (HIN.out _).mono ?_
        rintro e _ ⟨rfl, rfl⟩
        cases q with
        |true =>
         have HNO : Hid (needN xs lg k = false) := Lib.hid (by rw [HNE.out]; rfl)
         go_wp2_with (fail)
         go_roundw
         case rel => exact ⟨k + 1, by omega, by go_num, by rw [any_succ, HNO.out, Bool.or_false], by rw [nextK_no HNO.out]; exact HO10.out, HB10.out⟩
         case measure => simp [intOf]; omega
        |false =>
         have HYE : Hid (needN xs lg k = true) := Lib.hid (by rw [HNE.out]; rfl)
         have hfr := HO10.out.frozenAt k
         have hce := own_cell1 HO10.out hlt
         rw [bools_get (i := k) (show k < (nextK xs lg k).length by rw [HKL.out]; exact hlt)] at hce
         obtain ⟨ho11, hg11⟩ := HO10.out.stored k (.bool true)
         have HO11 := Lib.hid ho11
         have HG11 := Lib.hid hg11
         clear ho11 hg11
         go_wp2_with (fail)
         go_roundw
         case rel => exact ⟨k + 1, by omega, by go_num, by rw [any_succ, HYE.out, Bool.or_true], by rw [nextK_yes HYE.out, ← bools_set]; exact HO11.out, HB10.out.grown HG11.out HB10.out.size (fun q hq => by injection hq with hq; subst hq; exact (ownsRow_lt HO10.out).2.1)⟩
         case measure => simp [intOf]; omega
    ·obtain rfl : k = n := by omega
     have HNX : Hid (wi.ownsRow w5.heap.size 4 1 (.slice (some ⟨g6, 0, none⟩) k c6) k (bools (nextN xs lg))) := Lib.hid (by rw [← HZA.out]; exact HO7.out)
     go_wp2_with (fail)
     go_roundw
     case rel =>
      refine ⟨nextN xs lg, g6, c6, (List.range k).any (needN xs lg), Lib.hid (HNL.out lg), rfl, rfl, ownsRow_mono HNX.out hsz5, HB17.out, Lib.hid (fun h => ?_), Lib.hid (fun h => ?_)⟩
      ·have h2 := HST.out lg HLG.out
       rw [if_pos h] at h2
       rw [← h2]; exact HAT.out (by first | rfl | trivial)
      ·have h2 := HST.out lg HLG.out
       rw [h] at h2
       rw [HSM.out lg HLG.out h, ← HAT.out (by first | rfl | trivial)]
       simpa using h2.symm
     case measure =>
      rw [readL_of HLG.out HOW.out, readL_of (HNL.out lg) HNX.out]
      cases h : (List.range k).any (needN xs lg) with
      |true => have := HSN.out lg HLG.out h; simp [isTr]; omega
      |false => simp [isTr]
end Go.Proofs.YtbdbmmdnidonjaaDoor
set_option maxRecDepth 100000
namespace Go.Proofs.YtbdbmmdnidonjaaDoor
open Go.RowKit
/-- a readable slice of natural numbers -/
def NatsAt (w : World) (v : Value) (xs : List Nat) : Prop :=
 ∃ a cap, v = .slice a xs.length cap ∧ ∀ i, i < xs.length → ∃ b off, a = some ⟨b, off, none⟩ ∧ w.cell? ⟨b, off + i, none⟩ = some (.int .i64 ((xs.getD i 0 : Nat) : Int))
theorem NatsAt.below {w w' : World} {v : Value} {xs : List Nat} (h : NatsAt w v xs) (hb : Below w.heap.size w w') : NatsAt w' v xs := by
 obtain ⟨a, cap, hv, hc⟩ := h
 refine ⟨a, cap, hv, fun i hi => ?_⟩
 obtain ⟨b, off, ha, c0⟩ := hc i hi
 exact ⟨b, off, ha, cellB hb c0⟩
theorem NatsAt.of {w : World} {B : Nat} {v : Value} {xs : List Nat} (h : w.ownsRow B 3 1 v xs.length (nats xs)) : NatsAt w v xs := by
 rcases Nat.eq_zero_or_pos xs.length with h0 | h0
 ·rcases h.2 with ⟨hv, _⟩ | ⟨g, cap, cur, hv, _⟩
  ·exact ⟨none, 0, by rw [hv, h0], fun i hi => by omega⟩
  ·exact ⟨_, cap, hv, fun i hi => by omega⟩
 ·obtain ⟨g, cap, rfl⟩ := own_form h h0
  refine ⟨_, cap, rfl, fun i hi => ⟨g, 0, rfl, ?_⟩⟩
  rw [Nat.zero_add, own_cell1 h hi, nats_get hi]
/-- where z stands first, or -1 -/
def IsAt (xs : List Nat) (z r : Int) : Prop :=
 (r = -1 ∧ ∀ j, j < xs.length → ((xs.getD j 0 : Nat) : Int) ≠ z) ∨ ∃ k : Nat, r = k ∧ k < xs.length ∧ ((xs.getD k 0 : Nat) : Int) = z ∧ ∀ j, j < k → ((xs.getD j 0 : Nat) : Int) ≠ z
end Go.Proofs.YtbdbmmdnidonjaaDoor
