/- How a law closes: the call answers true and leaves what was there as it was. No conditions. The reader of the draws (l30Rd): what a pick does. No conditions. What the reading of an argument gives: []byte, []int. No conditions. Slices of ints: a copy, a comparison. No conditions. What a run has, and how it ends (taken out of the machine's model). No program in sight. Small facts on rows of the call's own. Blocks of memory as lists of values; what a run may turn. No program in sight. Small lemmas (taken out of other texts). No program in sight. Programs as trees, and how they lie in memory. No program in sight. What a program of trees means: an interpreter with gas. No program in sight. The interpreter of trees: more gas changes nothing. No program in sight. -/
import Derived.Test.YtpnliencahnmoaaGreatDoorRows
import Derived.WalkKit
import Derived.ProofKit
import Derived.OpenShut
import Derived.JoinedCond
import Derived.WalkSpells
import Derived.WalkLawsBesides
import Derived.Lib.Hide
import Derived.Deep.QuietTactic
import Derived.BigQuiet
import Derived.Carry
import Derived.Deep.AppendLies
import Derived.StillTailTactics
import Derived.Deep.RegionHeld3
set_option linter.unusedVariables false
set_option linter.unusedSimpArgs false
set_option linter.unusedVariables false
set_option linter.unusedSimpArgs false
namespace Go.Proofs.YtpnliencahnmoaaGreatDoor.Lw
open Go.ChangeShapes Go.WideShapes Go.ChangeAt Go.RowKit
theorem trodAll_below {H : Type} {enc : TypeId × Value → H} {P : Program} (hl : laidOutB P = true) {W W' : World} (hb : Below W.heap.size W W') :
    ∀ (ts : List TypeId), (∀ t ∈ ts, P.readableRec t = true ∧ t < P.types.size) → ∀ (vs : List Value) (ds : List (DataW H)) (ps : List MemPlace),
    DataW.TrodAll enc P W 0 (fun _ => true) true ts vs ds ps → (∀ x ∈ ps, x.block < W.heap.size) →
    DataW.TrodAll enc P W' 0 (fun b => decide (b < W.heap.size)) true ts vs ds ps
  | [], _, [], [], _, h, _ => h
  | [], _, _ :: _, _, _, h, _ => by simp [DataW.TrodAll] at h
  | [], _, [], _ :: _, _, h, _ => by simp [DataW.TrodAll] at h
  | _ :: _, _, [], _, _, h, _ => by simp [DataW.TrodAll] at h
  | _ :: _, _, _ :: _, [], _, h, _ => by simp [DataW.TrodAll] at h
  | t :: ts, hr, v :: vs, d :: ds, ps, h, hlt => by
    obtain ⟨p, q, h1, h2, rfl⟩ := h
    refine ⟨p, q, ?_, trodAll_below hl hb ts (fun t ht => hr t (List.mem_cons_of_mem _ ht)) vs ds q h2 (fun x hx => hlt x (List.mem_append_right _ hx)), rfl⟩
    exact Below.trod hl (hr t (List.mem_cons_self ..)).1 (hr t (List.mem_cons_self ..)).2 h1 hb (fun x hx => hlt x (List.mem_append_left _ hx))
end Go.Proofs.YtpnliencahnmoaaGreatDoor.Lw

set_option linter.unusedVariables false
set_option linter.unusedSimpArgs false
namespace Go.Proofs.YtpnliencahnmoaaGreatDoor
open Go.RowKit
/-- as it was but for the blocks of the list and for new blocks -/
structure Only (bs : List Nat) (w w' : World) : Prop where
  os : w'.os = w.os
  tape : w'.tape = w.tape
  output : w'.output = w.output
  size : w.heap.size ≤ w'.heap.size
  block : ∀ k, k < w.heap.size → k ∉ bs → w'.heap[k]? = w.heap[k]?
theorem Only.refl (bs : List Nat) (w : World) : Only bs w w := ⟨rfl, rfl, rfl, Nat.le_refl _, fun _ _ _ => rfl⟩
theorem Only.trans {bs : List Nat} {a b c : World} (h : Only bs a b) (k : Only bs b c) : Only bs a c :=
  ⟨k.os.trans h.os, k.tape.trans h.tape, k.output.trans h.output, Nat.le_trans h.size k.size, fun i hi hn => (k.block i (Nat.lt_of_lt_of_le hi h.size) hn).trans (h.block i hi hn)⟩
theorem Only.mono {bs cs : List Nat} {a b : World} (h : Only bs a b) (hs : ∀ x ∈ bs, x ∈ cs) : Only cs a b :=
  ⟨h.os, h.tape, h.output, h.size, fun k hk hn => h.block k hk (fun hb => hn (hs k hb))⟩
theorem Only.below {bs : List Nat} {B : Nat} {a w w' : World} (h : Below B a w) (k : Only bs w w') (hB : B ≤ w.heap.size) (hb : ∀ b ∈ bs, B ≤ b) : Below B a w' :=
  h.trans ⟨k.os, k.tape, k.output, k.size, fun i hi => k.block i (Nat.lt_of_lt_of_le hi hB) (fun hm => by have := hb i hm; omega)⟩
theorem Only.of_below {w w' : World} (h : Below w.heap.size w w') (bs : List Nat) : Only bs w w' :=
  ⟨h.os, h.tape, h.output, h.size, fun k hk _ => h.block k hk⟩
theorem Only.alloc {bs : List Nat} {a w : World} (h : Only bs a w) (o : Obj) : Only bs a (w.alloc o) :=
  h.trans (Only.of_below ((Below.refl _ _).alloc (Nat.le_refl _) o) bs)
theorem Only.drew {bs : List Nat} {a w : World} (h : Only bs a w) : Only bs a w.drew := h.trans (Only.of_below (Below.refl _ _).drew bs)
theorem Only.drewN {bs : List Nat} {a w : World} (h : Only bs a w) (n : Nat) : Only bs a (w.drewN n) := ⟨h.os, h.tape, h.output, h.size, h.block⟩
theorem Only.setCell {bs : List Nat} {a w : World} (h : Only bs a w) {p : Addr} (hp : p.block ∈ bs) (u : Value) : Only bs a (w.setCell p u) :=
  h.trans ⟨rfl, rfl, rfl, by simp [World.setCell], fun k _ hn => Below.heap_setCell _ _ _ _ (fun e => hn (e ▸ hp))⟩
theorem Only.cell {bs : List Nat} {w w' : World} (h : Only bs w w') {p : Addr} (hp : p.block < w.heap.size) (hn : p.block ∉ bs) : w'.cell? p = w.cell? p :=
  World.cell?_of_block (w := w) (h.block p.block hp hn)
/-- a slice of bytes that reads as xs; its block is older than r -/
def Bytes (w : World) (r : Nat) (v : Value) (xs : List Int) : Prop :=
  (∀ i, i < xs.length → 0 ≤ xs.getD i 0 ∧ xs.getD i 0 < 256) ∧
  ((xs = [] ∧ ∃ a cap, v = .slice a 0 cap) ∨ ∃ b off cap, v = .slice (some ⟨b, off, none⟩) xs.length cap ∧ xs.length ≤ cap ∧ b < r ∧ b < w.heap.size ∧ ∀ i, i < xs.length → w.cell? ⟨b, off + i, none⟩ = some (.int .u8 (xs.getD i 0)))
theorem Bytes.only {w w' : World} {r : Nat} {v : Value} {xs : List Int} (h : Bytes w r v xs) (k : Only [r] w w') : Bytes w' r v xs := by
  obtain ⟨hx, h⟩ := h
  refine ⟨hx, ?_⟩
  rcases h with h | ⟨b, off, cap, hv, hc, hb, hs, hcell⟩
  · exact .inl h
  · refine .inr ⟨b, off, cap, hv, hc, hb, Nat.lt_of_lt_of_le hs k.size, fun i hi => ?_⟩
    rw [k.cell (p := ⟨b, off + i, none⟩) hs (by simp; omega)]
    exact hcell i hi
/-- a reader at block r that has picked at most N times -/
def Rd (w : World) (r N : Nat) : Prop :=
  ∃ (v : Value) (xs : List Int) (p : Nat), w.heap[r]? = some (.cells #[v, .int .i64 p] 87 (0, 0)) ∧ p ≤ N ∧ xs.length ≤ 2000 ∧ Bytes w r v xs
theorem Rd.lt {w : World} {r N : Nat} (h : Rd w r N) : r < w.heap.size := by
  obtain ⟨v, xs, p, h, _⟩ := h
  rcases Nat.lt_or_ge r w.heap.size with hl | hl
  · exact hl
  · simp [Array.getElem?_eq_none hl] at h
theorem Rd.mono {w : World} {r N M : Nat} (h : Rd w r N) (hN : N ≤ M) : Rd w r M := by
  obtain ⟨v, xs, p, h, hp, hl, hb⟩ := h
  exact ⟨v, xs, p, h, by omega, hl, hb⟩
/-- what turns no block up to r turns no reader -/
theorem Rd.belowr {w w' : World} {r N : Nat} (h : Rd w r N) (hb : Below (r + 1) w w') : Rd w' r N := by
  obtain ⟨v, xs, p, h, hp, hl, hx, hB⟩ := h
  refine ⟨v, xs, p, by rw [hb.block r (by omega)]; exact h, hp, hl, hx, ?_⟩
  rcases hB with h | ⟨b, off, cap, hv, hc, hbr, hs, hcell⟩
  · exact .inl h
  · exact .inr ⟨b, off, cap, hv, hc, hbr, Nat.lt_of_lt_of_le hs hb.size, fun i hi => by rw [hb.cell (p := ⟨b, off + i, none⟩) (by simp; omega)]; exact hcell i hi⟩
theorem Rd.below {w w' : World} {r N : Nat} (h : Rd w r N) (hb : Below w.heap.size w w') : Rd w' r N := h.belowr (hb.mono h.lt)
theorem Rd.alloc {w : World} {r N : Nat} (h : Rd w r N) (o : Obj) : Rd (w.alloc o) r N := h.below ((Below.refl _ _).alloc (Nat.le_refl _) o)
theorem Rd.drew {w : World} {r N : Nat} (h : Rd w r N) : Rd w.drew r N := h.below (Below.refl _ _).drew
theorem Rd.drewN {w : World} {r N : Nat} (h : Rd w r N) (n : Nat) : Rd (w.drewN n) r N := h.below ⟨rfl, rfl, rfl, Nat.le_refl _, fun _ _ => rfl⟩
theorem Rd.setCell {w : World} {r N : Nat} (h : Rd w r N) {p : Addr} (hp : r < p.block) (u : Value) : Rd (w.setCell p u) r N := h.belowr ((Below.refl _ _).setCell hp u)
theorem Rd.grown {w w' : World} {r N : Nat} {row : Option Nat} (h : Rd w r N) (hg : w.grownBy w' row) (hr : ∀ k, row = some k → r < k) : Rd w' r N :=
  h.belowr ((Below.refl _ _).grown hg h.lt (fun k hk => hr k hk))
theorem Only.grown {bs : List Nat} {a w w' : World} {row : Option Nat} (h : Only bs a w) (hg : w.grownBy w' row) (hr : ∀ k, row = some k → a.heap.size ≤ k) : Only bs a w' := by
  refine ⟨hg.os.trans h.os, hg.tape.trans h.tape, hg.output.trans h.output, Nat.le_trans h.size hg.size, fun k hk hn => ?_⟩
  rw [hg.block k (Nat.lt_of_lt_of_le hk h.size) (fun e => by have := hr k e.symm; omega)]
  exact h.block k hk hn
theorem Only.setCellNew {bs : List Nat} {a w : World} (h : Only bs a w) {p : Addr} (hp : a.heap.size ≤ p.block) (u : Value) : Only bs a (w.setCell p u) := by
  refine ⟨h.os, h.tape, h.output, Nat.le_trans h.size (by simp [World.setCell]), fun k hk hn => ?_⟩
  rw [Below.heap_setCell _ _ _ _ (by omega)]
  exact h.block k hk hn
/-- a row of the call's own stands while only block r turns, an older one -/
theorem ownsRow_only {w w' : World} {base : Nat} {e : TypeId} {size : Nat} {v : Value} {n : Nat} {xs : List Value} (h : w.ownsRow base e size v n xs) {bs : List Nat} (ho : Only bs w w') (hb : ∀ b ∈ bs, b < base) : w'.ownsRow base e size v n xs := by
  obtain ⟨h1, h2⟩ := h
  refine ⟨h1, ?_⟩
  rcases h2 with h2 | ⟨g, cap, cur, hv, hg, hh, r⟩
  · exact Or.inl h2
  · have hlt : g < w.heap.size := by
      rcases Nat.lt_or_ge g w.heap.size with hl | hl
      · exact hl
      · simp [Array.getElem?_eq_none hl] at hh
    exact Or.inr ⟨g, cap, cur, hv, hg, by rw [ho.block g hlt (fun hm => by have := hb g hm; omega)]; exact hh, r⟩
end Go.Proofs.YtpnliencahnmoaaGreatDoor

set_option linter.unusedVariables false
set_option linter.unusedSimpArgs false
set_option maxRecDepth 100000
namespace Go.Proofs.YtpnliencahnmoaaGreatDoor.Arg
open Go.ChangeShapes Go.WideShapes Go.ChangeAt Go.RowKit
theorem own : ownKnob Tryz.prog.godebug = none := by kernel_rfl
theorem laidOut : laidOutB Tryz.prog = true := by kernel_rfl
theorem add_eq (b off i : Nat) : (⟨b, off, none⟩ : Addr).add i = ⟨b, off + i, none⟩ := by
  simp only [Addr.add]
  split
  · rename_i h; subst h; rfl
  · rfl
end Go.Proofs.YtpnliencahnmoaaGreatDoor.Arg

set_option linter.unusedVariables false
set_option linter.unusedSimpArgs false
set_option maxRecDepth 100000
namespace Go.Proofs.YtpnliencahnmoaaGreatDoor
open Go.RowKit
theorem info_int : (Tryz.prog.info? 3).map (fun i => (i.zero, i.size, i.bytes)) = some (some (.int .i64 0), 1, 8) := by kernel_rfl
/-- the slice v reads as the numbers zs -/
def IntsAt (w : World) (v : Value) (zs : List Int) : Prop :=
  ∃ a cap, v = .slice a zs.length cap ∧ ∀ i, i < zs.length → ∃ b off, a = some ⟨b, off, none⟩ ∧ w.cell? ⟨b, off + i, none⟩ = some (.int .i64 (zs.getD i 0))
theorem IntsAt.below {w w' : World} {v : Value} {zs : List Int} (h : IntsAt w v zs) (hb : Below w.heap.size w w') : IntsAt w' v zs := by
  obtain ⟨a, cap, hv, hc⟩ := h
  refine ⟨a, cap, hv, fun i hi => ?_⟩
  obtain ⟨b, off, ha, hcell⟩ := hc i hi
  exact ⟨b, off, ha, by rw [hb.cell (World.block_lt_of_cell? _ _ hcell)]; exact hcell⟩
def ints (zs : List Int) : List Value := zs.map (Value.int .i64)
theorem intsAt_own {w : World} {B g cap : Nat} {zs : List Int} (h : w.ownsRow B 3 1 (.slice (some ⟨g, 0, none⟩) zs.length cap) zs.length (ints zs)) : IntsAt w (.slice (some ⟨g, 0, none⟩) zs.length cap) zs := by
  refine ⟨_, _, rfl, fun i hi => ⟨g, 0, rfl, ?_⟩⟩
  rw [Nat.zero_add, h.cellAt i (by omega)]
  simp [ints, List.getD_eq_getElem?_getD, List.getElem?_eq_getElem hi]
/-- it says yes, and turns nothing -/
def Yes (w : World) (e : Ending) (w' : World) : Prop := e = .returned (.bool true) ∧ Below w.heap.size w w'
set_option maxHeartbeats 1000000 in
theorem eqIntS_same (w : World) (a a2 : Option Addr) (cap cap2 n : Nat) (zs : List Int) (hl : zs.length = n) (hm : n ≤ 1099511627776)
    (hc : ∀ i, i < zs.length → ∃ b off, a = some ⟨b, off, none⟩ ∧ w.cell? ⟨b, off + i, none⟩ = some (.int .i64 (zs.getD i 0)))
    (hc2 : ∀ i, i < zs.length → ∃ b off, a2 = some ⟨b, off, none⟩ ∧ w.cell? ⟨b, off + i, none⟩ = some (.int .i64 (zs.getD i 0))) :
    Calls Tryz.prog 9 #[.slice a n cap, .slice a2 n cap2] w (Yes w) := by
  have Hc := Lib.hid hc
  have Hc2 := Lib.hid hc2
  have Hl := Lib.hid hl
  clear hc hl hc2
  go_enter Tryz.func9, Tryz.ntmps9
  go_wp2
  go_loopw [5] (fun i wr => ∃ k : Nat, k ≤ n ∧ i = .int .i64 k ∧ ∃ m, wr = w.drewN m) (fun i _ => n - (intOf i).toNat)
  case atStart => exact ⟨0, Nat.zero_le _, rfl, 0, rfl⟩
  case round =>
    obtain ⟨k, hk, rfl, m, rfl⟩ := hrel
    by_cases hlt : k < n
    · obtain ⟨b, off, rfl, hcell⟩ := Hc.out k (by rw [Hl.out]; exact hlt)
      obtain ⟨b2, off2, rfl, hcell2⟩ := Hc2.out k (by rw [Hl.out]; exact hlt)
      generalize zs.getD k 0 = z at *
      have hd : ∀ m', (w.drewN m').cell? ⟨b, off + k, none⟩ = some (.int .i64 z) := fun _ => hcell
      have hd2 : ∀ m', (w.drewN m').cell? ⟨b2, off2 + k, none⟩ = some (.int .i64 z) := fun _ => hcell2
      have k0 : (0 : Int) ≤ k := by omega
      have k1 : (k : Int) < n := by omega
      go_wp2
      go_quiet (fail)
      go_wp2
      go_roundw
      case rel => exact ⟨k + 1, by omega, by go_num, _, rfl⟩
      case measure => simp [intOf]; omega
    · obtain rfl : k = n := by omega
      go_wp2
      go_ret
      exact ⟨rfl, rfl, rfl, rfl, Nat.le_refl _, fun _ _ => rfl⟩
theorem eqInts {w : World} {v v2 : Value} {zs : List Int} (h : IntsAt w v zs) (h2 : IntsAt w v2 zs) (hm : zs.length ≤ 1099511627776) : Calls Tryz.prog 9 #[v, v2] w (Yes w) := by
  obtain ⟨a, cap, rfl, hc⟩ := h
  obtain ⟨a2, cap2, rfl, hc2⟩ := h2
  exact eqIntS_same w a a2 cap cap2 _ zs rfl hm hc hc2
end Go.Proofs.YtpnliencahnmoaaGreatDoor

set_option linter.unusedVariables false
set_option linter.unusedSimpArgs false
set_option maxRecDepth 100000
namespace Go.Proofs.YtpnliencahnmoaaGreatDoor
open Go.RowKit
/-- what a run has -/
structure Cm where
  cells : List Nat
  said : List Nat
  left : Nat
  trace : List Nat
inductive Rs where
  | ret (v : Nat) (s : Cm)
  | stop (e : Nat) (s : Cm)
def arithN (op a b : Nat) : Option Nat :=
  if op = 3 then some ((a + b) % 256) else if op = 4 then some ((a + 256 - b) % 256) else if op = 5 then some (a * b % 256)
  else if op = 8 then some (if a < b then 1 else 0) else if op = 9 then some (if a = b then 1 else 0)
  else if b = 0 then none else if op = 6 then some (a / b) else some (a % b)
/-- all are bytes -/
def Small (xs : List Nat) : Prop := ∀ x ∈ xs, x < 256
theorem Small.at {xs : List Nat} (h : Small xs) (i : Nat) : xs.getD i 0 < 256 := by
  rw [List.getD_eq_getElem?_getD]
  rcases Nat.lt_or_ge i xs.length with hi | hi
  · rw [List.getElem?_eq_getElem hi]; exact h _ (List.getElem_mem _)
  · rw [List.getElem?_eq_none hi]; simp
theorem Small.set {xs : List Nat} (h : Small xs) (i v : Nat) (hv : v < 256) : Small (xs.set i v) := fun x hx => by
  rcases List.mem_or_eq_of_mem_set hx with h1 | h1
  · exact h x h1
  · omega
theorem Small.snoc {xs : List Nat} (h : Small xs) (v : Nat) (hv : v < 256) : Small (xs ++ [v]) := fun x hx => by
  rcases List.mem_append.mp hx with h1 | h1
  · exact h x h1
  · rw [List.mem_singleton] at h1; omega
structure CmOk (s : Cm) : Prop where
  cells : s.cells.length = 16
  cellsS : Small s.cells
  saidS : Small s.said
theorem arithN_lt {op a b v : Nat} (ha : a < 256) (hb : b < 256) (h : arithN op a b = some v) : v < 256 := by
  unfold arithN at h
  repeat' split at h
  all_goals (first | cases h | (injection h with h; subst h))
  all_goals (first | omega | (split <;> omega) | skip)
  · exact Nat.lt_of_le_of_lt (Nat.div_le_self _ _) ha
  · exact Nat.lt_of_lt_of_le (Nat.mod_lt _ (by omega)) (by omega)
def Rs.cm : Rs → Cm
  | .ret _ s => s
  | .stop _ s => s
end Go.Proofs.YtpnliencahnmoaaGreatDoor

set_option linter.unusedVariables false
set_option linter.unusedSimpArgs false
set_option maxRecDepth 100000
namespace Go.Proofs.YtpnliencahnmoaaGreatDoor
open Go.RowKit
theorem info_str : (Tryz.prog.info? 9).map (fun i => (i.zero, i.size, i.bytes)) = some (some (.string .empty), 1, 16) := by kernel_rfl
theorem ownBlock_of {B : Nat} {w : World} {e : TypeId} {size : Nat} {v : Value} {n : Nat} {xs : List Value} (h : w.ownsRow B e size v n xs) (k : Nat) (hk : v.ownBlock = some k) : B ≤ k := by
  rcases h.2 with ⟨rfl, _⟩ | ⟨g, cap, cur, rfl, hg, _⟩
  · simp [Value.ownBlock] at hk
  · simp [Value.ownBlock] at hk; omega
theorem ownsRow_empty (w : World) (e : TypeId) (size : Nat) : (w.alloc (.cells #[] e)).ownsRow w.heap.size e size (.slice (some ⟨w.heap.size, 0, none⟩) 0 0) 0 [] :=
  ⟨by simp, .inr ⟨_, 0, #[], rfl, Nat.le_refl _, by (show (w.heap.push _)[w.heap.size]? = _); simp, Nat.le_refl _, by decide, by simp, by simp⟩⟩
theorem ownsRow_lt {B : Nat} {w : World} {e : TypeId} {size : Nat} {g n cap : Nat} {xs : List Value} (h : w.ownsRow B e size (.slice (some ⟨g, 0, none⟩) n cap) n xs) : g < w.heap.size ∧ B ≤ g ∧ n ≤ cap := by
  rcases h.2 with ⟨h', _⟩ | ⟨g', cap', cur, h', hg, hh, hnc, _⟩
  · simp at h'
  · injection h' with h1 _ h2
    injection h1 with h1
    injection h1 with h1
    subst h1; subst h2
    refine ⟨?_, hg, hnc⟩
    rcases Nat.lt_or_ge g w.heap.size with hl | hl
    · exact hl
    · simp [Array.getElem?_eq_none hl] at hh
theorem ownsRow_form {B : Nat} {w : World} {e : TypeId} {size : Nat} {v : Value} {n : Nat} {xs : List Value} (h : w.ownsRow B e size v n xs) (hne : v ≠ .slice none 0 0) : ∃ g cap, v = .slice (some ⟨g, 0, none⟩) n cap := by
  rcases h.2 with ⟨h', _⟩ | ⟨g', cap', cur, h', _⟩
  · exact absurd h' hne
  · exact ⟨g', cap', h'⟩
/-- a row of the call's own stands while what is below its base may turn -/
theorem ownsRow_below {w w' : World} {B : Nat} {e : TypeId} {size : Nat} {v : Value} {n : Nat} {xs : List Value} (h : w.ownsRow B e size v n xs) (hb : Below w.heap.size w w') : w'.ownsRow B e size v n xs :=
  ownsRow_only h (Only.of_below hb []) (by simp)
theorem ownsRow_mono {w : World} {B B' : Nat} {e : TypeId} {size : Nat} {v : Value} {n : Nat} {xs : List Value} (h : w.ownsRow B e size v n xs) (hB : B' ≤ B) : w.ownsRow B' e size v n xs := by
  obtain ⟨h1, h2⟩ := h
  refine ⟨h1, ?_⟩
  rcases h2 with h2 | ⟨g, cap, cur, hv, hg, r⟩
  · exact .inl h2
  · exact .inr ⟨g, cap, cur, hv, Nat.le_trans hB hg, r⟩
end Go.Proofs.YtpnliencahnmoaaGreatDoor

set_option linter.unusedVariables false
set_option linter.unusedSimpArgs false
set_option maxRecDepth 100000
namespace Go.Proofs.YtpnliencahnmoaaGreatDoor
open Go.RowKit
/-- block p holds these cells, none of them frozen -/
def Blk (w : World) (p : Nat) (xs : List Value) : Prop := ∃ cur t, w.heap[p]? = some (.cells cur t (0, 0)) ∧ cur.toList = xs
theorem Blk.lt {w : World} {p : Nat} {xs : List Value} (h : Blk w p xs) : p < w.heap.size := by
  obtain ⟨cur, t, h, _⟩ := h
  exact (Array.getElem?_eq_some_iff.1 h).1
theorem Blk.cell {w : World} {p : Nat} {xs : List Value} (h : Blk w p xs) (j : Nat) : w.cell? ⟨p, j, none⟩ = xs[j]? := by
  obtain ⟨cur, t, h, rfl⟩ := h
  rw [cell_of_row w p j cur t (0, 0) h]; simp
theorem Blk.frozen {w : World} {p : Nat} {xs : List Value} (h : Blk w p xs) (j : Nat) : w.frozen? ⟨p, j, none⟩ = false := by
  obtain ⟨cur, t, h, _⟩ := h
  exact frozen_of_row w p j cur t h
theorem Blk.same {w w' : World} {p : Nat} {xs : List Value} (h : Blk w p xs) (hb : w'.heap[p]? = w.heap[p]?) : Blk w' p xs := by
  obtain ⟨cur, t, h, hx⟩ := h
  exact ⟨cur, t, by rw [hb]; exact h, hx⟩
theorem Blk.set {w : World} {p : Nat} {xs : List Value} (h : Blk w p xs) (j : Nat) (u : Value) : Blk (w.setCell ⟨p, j, none⟩ u) p (xs.set j u) := by
  obtain ⟨cur, t, h, rfl⟩ := h
  exact ⟨cur.setIfInBounds j u, t, heap_setCell_same w p j cur t u h, by simp⟩
theorem Blk.other {w : World} {p : Nat} {xs : List Value} (h : Blk w p xs) {a : Addr} (ha : p ≠ a.block) (u : Value) : Blk (w.setCell a u) p xs :=
  h.same (Below.heap_setCell _ _ _ _ ha)
theorem Blk.alloc {w : World} {p : Nat} {xs : List Value} (h : Blk w p xs) (o : Obj) : Blk (w.alloc o) p xs := h.same (Below.heap_alloc _ _ _ h.lt)
theorem Blk.drew {w : World} {p : Nat} {xs : List Value} (h : Blk w p xs) : Blk w.drew p xs := h
theorem Blk.drewN {w : World} {p : Nat} {xs : List Value} (h : Blk w p xs) (n : Nat) : Blk (w.drewN n) p xs := h
theorem Blk.new (w : World) (cs : Array Value) (t : TypeId) : Blk (w.alloc (.cells cs t)) w.heap.size cs.toList := ⟨cs, t, heap_alloc_new w _, rfl⟩
theorem Blk.grown {w w' : World} {p : Nat} {xs : List Value} {row : Option Nat} (h : Blk w p xs) (hg : w.grownBy w' row) (hr : row ≠ some p) : Blk w' p xs :=
  h.same (hg.block p h.lt (fun e => hr e.symm))
theorem Blk.below {w w' : World} {p : Nat} {xs : List Value} (h : Blk w p xs) (hb : Below w.heap.size w w') : Blk w' p xs := h.same (hb.block p h.lt)
def nats (xs : List Nat) : List Value := xs.map fun (n : Nat) => Value.int .i64 (n : Int)
theorem nats_len (xs : List Nat) : (nats xs).length = xs.length := by simp [nats]
theorem nats_get {xs : List Nat} {i : Nat} (h : i < xs.length) : (nats xs)[i]? = some (.int .i64 ((xs.getD i 0 : Nat) : Int)) := by
  simp [nats, List.getD_eq_getElem?_getD, List.getElem?_eq_getElem h]
theorem nats_set (xs : List Nat) (i v : Nat) : (nats xs).set i (.int .i64 (v : Int)) = nats (xs.set i v) := by simp [nats]
theorem nats_zeros (n : Nat) : List.replicate n (Value.int .i64 0) = nats (List.replicate n 0) := by simp [nats]
/-- what a run may turn: the blocks of a list, the row that it says into; new blocks as it likes -/
structure Fr (fx : List Nat) (sv : Value) (w : World) (sv' : Value) (w' : World) : Prop where
  only : Only (fx ++ sv.ownBlock.toList) w w'
  row : sv'.ownBlock = sv.ownBlock ∨ ∀ k, sv'.ownBlock = some k → w.heap.size ≤ k
theorem Fr.refl (fx : List Nat) (sv : Value) (w : World) : Fr fx sv w sv w := ⟨Only.refl _ _, .inl rfl⟩
theorem Fr.trans {fx : List Nat} {sa sb sc : Value} {a b c : World} (h : Fr fx sa a sb b) (k : Fr fx sb b sc c) : Fr fx sa a sc c := by
  refine ⟨⟨k.only.os.trans h.only.os, k.only.tape.trans h.only.tape, k.only.output.trans h.only.output, Nat.le_trans h.only.size k.only.size, fun i hi hn => ?_⟩, ?_⟩
  · rw [k.only.block i (Nat.lt_of_lt_of_le hi h.only.size) ?_, h.only.block i hi hn]
    intro hm
    rcases List.mem_append.1 hm with hm | hm
    · exact hn (List.mem_append_left _ hm)
    · have hm : sb.ownBlock = some i := by simpa using hm
      rcases h.row with he | he
      · exact hn (List.mem_append_right _ (by rw [← he, hm]; simp))
      · have := he i hm; omega
  · rcases k.row with he | he
    · rw [he]; exact h.row
    · exact .inr fun i hi => Nat.le_trans h.only.size (he i hi)
theorem Fr.below {fx : List Nat} {sv : Value} {w w' : World} (h : Below w.heap.size w w') : Fr fx sv w sv w' := ⟨Only.of_below h _, .inl rfl⟩
theorem Fr.block {fx : List Nat} {sv sv' : Value} {w w' : World} (h : Fr fx sv w sv' w') {k : Nat} (hk : k < w.heap.size) (hf : k ∉ fx) (hs : sv.ownBlock ≠ some k) : w'.heap[k]? = w.heap[k]? :=
  h.only.block k hk (fun hm => (List.mem_append.1 hm).elim hf (fun hm => hs (by simpa using hm)))
theorem Fr.blk {fx : List Nat} {sv sv' : Value} {w w' : World} (h : Fr fx sv w sv' w') {k : Nat} {xs : List Value} (hk : Blk w k xs) (hf : k ∉ fx) (hs : sv.ownBlock ≠ some k) : Blk w' k xs :=
  hk.same (h.block hk.lt hf hs)
/-- the said row is no block that was there ahead of it -/
theorem Fr.ne {fx : List Nat} {sv sv' : Value} {w w' : World} (h : Fr fx sv w sv' w') {k : Nat} (hk : k < w.heap.size) (hs : sv.ownBlock ≠ some k) : sv'.ownBlock ≠ some k := by
  rcases h.row with he | he
  · rw [he]; exact hs
  · intro hk2; have := he k hk2; omega
theorem Fr.size {fx : List Nat} {sv sv' : Value} {w w' : World} (h : Fr fx sv w sv' w') : w.heap.size ≤ w'.heap.size := h.only.size
theorem Fr.drew {fx : List Nat} {sv sv' : Value} {w w' : World} (h : Fr fx sv w sv' w') : Fr fx sv w sv' w'.drew := ⟨h.only.drew, h.row⟩
theorem Fr.drewN {fx : List Nat} {sv sv' : Value} {w w' : World} (h : Fr fx sv w sv' w') (n : Nat) : Fr fx sv w sv' (w'.drewN n) := ⟨h.only.drewN n, h.row⟩
theorem Fr.alloc {fx : List Nat} {sv sv' : Value} {w w' : World} (h : Fr fx sv w sv' w') (o : Obj) : Fr fx sv w sv' (w'.alloc o) := ⟨h.only.alloc o, h.row⟩
theorem Fr.setIn {fx : List Nat} {sv sv' : Value} {w w' : World} (h : Fr fx sv w sv' w') {a : Addr} (ha : a.block ∈ fx) (u : Value) : Fr fx sv w sv' (w'.setCell a u) :=
  ⟨h.only.setCell (List.mem_append_left _ ha) u, h.row⟩
theorem Fr.setNew {fx : List Nat} {sv sv' : Value} {w w' : World} (h : Fr fx sv w sv' w') {a : Addr} (ha : w.heap.size ≤ a.block) (u : Value) : Fr fx sv w sv' (w'.setCell a u) :=
  ⟨h.only.setCellNew ha u, h.row⟩
theorem Fr.mono {fx fy : List Nat} {sv sv' : Value} {w w' : World} (h : Fr fx sv w sv' w') (hs : ∀ x ∈ fx, x ∈ fy) : Fr fy sv w sv' w' :=
  ⟨h.only.mono (fun x hx => (List.mem_append.1 hx).elim (fun hx => List.mem_append_left _ (hs x hx)) (fun hx => List.mem_append_right _ hx)), h.row⟩
/-- what is below a base stands, if all that may turn lies above it -/
theorem Fr.below_of {fx : List Nat} {sv sv' : Value} {w w' : World} {B : Nat} (h : Fr fx sv w sv' w') (hB : B ≤ w.heap.size) (hf : ∀ k ∈ fx, B ≤ k) (hs : ∀ k, sv.ownBlock = some k → B ≤ k) : Below B w w' :=
  ⟨h.only.os, h.only.tape, h.only.output, h.only.size, fun k hk => h.block (by omega) (fun hm => by have := hf k hm; omega) (fun he => by have := hs k he; omega)⟩
theorem ownsRow_same {w w' : World} {B : Nat} {e : TypeId} {size : Nat} {v : Value} {n : Nat} {xs : List Value} (h : w.ownsRow B e size v n xs) (hb : ∀ k, v.ownBlock = some k → w'.heap[k]? = w.heap[k]?) : w'.ownsRow B e size v n xs := by
  obtain ⟨h1, h2⟩ := h
  refine ⟨h1, ?_⟩
  rcases h2 with h2 | ⟨g, cap, cur, rfl, hg, hh, r⟩
  · exact .inl h2
  · exact .inr ⟨g, cap, cur, rfl, hg, by rw [hb g rfl]; exact hh, r⟩
/-- the said row, with the machine's frame -/
def Said (w : World) (B : Nat) (sv : Value) (xs : List Nat) : Prop := w.ownsRow B 3 1 sv xs.length (nats xs)
theorem Said.same {w w' : World} {B : Nat} {sv : Value} {xs : List Nat} (h : Said w B sv xs) (hb : ∀ k, sv.ownBlock = some k → w'.heap[k]? = w.heap[k]?) : Said w' B sv xs := ownsRow_same h hb
theorem Said.set {w : World} {B : Nat} {sv : Value} {xs : List Nat} (h : Said w B sv xs) {a : Addr} (ha : sv.ownBlock ≠ some a.block) (u : Value) : Said (w.setCell a u) B sv xs :=
  h.same fun k hk => Below.heap_setCell _ _ _ _ (fun e => ha (by rw [hk, e]))
theorem Said.lt {w : World} {B : Nat} {sv : Value} {xs : List Nat} (h : Said w B sv xs) {k : Nat} (hk : sv.ownBlock = some k) : B ≤ k ∧ k < w.heap.size := World.ownsRow.lt h k hk
theorem Said.below {w w' : World} {B : Nat} {sv : Value} {xs : List Nat} (h : Said w B sv xs) (hb : Below w.heap.size w w') : Said w' B sv xs := h.same fun k hk => hb.block k (h.lt hk).2
theorem Said.alloc {w : World} {B : Nat} {sv : Value} {xs : List Nat} (h : Said w B sv xs) (o : Obj) : Said (w.alloc o) B sv xs := h.below ((Below.refl _ _).alloc (Nat.le_refl _) o)
theorem Said.drew {w : World} {B : Nat} {sv : Value} {xs : List Nat} (h : Said w B sv xs) : Said w.drew B sv xs := h
end Go.Proofs.YtpnliencahnmoaaGreatDoor

set_option linter.unusedVariables false
set_option linter.unusedSimpArgs false
set_option maxRecDepth 100000
namespace Go.Proofs.YtpnliencahnmoaaGreatDoor
open Go.RowKit
theorem idx_lt {α : Type} {l : List α} {i : Nat} {x : α} (h : l[i]? = some x) : i < l.length := by
  rcases Nat.lt_or_ge i l.length with h' | h'
  · exact h'
  · rw [List.getElem?_eq_none h'] at h; cases h
theorem bcell {W w1 : World} (hb : Below W.heap.size W w1) : (∀ b o, b < W.heap.size → w1.cell? ⟨b, o, none⟩ = W.cell? ⟨b, o, none⟩) ∧ (∀ b o, b < W.heap.size → w1.frozen? ⟨b, o, none⟩ = W.frozen? ⟨b, o, none⟩) :=
  ⟨fun b o h => hb.cell (p := ⟨b, o, none⟩) h, fun b o h => hb.frozen (p := ⟨b, o, none⟩) h⟩
theorem below1 (w : World) (o1 : Obj) : Below w.heap.size w (w.alloc o1) := (Below.refl _ _).alloc (Nat.le_refl _) _
theorem below2 (w : World) (o1 o2 : Obj) : Below w.heap.size w ((w.alloc o1).alloc o2) := (below1 w o1).alloc (by simp) _
theorem below3 (w : World) (o1 o2 o3 : Obj) : Below w.heap.size w (((w.alloc o1).alloc o2).alloc o3) := (below2 w o1 o2).alloc (by simp; omega) _
theorem cellB {w w' : World} (h : Below w.heap.size w w') {a : Addr} {v : Value} (hc : w.cell? a = some v) : w'.cell? a = some v := by
  rw [h.cell (World.block_lt_of_cell? w a hc)]
  exact hc
theorem belowDrewN {B : Nat} {a w : World} (h : Below B a w) (n : Nat) : Below B a (w.drewN n) := h.trans ⟨rfl, rfl, rfl, Nat.le_refl _, fun _ _ => rfl⟩
theorem belowDr {B : Nat} {a w : World} (h : Below B a w) (n : Nat) : Below B a (w.drewN n) := h.trans ⟨rfl, rfl, rfl, Nat.le_refl _, fun _ _ => rfl⟩
def inR (lo hi n : Int) : Bool := decide (lo ≤ n) && decide (n ≤ hi)
theorem inR_iff {lo hi n : Int} : inR lo hi n = true ↔ lo ≤ n ∧ n ≤ hi := by simp [inR]
theorem own_cell1 {w : World} {B g n cap : Nat} {e : TypeId} {ys : List Value} (h : w.ownsRow B e 1 (.slice (some ⟨g, 0, none⟩) n cap) n ys) {j : Nat} (hj : j < n) : w.cell? ⟨g, j, none⟩ = ys[j]? := by
  have := h.cellAt j (by omega)
  simpa using this
theorem own_form {B : Nat} {w : World} {e : TypeId} {size : Nat} {v : Value} {n : Nat} {ys : List Value} (h : w.ownsRow B e size v n ys) (hn : 0 < n) (hs : 0 < size := by decide) : ∃ g cap, v = .slice (some ⟨g, 0, none⟩) n cap := by
  rcases h.2 with ⟨_, h'⟩ | ⟨g', cap', cur, h', _⟩
  · have := h.1
    have hp := Nat.mul_pos hn hs
    first | omega | (rw [h'] at this; simp at this; omega)
  · exact ⟨g', cap', h'⟩
theorem blkc1 {w : World} {p : Nat} {a : Value} (h : Blk w p [a]) : w.cell? ⟨p, 0, none⟩ = some a := by rw [h.cell]; rfl
theorem blkc4 {w : World} {p : Nat} {a b c d : Value} (h : Blk w p [a, b, c, d]) : w.cell? ⟨p, 0, none⟩ = some a ∧ w.cell? ⟨p, 1, none⟩ = some b ∧ w.cell? ⟨p, 2, none⟩ = some c ∧ w.cell? ⟨p, 3, none⟩ = some d := by
  refine ⟨?_, ?_, ?_, ?_⟩
  all_goals rw [h.cell]; rfl
end Go.Proofs.YtpnliencahnmoaaGreatDoor

set_option linter.unusedVariables false
set_option linter.unusedSimpArgs false
set_option maxRecDepth 100000
namespace Go.Proofs.YtpnliencahnmoaaGreatDoor
open Go.RowKit
/-- an expression -/
inductive Ex where
  | mk (op n : Int) (name : ByteArray) (kids : List Ex)
def Ex.op : Ex → Int
  | .mk o _ _ _ => o
def Ex.n : Ex → Int
  | .mk _ n _ _ => n
def Ex.name : Ex → ByteArray
  | .mk _ _ s _ => s
def Ex.kids : Ex → List Ex
  | .mk _ _ _ k => k
/-- a statement -/
inductive St where
  | mk (op : Int) (name : ByteArray) (args : List Ex) (body els : List St)
def St.op : St → Int
  | .mk o _ _ _ _ => o
def St.name : St → ByteArray
  | .mk _ s _ _ _ => s
def St.args : St → List Ex
  | .mk _ _ a _ _ => a
def St.body : St → List St
  | .mk _ _ _ b _ => b
def St.els : St → List St
  | .mk _ _ _ _ e => e
/-- a function -/
structure Fx where
  name : ByteArray
  params : List ByteArray
  body : List St
/-- no row and no text is longer -/
abbrev big : Nat := 4611686018427387904
/-- texts in a row -/
def StrsAt (w : World) (v : Value) (ss : List ByteArray) : Prop :=
  ∃ a cap, v = .slice a ss.length cap ∧ ss.length ≤ big ∧ ∀ i s, ss[i]? = some s → s.size ≤ big ∧ ∃ b off, a = some ⟨b, off, none⟩ ∧ w.cell? ⟨b, off + i, none⟩ = some (.string s)
theorem StrsAt.below {w w' : World} {v : Value} {ss : List ByteArray} (h : StrsAt w v ss) (hb : Below w.heap.size w w') : StrsAt w' v ss := by
  obtain ⟨a, cap, hv, hm, hc⟩ := h
  refine ⟨a, cap, hv, hm, fun i s hi => ?_⟩
  obtain ⟨hz, b, off, ha, c0⟩ := hc i s hi
  exact ⟨hz, b, off, ha, by rw [hb.cell (p := ⟨b, off + i, none⟩) (World.block_lt_of_cell? _ _ c0)]; exact c0⟩
/-- expressions in a row, with what hangs below them -/
inductive ExsAt (w : World) : Value → List Ex → Prop where
  | mk (a : Option Addr) (n cap : Nat) (es : List Ex) (vals : Nat → Value) (hn : n = es.length) (hm : es.length ≤ big) (hs : ∀ (i : Nat) (e : Ex), es[i]? = some e → e.name.size ≤ big)
      (hc : ∀ i e, es[i]? = some e → ∃ b off, a = some ⟨b, off, none⟩ ∧ w.cell? ⟨b, off + i * 4, none⟩ = some (.int .i64 e.op) ∧ w.cell? ⟨b, off + i * 4 + 1, none⟩ = some (.int .i64 e.n) ∧ w.cell? ⟨b, off + i * 4 + 2, none⟩ = some (.string e.name) ∧ w.cell? ⟨b, off + i * 4 + 3, none⟩ = some (vals i))
      (hk : ∀ i e, es[i]? = some e → ExsAt w (vals i) e.kids) : ExsAt w (.slice a n cap) es
def ExAt (w : World) (v : Value) (e : Ex) : Prop := ∃ kv, v = .agg #[.int .i64 e.op, .int .i64 e.n, .string e.name, kv] ∧ ExsAt w kv e.kids
theorem ExsAt.dn {w w' : World} (hb : Below w.heap.size w w') {v : Value} {es : List Ex} (h : ExsAt w v es) : ExsAt w' v es := by
  induction h with
  | mk a n cap es vals hn hm hs hc hk ih =>
    refine .mk a n cap es vals hn hm hs (fun i e hi => ?_) ih
    obtain ⟨b, off, ha, c0, c1, c2, c3⟩ := hc i e hi
    have hl := World.block_lt_of_cell? _ _ c0
    refine ⟨b, off, ha, ?_, ?_, ?_, ?_⟩
    · rw [hb.cell (p := ⟨b, off + i * 4, none⟩) hl]; exact c0
    · rw [hb.cell (p := ⟨b, off + i * 4 + 1, none⟩) hl]; exact c1
    · rw [hb.cell (p := ⟨b, off + i * 4 + 2, none⟩) hl]; exact c2
    · rw [hb.cell (p := ⟨b, off + i * 4 + 3, none⟩) hl]; exact c3
theorem ExAt.below {w w' : World} {v : Value} {e : Ex} (h : ExAt w v e) (hb : Below w.heap.size w w') : ExAt w' v e := by
  obtain ⟨kv, hv, h⟩ := h
  exact ⟨kv, hv, h.dn hb⟩
theorem ExsAt.form {w : World} {v : Value} {es : List Ex} (h : ExsAt w v es) : ∃ a cap, v = .slice a es.length cap := by
  cases h with
  | mk a n cap es vals hn hm hs hc hk => subst hn; exact ⟨a, cap, rfl⟩
/-- what lies at a place of the row -/
theorem ExsAt.get {w : World} {a : Option Addr} {n cap : Nat} {es : List Ex} (h : ExsAt w (.slice a n cap) es) {i : Nat} {e : Ex} (hi : es[i]? = some e) :
    ∃ b off kv, a = some ⟨b, off, none⟩ ∧ b < w.heap.size ∧ w.cell? ⟨b, off + i * 4, none⟩ = some (.int .i64 e.op) ∧ w.cell? ⟨b, off + i * 4 + 1, none⟩ = some (.int .i64 e.n) ∧ w.cell? ⟨b, off + i * 4 + 2, none⟩ = some (.string e.name) ∧ w.cell? ⟨b, off + i * 4 + 3, none⟩ = some kv ∧ ExsAt w kv e.kids := by
  cases h with
  | mk a n cap es vals hn hm hs hc hk =>
    obtain ⟨b, off, ha, c0, c1, c2, c3⟩ := hc i e hi
    exact ⟨b, off, vals i, ha, World.block_lt_of_cell? _ _ c0, c0, c1, c2, c3, hk i e hi⟩
/-- statements in a row, with what hangs below them -/
inductive StsAt (w : World) : Value → List St → Prop where
  | mk (a : Option Addr) (n cap : Nat) (ss : List St) (av bv ev : Nat → Value) (hn : n = ss.length) (hm : ss.length ≤ big) (hs : ∀ (i : Nat) (s : St), ss[i]? = some s → s.name.size ≤ big)
      (hc : ∀ i s, ss[i]? = some s → ∃ b off, a = some ⟨b, off, none⟩ ∧ w.cell? ⟨b, off + i * 5, none⟩ = some (.int .i64 s.op) ∧ w.cell? ⟨b, off + i * 5 + 1, none⟩ = some (.string s.name) ∧ w.cell? ⟨b, off + i * 5 + 2, none⟩ = some (av i) ∧ w.cell? ⟨b, off + i * 5 + 3, none⟩ = some (bv i) ∧ w.cell? ⟨b, off + i * 5 + 4, none⟩ = some (ev i))
      (ha : ∀ i s, ss[i]? = some s → ExsAt w (av i) s.args)
      (hb : ∀ i s, ss[i]? = some s → StsAt w (bv i) s.body) (he : ∀ i s, ss[i]? = some s → StsAt w (ev i) s.els) : StsAt w (.slice a n cap) ss
def StAt (w : World) (v : Value) (s : St) : Prop := ∃ av bv ev, v = .agg #[.int .i64 s.op, .string s.name, av, bv, ev] ∧ ExsAt w av s.args ∧ StsAt w bv s.body ∧ StsAt w ev s.els
theorem StsAt.dn {w w' : World} (hb : Below w.heap.size w w') {v : Value} {ss : List St} (h : StsAt w v ss) : StsAt w' v ss := by
  induction h with
  | mk a n cap ss av bv ev hn hm hs hc ha _ _ ihb ihe =>
    refine .mk a n cap ss av bv ev hn hm hs (fun i s hi => ?_) (fun i s hi => (ha i s hi).dn hb) ihb ihe
    obtain ⟨b, off, ha, c0, c1, c2, c3, c4⟩ := hc i s hi
    have hl := World.block_lt_of_cell? _ _ c0
    refine ⟨b, off, ha, ?_, ?_, ?_, ?_, ?_⟩
    · rw [hb.cell (p := ⟨b, off + i * 5, none⟩) hl]; exact c0
    · rw [hb.cell (p := ⟨b, off + i * 5 + 1, none⟩) hl]; exact c1
    · rw [hb.cell (p := ⟨b, off + i * 5 + 2, none⟩) hl]; exact c2
    · rw [hb.cell (p := ⟨b, off + i * 5 + 3, none⟩) hl]; exact c3
    · rw [hb.cell (p := ⟨b, off + i * 5 + 4, none⟩) hl]; exact c4
theorem StAt.below {w w' : World} {v : Value} {s : St} (h : StAt w v s) (hb : Below w.heap.size w w') : StAt w' v s := by
  obtain ⟨av, bv, ev, hv, h1, h2, h3⟩ := h
  exact ⟨av, bv, ev, hv, h1.dn hb, h2.dn hb, h3.dn hb⟩
theorem StsAt.form {w : World} {v : Value} {ss : List St} (h : StsAt w v ss) : ∃ a cap, v = .slice a ss.length cap := by
  cases h with
  | mk a n cap ss av bv ev hn hm hs hc ha hb he => subst hn; exact ⟨a, cap, rfl⟩
theorem StsAt.get {w : World} {a : Option Addr} {n cap : Nat} {ss : List St} (h : StsAt w (.slice a n cap) ss) {i : Nat} {s : St} (hi : ss[i]? = some s) :
    ∃ b off av bv ev, a = some ⟨b, off, none⟩ ∧ b < w.heap.size ∧ w.cell? ⟨b, off + i * 5, none⟩ = some (.int .i64 s.op) ∧ w.cell? ⟨b, off + i * 5 + 1, none⟩ = some (.string s.name) ∧ w.cell? ⟨b, off + i * 5 + 2, none⟩ = some av ∧ w.cell? ⟨b, off + i * 5 + 3, none⟩ = some bv ∧ w.cell? ⟨b, off + i * 5 + 4, none⟩ = some ev ∧ ExsAt w av s.args ∧ StsAt w bv s.body ∧ StsAt w ev s.els := by
  cases h with
  | mk a n cap ss av bv ev hn hm hs hc ha hb he =>
    obtain ⟨b, off, haa, c0, c1, c2, c3, c4⟩ := hc i s hi
    exact ⟨b, off, av i, bv i, ev i, haa, World.block_lt_of_cell? _ _ c0, c0, c1, c2, c3, c4, ha i s hi, hb i s hi, he i s hi⟩
/-- functions in a row -/
def FxsAt (w : World) (v : Value) (fs : List Fx) : Prop :=
  ∃ a cap, v = .slice a fs.length cap ∧ fs.length ≤ big ∧ ∀ i f, fs[i]? = some f → f.name.size ≤ big ∧ ∃ b off pv bv, a = some ⟨b, off, none⟩ ∧ w.cell? ⟨b, off + i * 3, none⟩ = some (.string f.name) ∧ w.cell? ⟨b, off + i * 3 + 1, none⟩ = some pv ∧ w.cell? ⟨b, off + i * 3 + 2, none⟩ = some bv ∧ StrsAt w pv f.params ∧ StsAt w bv f.body
theorem FxsAt.below {w w' : World} {v : Value} {fs : List Fx} (h : FxsAt w v fs) (hb : Below w.heap.size w w') : FxsAt w' v fs := by
  obtain ⟨a, cap, hv, hm, hc⟩ := h
  refine ⟨a, cap, hv, hm, fun i f hi => ?_⟩
  obtain ⟨hz, b, off, pv, bv, ha, c0, c1, c2, h1, h2⟩ := hc i f hi
  have hl := World.block_lt_of_cell? _ _ c0
  refine ⟨hz, b, off, pv, bv, ha, ?_, ?_, ?_, h1.below hb, h2.dn hb⟩
  · rw [hb.cell (p := ⟨b, off + i * 3, none⟩) hl]; exact c0
  · rw [hb.cell (p := ⟨b, off + i * 3 + 1, none⟩) hl]; exact c1
  · rw [hb.cell (p := ⟨b, off + i * 3 + 2, none⟩) hl]; exact c2
theorem ExsAt.lens {w : World} {v : Value} {es : List Ex} (h : ExsAt w v es) : es.length ≤ big ∧ ∀ (i : Nat) (e : Ex), es[i]? = some e → e.name.size ≤ big := by
  cases h with
  | mk a n cap es vals hn hm hs hc hk => exact ⟨hm, hs⟩
theorem StsAt.lens {w : World} {v : Value} {ss : List St} (h : StsAt w v ss) : ss.length ≤ big ∧ ∀ (i : Nat) (s : St), ss[i]? = some s → s.name.size ≤ big := by
  cases h with
  | mk a n cap ss av bv ev hn hm hs hc ha hb he => exact ⟨hm, hs⟩
end Go.Proofs.YtpnliencahnmoaaGreatDoor

set_option linter.unusedVariables false
set_option linter.unusedSimpArgs false
set_option maxRecDepth 100000
namespace Go.Proofs.YtpnliencahnmoaaGreatDoor
open Go.RowKit
/-- the variables that can be used, the newest first -/
abbrev Env := List (ByteArray × Nat)
def Env.get : Env → ByteArray → Option Nat
  | [], _ => none
  | (x, v) :: r, s => if x = s then some v else Env.get r s
def Env.set : Env → ByteArray → Nat → Env
  | [], _, _ => []
  | (x, u) :: r, s, v => if x = s then (x, v) :: r else (x, u) :: Env.set r s v
/-- what is left of an inner block's variables -/
def Env.cut (e : Env) (n : Nat) : Env := e.drop (e.length - n)
theorem Env.set_len (e : Env) (s : ByteArray) (v : Nat) : (e.set s v).length = e.length := by
  induction e with
  | nil => rfl
  | cons x r ih =>
    obtain ⟨y, u⟩ := x
    unfold Env.set
    split
    · rfl
    · simp [ih]
/-- the index of the function with a name -/
def fnIx (fs : List Fx) (s : ByteArray) : Option Nat := fs.findIdx? (fun f => decide (f.name = s))
def Cm.tick (s : Cm) : Cm := { s with left := s.left - 1 }
/-- how statements end: they go on, a value is given back, the run stops -/
inductive Rb where
  | go (e : Env) (s : Cm)
  | back (v : Nat) (s : Cm)
  | stop (e : Nat) (s : Cm)
inductive Rl where
  | vals (vs : List Nat) (s : Cm)
  | stop (e : Nat) (s : Cm)
/-- an op between two, but for 'and' -/
def twoN (op : Int) (a b : Nat) : Option Nat := arithN op.toNat a b

mutual
def evE (fs : List Fx) : Nat → Ex → Env → Cm → Option Rs
  | 0, _, _, _ => none
  | g + 1, .mk op n name kids, env, s =>
    if op = 1 then some (.ret n.toNat s)
    else if op = 2 then (match env.get name with | none => none | some v => some (.ret v s))
    else if op = 13 then
      match evL fs g kids env s, fnIx fs name with
      | some (.vals vs s1), some k => evC fs g k vs s1
      | some (.stop e s1), some _ => some (.stop e s1)
      | _, _ => none
    else match kids with
      | [a] =>
        if op = 11 then (match evE fs g a env s with | some (.ret v s1) => some (.ret (if v = 0 then 1 else 0) s1) | r => r)
        else if op = 12 then (match evE fs g a env s with | some (.ret v s1) => if 16 ≤ v then some (.stop 2 s1) else some (.ret (s1.cells.getD v 0) s1) | r => r)
        else none
      | [a, b] =>
        if op = 10 then
          match evE fs g a env s with
          | some (.ret v s1) => if v = 0 then some (.ret 0 s1) else (match evE fs g b env s1 with | some (.ret u s2) => some (.ret (if u = 0 then 0 else 1) s2) | r => r)
          | r => r
        else if 3 ≤ op ∧ op ≤ 9 then
          match evE fs g a env s with
          | some (.ret v s1) => (match evE fs g b env s1 with
            | some (.ret u s2) => (match twoN op v u with | some x => some (.ret x s2) | none => some (.stop 1 s2))
            | r => r)
          | r => r
        else none
      | _ => none
def evL (fs : List Fx) : Nat → List Ex → Env → Cm → Option Rl
  | 0, _, _, _ => none
  | _ + 1, [], _, s => some (.vals [] s)
  | g + 1, e :: r, env, s =>
    match evE fs g e env s with
    | some (.ret v s1) => (match evL fs g r env s1 with | some (.vals vs s2) => some (.vals (v :: vs) s2) | x => x)
    | some (.stop en s1) => some (.stop en s1)
    | none => none
def evC (fs : List Fx) : Nat → Nat → List Nat → Cm → Option Rs
  | 0, _, _, _ => none
  | g + 1, k, vs, s =>
    match fs[k]? with
    | none => none
    | some f =>
      if f.params.length ≠ vs.length then none else
      match evB fs g f.body (f.params.zip vs).reverse s with
      | some (.go _ s1) => some (.ret 0 s1)
      | some (.back v s1) => some (.ret v s1)
      | some (.stop e s1) => some (.stop e s1)
      | none => none
def evB (fs : List Fx) : Nat → List St → Env → Cm → Option Rb
  | 0, _, _, _ => none
  | _ + 1, [], env, s => some (.go env s)
  | g + 1, x :: r, env, s =>
    if s.left = 0 then some (.stop 3 s) else
    match evS fs g x env s.tick with
    | some (.go e1 s1) => evB fs g r e1 s1
    | y => y
def evS (fs : List Fx) : Nat → St → Env → Cm → Option Rb
  | 0, _, _, _ => none
  | g + 1, .mk op name args body els, env, s =>
    if op = 6 then (match args with | [c] => evW fs g c body env s | _ => none)
    else match args with
      | [] => none
      | a :: rest =>
        match evE fs g a env s with
        | none => none
        | some (.stop e s1) => some (.stop e s1)
        | some (.ret v s1) =>
          if op = 1 then some (.go ((name, v) :: env) s1)
          else if op = 2 then (match env.get name with | none => none | some _ => some (.go (env.set name v) s1))
          else if op = 3 then some (.go env { s1 with said := s1.said ++ [v] })
          else if op = 4 then
            match rest with
            | [b] =>
              (match evE fs g b env s1 with
              | some (.ret u s2) => if 16 ≤ v then some (.stop 2 s2) else some (.go env { s2 with cells := s2.cells.set v u })
              | some (.stop e s2) => some (.stop e s2)
              | none => none)
            | _ => none
          else if op = 5 then
            match evB fs g (if v = 0 then els else body) env s1 with
            | some (.go e1 s2) => some (.go (e1.cut env.length) s2)
            | y => y
          else if op = 7 then some (.back v s1)
          else if op = 8 then some (.go env s1)
          else none
def evW (fs : List Fx) : Nat → Ex → List St → Env → Cm → Option Rb
  | 0, _, _, _, _ => none
  | g + 1, c, body, env, s =>
    match evE fs g c env s with
    | none => none
    | some (.stop e s1) => some (.stop e s1)
    | some (.ret v s1) =>
      if v = 0 then some (.go env s1) else
      match evB fs g body env s1 with
      | some (.go e1 s2) => if s2.left = 0 then some (.stop 3 s2) else evW fs g c body (e1.cut env.length) s2.tick
      | y => y
end
end Go.Proofs.YtpnliencahnmoaaGreatDoor

set_option linter.unusedVariables false
set_option linter.unusedSimpArgs false
set_option maxRecDepth 100000
namespace Go.Proofs.YtpnliencahnmoaaGreatDoor
open Go.RowKit
structure Mono (fs : List Fx) (g : Nat) : Prop where
  e : ∀ {x env s r}, evE fs g x env s = some r → evE fs (g + 1) x env s = some r
  l : ∀ {x env s r}, evL fs g x env s = some r → evL fs (g + 1) x env s = some r
  c : ∀ {k vs s r}, evC fs g k vs s = some r → evC fs (g + 1) k vs s = some r
  b : ∀ {x env s r}, evB fs g x env s = some r → evB fs (g + 1) x env s = some r
  s : ∀ {x env s r}, evS fs g x env s = some r → evS fs (g + 1) x env s = some r
  w : ∀ {c b env s r}, evW fs g c b env s = some r → evW fs (g + 1) c b env s = some r
theorem mono (fs : List Fx) : ∀ g, Mono fs g := by
  intro g
  induction g with
  | zero =>
    refine ⟨?_, ?_, ?_, ?_, ?_, ?_⟩
    · intro x env s r h; simp [evE] at h
    · intro x env s r h; simp [evL] at h
    · intro x env s r h; simp [evC] at h
    · intro x env s r h; simp [evB] at h
    · intro x env s r h; simp [evS] at h
    · intro c b env s r h; simp [evW] at h
  | succ g ih =>
    refine ⟨?_, ?_, ?_, ?_, ?_, ?_⟩
    · intro x env s r h
      obtain ⟨op, n, name, kids⟩ := x
      unfold evE at h ⊢
      split
      · rename_i h1; rw [if_pos h1] at h; exact h
      rename_i h1; rw [if_neg h1] at h
      split
      · rename_i h2; rw [if_pos h2] at h; exact h
      rename_i h2; rw [if_neg h2] at h
      split
      · rename_i h3; rw [if_pos h3] at h
        cases hl : evL fs g kids env s with
        | none => rw [hl] at h; simp at h
        | some y =>
          rw [hl] at h; rw [ih.l hl]
          cases hf : fnIx fs name with
          | none => rw [hf] at h; cases y <;> simp at h
          | some k =>
            rw [hf] at h
            cases y with
            | vals vs s1 => exact ih.c h
            | stop e s1 => exact h
      rename_i h3; rw [if_neg h3] at h
      match kids, h with
      | [], h => exact h
      | [a], h =>
        simp only at h ⊢
        cases ha : evE fs g a env s with
        | none =>
          rw [ha] at h
          by_cases c : op = 11
          · rw [if_pos c] at h; cases h
          · rw [if_neg c] at h
            by_cases c : op = 12
            · rw [if_pos c] at h; cases h
            · rw [if_neg c] at h; cases h
        | some y => rw [ha] at h; rw [ih.e ha]; exact h
      | [a, b], h =>
        simp only at h ⊢
        cases ha : evE fs g a env s with
        | none =>
          rw [ha] at h
          by_cases c : op = 10
          · rw [if_pos c] at h; cases h
          · rw [if_neg c] at h
            by_cases c : 3 ≤ op ∧ op ≤ 9
            · rw [if_pos c] at h; cases h
            · rw [if_neg c] at h; cases h
        | some y =>
          rw [ha] at h; rw [ih.e ha]
          cases y with
          | stop e s1 => exact h
          | ret v s1 =>
            cases hb : evE fs g b env s1 with
            | none =>
              simp only at h ⊢
              rw [hb] at h
              by_cases c : op = 10
              · rw [if_pos c] at h ⊢
                by_cases hv : v = 0
                · rw [if_pos hv] at h ⊢; exact h
                · rw [if_neg hv] at h; cases h
              · rw [if_neg c] at h
                by_cases c : 3 ≤ op ∧ op ≤ 9
                · rw [if_pos c] at h; cases h
                · rw [if_neg c] at h; cases h
            | some z => simp only at h ⊢; rw [hb] at h; rw [ih.e hb]; exact h
      | _ :: _ :: _ :: _, h => exact h
    · intro x env s r h
      cases x with
      | nil => unfold evL at h ⊢; exact h
      | cons e x =>
        unfold evL at h ⊢
        cases he : evE fs g e env s with
        | none => rw [he] at h; cases h
        | some y =>
          rw [he] at h; rw [ih.e he]
          cases y with
          | stop en s1 => exact h
          | ret v s1 =>
            simp only at h ⊢
            cases hl : evL fs g x env s1 with
            | none => rw [hl] at h; cases h
            | some z => rw [hl] at h; rw [ih.l hl]; exact h
    · intro k vs s r h
      unfold evC at h ⊢
      cases hf : fs[k]? with
      | none => rw [hf] at h; exact h
      | some f =>
        rw [hf] at h
        simp only at h ⊢
        split
        · rename_i hl; rw [if_pos hl] at h; exact h
        · rename_i hl; rw [if_neg hl] at h
          cases hb : evB fs g f.body (f.params.zip vs).reverse s with
          | none => rw [hb] at h; cases h
          | some y => rw [hb] at h; rw [ih.b hb]; exact h
    · intro x env s r h
      cases x with
      | nil => unfold evB at h ⊢; exact h
      | cons y x =>
        unfold evB at h ⊢
        split
        · rename_i h0; rw [if_pos h0] at h; exact h
        · rename_i h0; rw [if_neg h0] at h
          cases hs : evS fs g y env s.tick with
          | none => rw [hs] at h; cases h
          | some z =>
            rw [hs] at h; rw [ih.s hs]
            cases z with
            | go e1 s1 => exact ih.b h
            | back v s1 => exact h
            | stop e s1 => exact h
    · intro x env s r h
      obtain ⟨op, name, args, body, els⟩ := x
      unfold evS at h ⊢
      split
      · rename_i h6; rw [if_pos h6] at h
        match args, h with
        | [], h => exact h
        | [c], h => exact ih.w h
        | _ :: _ :: _, h => exact h
      · rename_i h6; rw [if_neg h6] at h
        match args, h with
        | [], h => exact h
        | a :: rest, h =>
          simp only at h ⊢
          cases ha : evE fs g a env s with
          | none => rw [ha] at h; cases h
          | some y =>
            rw [ha] at h; rw [ih.e ha]
            cases y with
            | stop e s1 => exact h
            | ret v s1 =>
              simp only at h ⊢
              split
              · rename_i c; rw [if_pos c] at h; exact h
              rename_i c; rw [if_neg c] at h
              split
              · rename_i c; rw [if_pos c] at h; exact h
              rename_i c; rw [if_neg c] at h
              split
              · rename_i c; rw [if_pos c] at h; exact h
              rename_i c; rw [if_neg c] at h
              split
              · rename_i c; rw [if_pos c] at h
                match rest, h with
                | [], h => exact h
                | [b], h =>
                  simp only at h ⊢
                  cases hb : evE fs g b env s1 with
                  | none => rw [hb] at h; cases h
                  | some z => rw [hb] at h; rw [ih.e hb]; exact h
                | _ :: _ :: _, h => exact h
              rename_i c; rw [if_neg c] at h
              split
              · rename_i c; rw [if_pos c] at h
                cases hb : evB fs g (if v = 0 then els else body) env s1 with
                | none => rw [hb] at h; cases h
                | some z => rw [hb] at h; rw [ih.b hb]; exact h
              rename_i c; rw [if_neg c] at h
              exact h
    · intro c b env s r h
      unfold evW at h ⊢
      cases hc : evE fs g c env s with
      | none => rw [hc] at h; cases h
      | some y =>
        rw [hc] at h; rw [ih.e hc]
        cases y with
        | stop e s1 => exact h
        | ret v s1 =>
          simp only at h ⊢
          split
          · rename_i c0; rw [if_pos c0] at h; exact h
          · rename_i c0; rw [if_neg c0] at h
            cases hb : evB fs g b env s1 with
            | none => rw [hb] at h; cases h
            | some z =>
              rw [hb] at h; rw [ih.b hb]
              cases z with
              | go e1 s2 =>
                simp only at h ⊢
                split
                · rename_i h0; rw [if_pos h0] at h; exact h
                · rename_i h0; rw [if_neg h0] at h; exact ih.w h
              | back v s1 => exact h
              | stop e s1 => exact h
theorem evE_le {fs : List Fx} {g g' : Nat} (h : g ≤ g') {x : Ex} {env : Env} {s : Cm} {r : Rs} (he : evE fs g x env s = some r) : evE fs g' x env s = some r := by
  induction h with
  | refl => exact he
  | step _ ih => exact (mono fs _).e ih
theorem evL_le {fs : List Fx} {g g' : Nat} (h : g ≤ g') {x : List Ex} {env : Env} {s : Cm} {r : Rl} (he : evL fs g x env s = some r) : evL fs g' x env s = some r := by
  induction h with
  | refl => exact he
  | step _ ih => exact (mono fs _).l ih
theorem evC_le {fs : List Fx} {g g' : Nat} (h : g ≤ g') {k : Nat} {vs : List Nat} {s : Cm} {r : Rs} (he : evC fs g k vs s = some r) : evC fs g' k vs s = some r := by
  induction h with
  | refl => exact he
  | step _ ih => exact (mono fs _).c ih
theorem evB_le {fs : List Fx} {g g' : Nat} (h : g ≤ g') {x : List St} {env : Env} {s : Cm} {r : Rb} (he : evB fs g x env s = some r) : evB fs g' x env s = some r := by
  induction h with
  | refl => exact he
  | step _ ih => exact (mono fs _).b ih
theorem evS_le {fs : List Fx} {g g' : Nat} (h : g ≤ g') {x : St} {env : Env} {s : Cm} {r : Rb} (he : evS fs g x env s = some r) : evS fs g' x env s = some r := by
  induction h with
  | refl => exact he
  | step _ ih => exact (mono fs _).s ih
theorem evW_le {fs : List Fx} {g g' : Nat} (h : g ≤ g') {c : Ex} {b : List St} {env : Env} {s : Cm} {r : Rb} (he : evW fs g c b env s = some r) : evW fs g' c b env s = some r := by
  induction h with
  | refl => exact he
  | step _ ih => exact (mono fs _).w ih
end Go.Proofs.YtpnliencahnmoaaGreatDoor
