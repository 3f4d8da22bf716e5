/- pick, of, num, word: the reader's methods. No conditions. Draws of instructions of the machine: l22Some. No conditions but that the numbers told are small. Draws of programs of the machine: l22Mach. No conditions. Programs of the machine as rows that may be bent: what a store leaves. No program in sight. A bent program of the machine, drawn: l22Bent. No conditions. Draws of a program, its numbers and steps: l22In, DrawRunMach, DrawMachSteps. No conditions. -/
import Derived.Test.YtbdbmmdnidonjaaDoorRd
import Derived.Test.YtbdbmmdnidonjaaDoorSw
import Derived.Test.YtbdbmmdnidonjaaDoorMm
import Derived.Deep.CutRange
import Derived.Deep.CutBlock
import Derived.Test.YtbdbmmdnidonjaaDoorRh
import Derived.Deep.AppendLies
import Derived.Test.YtbdbmmdnidonjaaDoorLv
import Derived.Test.YtbdbmmdnidonjaaDoorRr
import Derived.Deep.RegionHeld3
namespace Go.Proofs.YtbdbmmdnidonjaaDoor
open Go.RowKit

theorem heap_setCell_same (w : World) (r i : Nat) (u : Value) (c : Array Value) (t : TypeId) (f : Nat × Nat) (h : w.heap[r]? = some (.cells c t f)) :
    (w.setCell ⟨r, i, none⟩ u).heap[r]? = some (.cells (c.setIfInBounds i u) t f) := by
  simp [World.setCell, Array.getElem?_modify, h]

theorem cell_of_heap {w : World} {r i : Nat} {c : Array Value} {t : TypeId} {f : Nat × Nat} (h : w.heap[r]? = some (.cells c t f)) {v : Value} (hv : c[i]? = some v) : w.cell? ⟨r, i, none⟩ = some v := by
  simp [World.cell?, h, hv]
theorem frozen_of_heap {w : World} {r i : Nat} {c : Array Value} {t : TypeId} (h : w.heap[r]? = some (.cells c t (0, 0))) : w.frozen? ⟨r, i, none⟩ = false := by
  simp [World.frozen?, h]

/-- the reader behind a pick -/
theorem rd_step {w : World} {r N p : Nat} {v : Value} {xs : List Int} (h : w.heap[r]? = some (.cells #[v, .int .i64 p] 119 (0, 0))) (hp : p ≤ N) (hl : xs.length ≤ 2000) (hb : Bytes w r v xs) :
    Rd (w.setCell ⟨r, 1, none⟩ (.int .i64 ((p : Int) + 1))) r (N + 1) ∧ Only [r] w (w.setCell ⟨r, 1, none⟩ (.int .i64 ((p : Int) + 1))) := by
  have ho : Only [r] w (w.setCell ⟨r, 1, none⟩ (.int .i64 ((p : Int) + 1))) := (Only.refl _ _).setCell (by simp) _
  exact ⟨⟨v, xs, p + 1, by rw [heap_setCell_same _ _ _ _ _ _ _ h]; simp, by omega, hl, hb.only ho⟩, ho⟩

set_option maxHeartbeats 400000 in
theorem pick_none (w : World) (r N : Nat) (n : Int) (hR : Rd w r N) (hN : N < 1099511627776) (hn : n < 1) :
    Calls Tryd.prog 86 #[.pointer (some ⟨r, 0, none⟩), .int .i64 n] w (PickPost r N n w) := by
  obtain ⟨v, xs, p, h, hp, hl, hb⟩ := hR
  have hst := rd_step h hp hl hb
  have c1 := cell_of_heap (i := 1) h rfl
  have c0 := cell_of_heap (i := 0) h rfl
  have f1 := frozen_of_heap (i := 1) h
  have Hst := Lib.hid hst
  clear h hst hb
  go_enter Tryd.func86, Tryd.ntmps86
  go_wp2
  go_ret
  exact ⟨0, rfl, by omega, fun _ => rfl, Hst.out.1, Hst.out.2⟩

set_option maxHeartbeats 400000 in
theorem pick_empty (w : World) (r N : Nat) (n : Int) (v : Value) (p : Nat) (h : w.heap[r]? = some (.cells #[v, .int .i64 p] 119 (0, 0))) (hp : p ≤ N) (hb : Bytes w r v []) (hN : N < 1099511627776) (hn : ¬ n < 1) :
    Calls Tryd.prog 86 #[.pointer (some ⟨r, 0, none⟩), .int .i64 n] w (PickPost r N n w) := by
  have hst := rd_step h hp (by simp) hb
  have c1 := cell_of_heap (i := 1) h rfl
  have c0 := cell_of_heap (i := 0) h rfl
  have f1 := frozen_of_heap (i := 1) h
  have Hst := Lib.hid hst
  clear h hst
  rcases hb.2 with ⟨_, a, cap, rfl⟩ | ⟨b, off, cap, rfl, _⟩
  all_goals
    clear hb
    go_enter Tryd.func86, Tryd.ntmps86
    go_wp2
    go_ret
    exact ⟨0, rfl, by omega, fun _ => rfl, Hst.out.1, Hst.out.2⟩

set_option maxHeartbeats 800000 in
theorem pick_plain (w : World) (r N : Nat) (n : Int) (xs : List Int) (b off cap p : Nat) (h : w.heap[r]? = some (.cells #[.slice (some ⟨b, off, none⟩) xs.length cap, .int .i64 p] 119 (0, 0))) (hp : p ≤ N) (hl : xs.length ≤ 2000)
    (hb : Bytes w r (.slice (some ⟨b, off, none⟩) xs.length cap) xs) (hN : N < 1099511627776) (hn : ¬ n < 1) (hnm : n ≤ 9223372036854775807) (hlt : p < xs.length) :
    Calls Tryd.prog 86 #[.pointer (some ⟨r, 0, none⟩), .int .i64 n] w (PickPost r N n w) := by
  have hst := rd_step h hp hl hb
  have c1 : w.cell? ⟨r, 1, none⟩ = some (.int .i64 p) := cell_of_heap h rfl
  have c0 : w.cell? ⟨r, 0, none⟩ = some (.slice (some ⟨b, off, none⟩) xs.length cap) := cell_of_heap h rfl
  have f1 := frozen_of_heap (i := 1) h
  obtain ⟨hx, hb⟩ := hb
  have hxp := hx p hlt
  have hcell : w.cell? ⟨b, off + p, none⟩ = some (.int .u8 (xs.getD p 0)) ∧ b ≠ r := by
    rcases hb with ⟨h, _⟩ | ⟨b', off', cap', hv, _, hb, _, hc⟩
    · subst h; simp at *
    · injection hv with hv _ _
      injection hv with hv
      injection hv with h1 h2
      subst h1; subst h2
      exact ⟨hc p hlt, by omega⟩
  obtain ⟨hcell, hbr⟩ := hcell
  generalize xs.getD p 0 = x at *
  have Hst := Lib.hid hst
  clear h hst hb hx
  have hnz : (n == 0) = false := by simp; omega
  have hlz : ((xs.length : Int) == 0) = false := by simp; intro h; subst h; simp at hlt
  have hlz' : (xs.length == 0) = false := by simp; intro h; subst h; simp at hlt
  generalize xs.length = len at *
  go_enter Tryd.func86, Tryd.ntmps86
  go_wp2
  go_ret
  exact ⟨(x % n).toNat, by rw [Int.toNat_of_nonneg (Int.emod_nonneg _ (by omega))]; rfl, fun _ => by rw [Int.toNat_of_nonneg (Int.emod_nonneg _ (by omega))]; exact Int.emod_lt_of_pos _ (by omega), by omega, Hst.out.1, Hst.out.2⟩

theorem xor_i64 (a b : Nat) (ha : a < 9223372036854775808) (hb : b < 9223372036854775808) : bits .xor .i64 (a : Int) (b : Int) = ((a ^^^ b : Nat) : Int) := by
  have hx : a ^^^ b < 2 ^ 63 := Nat.xor_lt_two_pow (by omega) (by omega)
  have h1 : (BitVec.ofInt 64 (a : Int)).toNat = a := by
    rw [BitVec.ofInt_natCast, BitVec.toNat_ofNat]; exact Nat.mod_eq_of_lt (by omega)
  have h2 : (BitVec.ofInt 64 (b : Int)).toNat = b := by
    rw [BitVec.ofInt_natCast, BitVec.toNat_ofNat]; exact Nat.mod_eq_of_lt (by omega)
  show IntKind.i64.wrap ((BitVec.ofInt 64 (a : Int) ^^^ BitVec.ofInt 64 (b : Int)).toNat : Int) = _
  rw [BitVec.toNat_xor, h1, h2]
  exact IntWalk.i64_in _ (by omega)
theorem xor_nonneg (z : Int) (h : 0 ≤ z) (h2 : z < 4611686018427387904) : 0 ≤ bits .xor .i64 z (z / 64) := by
  have e := xor_i64 z.toNat (z / 64).toNat (by omega) (by omega)
  rw [Int.toNat_of_nonneg h, Int.toNat_of_nonneg (by omega)] at e
  rw [e]; exact Int.natCast_nonneg _

set_option maxHeartbeats 1600000 in
set_option maxRecDepth 100000 in
theorem pick_mix (w : World) (r N : Nat) (n : Int) (xs : List Int) (b off cap p : Nat) (h : w.heap[r]? = some (.cells #[.slice (some ⟨b, off, none⟩) xs.length cap, .int .i64 p] 119 (0, 0))) (hp : p ≤ N) (hl : xs.length ≤ 2000)
    (hb : Bytes w r (.slice (some ⟨b, off, none⟩) xs.length cap) xs) (hN : N < 1099511627776) (hn : ¬ n < 1) (hnm : n ≤ 9223372036854775807) (hge : xs.length ≤ p) (hpos : 0 < xs.length) :
    Calls Tryd.prog 86 #[.pointer (some ⟨r, 0, none⟩), .int .i64 n] w (PickPost r N n w) := by
  have hst := rd_step h hp hl hb
  have c1 : w.cell? ⟨r, 1, none⟩ = some (.int .i64 p) := cell_of_heap h rfl
  have c0 : w.cell? ⟨r, 0, none⟩ = some (.slice (some ⟨b, off, none⟩) xs.length cap) := cell_of_heap h rfl
  have f1 := frozen_of_heap (i := 1) h
  obtain ⟨hx, hb⟩ := hb
  have hcells : (∀ i, i < xs.length → w.cell? ⟨b, off + i, none⟩ = some (.int .u8 (xs.getD i 0))) ∧ b ≠ r := by
    rcases hb with ⟨h, _⟩ | ⟨b', off', cap', hv, _, hb, _, hc⟩
    · subst h; simp at *
    · injection hv with hv _ _
      injection hv with hv
      injection hv with h1 h2
      subst h1; subst h2
      exact ⟨hc, by omega⟩
  obtain ⟨hcells, hbr⟩ := hcells
  have i1 : p % xs.length < xs.length := Nat.mod_lt _ hpos
  have i2 : (p * 7 + 3) % xs.length < xs.length := Nat.mod_lt _ hpos
  have k1 := hcells _ i1
  have k2 := hcells _ i2
  have b1 := hx _ i1
  have b2 := hx _ i2
  have q1 : p / xs.length ≤ p := Nat.div_le_self _ _
  clear hcells hx hb
  have Hst := Lib.hid hst
  clear h hst
  generalize xs.getD (p % xs.length) 0 = x at *
  generalize xs.getD ((p * 7 + 3) % xs.length) 0 = y at *
  generalize xs.length = len at *
  obtain ⟨i, hi⟩ : ∃ i, i = p % len := ⟨_, rfl⟩
  obtain ⟨j, hj⟩ : ∃ j, j = (p * 7 + 3) % len := ⟨_, rfl⟩
  obtain ⟨q, hq⟩ : ∃ q, q = p / len := ⟨_, rfl⟩
  rw [← hi] at k1 i1
  rw [← hj] at k2 i2
  rw [← hq] at q1
  have e1 : (p : Int).tmod len = i := by rw [hi]; exact Int.tmod_eq_emod_of_nonneg (by omega)
  have e2 : IntKind.i64.wrap ((p : Int) * 7) = p * 7 := IntWalk.i64_in _ (by omega)
  have e3 : IntKind.i64.wrap ((p : Int) * 7 + 3) = p * 7 + 3 := IntWalk.i64_in _ (by omega)
  have e4 : ((p : Int) * 7 + 3).tmod len = j := by rw [hj]; rw [Int.tmod_eq_emod_of_nonneg (by omega)]; simp
  have e5 : (p : Int).tdiv len = q := by rw [hq]; rw [Int.tdiv_eq_ediv_of_nonneg (by omega)]; simp
  have e6 : IntKind.i64.wrap (x * 131) = x * 131 := IntWalk.i64_in _ (by omega)
  have e7 : IntKind.i64.wrap (y * 1117) = y * 1117 := IntWalk.i64_in _ (by omega)
  have e8 : IntKind.i64.wrap (x * 131 + y * 1117) = x * 131 + y * 1117 := IntWalk.i64_in _ (by omega)
  have e9 : IntKind.i64.wrap ((p : Int) * 29) = p * 29 := IntWalk.i64_in _ (by omega)
  have e10 : IntKind.i64.wrap (x * 131 + y * 1117 + p * 29) = x * 131 + y * 1117 + p * 29 := IntWalk.i64_in _ (by omega)
  have e11 : IntKind.i64.wrap ((q : Int) * 53) = q * 53 := IntWalk.i64_in _ (by omega)
  obtain ⟨z, hz⟩ : ∃ z : Int, z = x * 131 + y * 1117 + p * 29 + q * 53 := ⟨_, rfl⟩
  have z1 : 0 ≤ z := by omega
  have z2 : z < 4611686018427387904 := by omega
  have e12 : IntKind.i64.wrap (x * 131 + y * 1117 + p * 29 + q * 53) = z := by rw [hz]; exact IntWalk.i64_in _ (by omega)
  clear hi hj hq hz
  have hnz : (n == 0) = false := by simp; omega
  have hlz : ((len : Int) == 0) = false := by simp; omega
  have hlz' : (len == 0) = false := by simp; omega
  go_enter Tryd.func86, Tryd.ntmps86
  go_wp2
  go_quiet (fail)
  clear e1 e2 e3 e4 e5 e6 e7 e8 e9 e10 e11 e12
  go_wp2
  go_ret
  have hz0 := xor_nonneg z z1 z2
  have m0 : 0 ≤ (bits .xor .i64 z (z / 64)).tmod n := Int.tmod_nonneg _ hz0
  have m1 : (bits .xor .i64 z (z / 64)).tmod n < n := Int.tmod_lt_of_pos _ (by omega)
  exact ⟨((bits .xor .i64 z (z / 64)).tmod n).toNat, by rw [Int.toNat_of_nonneg m0]; rfl, fun _ => by rw [Int.toNat_of_nonneg m0]; exact m1, by omega, Hst.out.1.drewN _, Hst.out.2.drewN _⟩

/-- pick: a number below n, or 0 -/
theorem pick (w : World) (r N : Nat) (n : Int) (hR : Rd w r N) (hN : N < 1099511627776) (hnm : n ≤ 9223372036854775807) :
    Calls Tryd.prog 86 #[.pointer (some ⟨r, 0, none⟩), .int .i64 n] w (PickPost r N n w) := by
  by_cases hn : n < 1
  · exact pick_none w r N n hR hN hn
  · obtain ⟨v, xs, p, h, hp, hl, hb⟩ := hR
    by_cases hx : xs = []
    · subst hx
      exact pick_empty w r N n v p h hp hb hN hn
    · have hpos : 0 < xs.length := List.length_pos_iff.2 hx
      rcases hb.2 with ⟨h0, _⟩ | ⟨b, off, cap, rfl, _⟩
      · exact absurd h0 hx
      · by_cases hlt : p < xs.length
        · exact pick_plain w r N n xs b off cap p h hp hl hb hN hn hnm hlt
        · exact pick_mix w r N n xs b off cap p h hp hl hb hN hn hnm (by omega) hpos

def OpenPost (w : World) (e : Ending) (w' : World) : Prop :=
  ∃ r, e = .returned (.pointer (some ⟨r, 0, none⟩)) ∧ Rd w' r 0 ∧ Below w.heap.size w w' ∧ w.heap.size ≤ r

theorem openPost_mk (w : World) (v : Value) (xs : List Int) (hl : xs.length ≤ 2000) (hb : Bytes w w.heap.size v xs) : Rd (w.alloc (.cells #[v, .int .i64 0] 119 (0, 0))) w.heap.size 0 :=
  ⟨v, xs, 0, by (show (w.heap.push _)[w.heap.size]? = _); simp, Nat.le_refl _, hl, hb.only (Only.of_below ((Below.refl _ _).alloc (Nat.le_refl _) _) _)⟩

theorem Bytes.take {w : World} {r : Nat} {b off : Nat} {cap : Nat} {xs : List Int} (h : Bytes w r (.slice (some ⟨b, off, none⟩) xs.length cap) xs) (n : Nat) (hn : n ≤ xs.length) :
    Bytes w r (.slice (some ⟨b, off, none⟩) n cap) (xs.take n) := by
  obtain ⟨hx, h⟩ := h
  have hlen : (xs.take n).length = n := by simp; omega
  have hget : ∀ i, i < n → (xs.take n).getD i 0 = xs.getD i 0 := fun i hi => by
    simp [List.getD_eq_getElem?_getD, hi]
  refine ⟨fun i hi => by rw [hlen] at hi; rw [hget i hi]; exact hx i (by omega), ?_⟩
  rcases h with ⟨h, _⟩ | ⟨b', off', cap', hv, hc, hb, hs, hcell⟩
  · subst h
    obtain rfl : n = 0 := by simpa using hn
    exact .inl ⟨rfl, _, _, rfl⟩
  · injection hv with hv _ hcap
    injection hv with hv
    injection hv with h1 h2
    subst h1; subst h2; subst hcap
    refine .inr ⟨b, off, cap, by rw [hlen], by omega, hb, hs, fun i hi => ?_⟩
    rw [hlen] at hi
    rw [hget i hi]
    exact hcell i (by omega)

set_option maxHeartbeats 400000 in
theorem open_short (w : World) (a : Option Addr) (cap : Nat) (xs : List Int) (n : Nat) (hn : n = xs.length) (hl : n ≤ 2000) (hb : Bytes w w.heap.size (.slice a n cap) xs) :
    Calls Tryd.prog 57 #[.slice a n cap] w (OpenPost w) := by
  have hmk := openPost_mk w _ xs (by omega) hb
  have Hmk := Lib.hid hmk
  clear hmk hb hn
  go_enter Tryd.func57, Tryd.ntmps57
  go_wp2
  go_ret
  exact ⟨_, rfl, Hmk.out, (Below.refl _ _).alloc (Nat.le_refl _) _, Nat.le_refl _⟩

set_option maxHeartbeats 400000 in
theorem open_long (w : World) (b off n cap : Nat) (xs : List Int) (hn : n = xs.length) (hl : 2000 < n) (hcap : n ≤ cap) (hm : cap ≤ 9223372036854775807) (hb : Bytes w w.heap.size (.slice (some ⟨b, off, none⟩) n cap) xs) :
    Calls Tryd.prog 57 #[.slice (some ⟨b, off, none⟩) n cap] w (OpenPost w) := by
  subst hn
  have hmk := openPost_mk w _ _ (by simp; omega) (hb.take 2000 (by omega))
  have Hmk := Lib.hid hmk
  clear hmk hb
  generalize xs.length = n at *
  go_enter Tryd.func57, Tryd.ntmps57
  go_wp2
  go_ret
  exact ⟨_, rfl, Hmk.out, (Below.refl _ _).alloc (Nat.le_refl _) _, Nat.le_refl _⟩

theorem openRd (w : World) (v : Value) (xs : List Int) (hm : ∀ a n cap, v = .slice a n cap → cap ≤ 9223372036854775807) (hb : Bytes w w.heap.size v xs) :
    Calls Tryd.prog 57 #[v] w (OpenPost w) := by
  rcases hb.2 with ⟨rfl, a, cap, rfl⟩ | ⟨b, off, cap, rfl, hc, _⟩
  · exact open_short w a cap [] 0 rfl (by omega) hb
  · by_cases hl : xs.length ≤ 2000
    · exact open_short w _ cap xs _ rfl hl hb
    · exact open_long w b off _ cap xs rfl (by omega) hc (hm _ _ _ rfl) hb

/-- a row of n cells at b, off (not block r) each of which is a value that meets Q -/
def RowQ (Q : Value → Prop) (w : World) (r b off n : Nat) : Prop :=
  b ≠ r ∧ b < w.heap.size ∧ ∀ i, i < n → ∃ x, w.cell? ⟨b, off + i, none⟩ = some x ∧ Q x

def OfPost (Q : Value → Prop) (r N : Nat) (w : World) (e : Ending) (w' : World) : Prop :=
  ∃ x, e = .returned x ∧ Q x ∧ Rd w' r (N + 1) ∧ Only [r] w w'

set_option maxHeartbeats 400000 in
theorem num_any (Q : Value → Prop) (hQ : ∀ x, Q x → ∃ z, x = .int .i64 z) (w : World) (r N b off n cap : Nat) (hR : Rd w r N) (hN : N < 1099511627776) (hn : 0 < n) (hn2 : n ≤ 9223372036854775807) (hrow : RowQ Q w r b off n) :
    Calls Tryd.prog 60 #[.pointer (some ⟨r, 0, none⟩), .slice (some ⟨b, off, none⟩) n cap] w (OfPost Q r N w) := by
  have Hrow := Lib.hid hrow
  have HQ := Lib.hid hQ
  clear hrow hQ
  go_enter Tryd.func60, Tryd.ntmps60
  go_wp2_with (fail)
  refine (pick w r N _ hR hN (by omega)).mono ?_
  rintro e w' ⟨k, rfl, hk, _, hR', hO⟩
  have hk' : k < n := by have := hk (by omega); omega
  obtain ⟨hb, hs, hc⟩ := Hrow.out
  obtain ⟨x, hx, hq⟩ := hc k hk'
  obtain ⟨s, rfl⟩ := HQ.out x hq
  rw [← hO.cell (p := ⟨b, off + k, none⟩) hs (by simpa using hb)] at hx
  have Hq := Lib.hid hq
  have HR := Lib.hid hR'
  have HO := Lib.hid hO
  clear hk hR' hO hc hq hb hR
  go_wp2
  go_ret
  exact ⟨_, rfl, Hq.out, HR.out, HO.out⟩
end Go.Proofs.YtbdbmmdnidonjaaDoor

set_option maxRecDepth 100000
namespace Go.Proofs.YtbdbmmdnidonjaaDoor
open Go.RowKit

theorem row_new {Q : Value → Prop} (w : World) (cs : Array Value) (t : TypeId) (f : Nat × Nat) (h : ∀ x ∈ cs.toList, Q x) (i : Nat) (hi : i < cs.size) :
    ∃ x, (w.alloc (.cells cs t f)).cell? ⟨w.heap.size, i, none⟩ = some x ∧ Q x := by
  refine ⟨cs[i], ?_, h _ (by simp)⟩
  have : (w.alloc (.cells cs t f)).heap[w.heap.size]? = some (.cells cs t f) := by (show (w.heap.push _)[w.heap.size]? = _); simp
  exact cell_of_heap this (by simp [hi])
theorem rowQ_new {Q : Value → Prop} (w : World) (cs : Array Value) (t : TypeId) (f : Nat × Nat) {r : Nat} (hr : r < w.heap.size) (n : Nat) (hn : n ≤ cs.size) (h : ∀ x ∈ cs.toList, Q x) : RowQ Q (w.alloc (.cells cs t f)) r w.heap.size 0 n :=
  ⟨by omega, by simp, fun i hi => by rw [Nat.zero_add]; exact row_new w cs t f h i (by omega)⟩
theorem rowQ_newAt {Q : Value → Prop} {w : World} {b : Nat} (cs : Array Value) (t : TypeId) (f : Nat × Nat) {r : Nat} (hb : b = w.heap.size) (hr : r < w.heap.size) (n : Nat) (hn : n ≤ cs.size) (h : ∀ x ∈ cs.toList, Q x) : RowQ Q (w.alloc (.cells cs t f)) r b 0 n := by
  subst hb; exact rowQ_new w cs t f hr n hn h
def IntIn (lo hi : Int) (x : Value) : Prop := ∃ z, x = .int .i64 z ∧ lo ≤ z ∧ z ≤ hi
theorem IntIn.int {lo hi : Int} (x : Value) (h : IntIn lo hi x) : ∃ z, x = .int .i64 z := let ⟨z, h, _⟩ := h; ⟨z, h⟩
theorem Blk.fresh {X : World} {p : Nat} {cs : Array Value} {t : TypeId} {xs : List Value} (h : p = X.heap.size) (hx : cs.toList = xs) : Blk (X.alloc (.cells cs t)) p xs := by
  subst h; subst hx; exact Blk.new _ _ _
theorem Only.blk {bs : List Nat} {w w' : World} (h : Only bs w w') {p : Nat} {xs : List Value} (hb : Blk w p xs) (hp : p ∉ bs) : Blk w' p xs := hb.same (h.block p hb.lt hp)
theorem Blk.c5 {w : World} {p : Nat} {x0 x1 x2 x3 x4 : Value} (h : Blk w p [x0, x1, x2, x3, x4]) : w.cell? ⟨p, 0, none⟩ = some x0 ∧ w.cell? ⟨p, 1, none⟩ = some x1 ∧ w.cell? ⟨p, 2, none⟩ = some x2 ∧ w.cell? ⟨p, 3, none⟩ = some x3 ∧ w.cell? ⟨p, 4, none⟩ = some x4 := by
  refine ⟨?_, ?_, ?_, ?_, ?_⟩
  all_goals rw [h.cell]; rfl
theorem Blk.c3 {w : World} {p : Nat} {x0 x1 x2 : Value} (h : Blk w p [x0, x1, x2]) : w.cell? ⟨p, 0, none⟩ = some x0 ∧ w.cell? ⟨p, 1, none⟩ = some x1 ∧ w.cell? ⟨p, 2, none⟩ = some x2 := by
  refine ⟨?_, ?_, ?_⟩
  all_goals rw [h.cell]; rfl

theorem numsOp : ∀ x ∈ (#[Value.int .i64 1, .int .i64 1, .int .i64 2, .int .i64 3, .int .i64 4, .int .i64 5, .int .i64 8, .int .i64 9, .int .i64 10, .int .i64 13, .int .i64 21, .int .i64 6, .int .i64 7, .int .i64 11, .int .i64 12, .int .i64 14, .int .i64 15, .int .i64 16, .int .i64 17, .int .i64 18, .int .i64 19, .int .i64 20, .int .i64 22] : Array Value).toList, IntIn 1 22 x := by
  simp only [List.mem_cons, List.not_mem_nil, or_false, forall_eq_or_imp, forall_eq]
  exact ⟨⟨_, rfl, by decide, by decide⟩, ⟨_, rfl, by decide, by decide⟩, ⟨_, rfl, by decide, by decide⟩, ⟨_, rfl, by decide, by decide⟩, ⟨_, rfl, by decide, by decide⟩, ⟨_, rfl, by decide, by decide⟩, ⟨_, rfl, by decide, by decide⟩, ⟨_, rfl, by decide, by decide⟩, ⟨_, rfl, by decide, by decide⟩, ⟨_, rfl, by decide, by decide⟩, ⟨_, rfl, by decide, by decide⟩, ⟨_, rfl, by decide, by decide⟩, ⟨_, rfl, by decide, by decide⟩, ⟨_, rfl, by decide, by decide⟩, ⟨_, rfl, by decide, by decide⟩, ⟨_, rfl, by decide, by decide⟩, ⟨_, rfl, by decide, by decide⟩, ⟨_, rfl, by decide, by decide⟩, ⟨_, rfl, by decide, by decide⟩, ⟨_, rfl, by decide, by decide⟩, ⟨_, rfl, by decide, by decide⟩, ⟨_, rfl, by decide, by decide⟩, ⟨_, rfl, by decide, by decide⟩⟩
theorem numsReg : ∀ x ∈ (#[Value.int .i64 4, .int .i64 8, .int .i64 2] : Array Value).toList, IntIn 1 8 x := by
  simp only [List.mem_cons, List.not_mem_nil, or_false, forall_eq_or_imp, forall_eq]
  exact ⟨⟨_, rfl, by decide, by decide⟩, ⟨_, rfl, by decide, by decide⟩, ⟨_, rfl, by decide, by decide⟩⟩
theorem numsSet : ∀ x ∈ (#[Value.int .i64 0, .int .i64 1, .int .i64 2, .int .i64 3, .int .i64 15, .int .i64 16, .int .i64 255] : Array Value).toList, IntIn 0 255 x := by
  simp only [List.mem_cons, List.not_mem_nil, or_false, forall_eq_or_imp, forall_eq]
  exact ⟨⟨_, rfl, by decide, by decide⟩, ⟨_, rfl, by decide, by decide⟩, ⟨_, rfl, by decide, by decide⟩, ⟨_, rfl, by decide, by decide⟩, ⟨_, rfl, by decide, by decide⟩, ⟨_, rfl, by decide, by decide⟩, ⟨_, rfl, by decide, by decide⟩⟩

def SomePost (r N : Nat) (w : World) (e : Ending) (w' : World) : Prop := ∃ x : Mi, e = .returned x.val ∧ Rd w' r N ∧ Only [r] w w'

theorem word_short (w : World) (op : Int) : Calls Tryd.prog 130 #[.int .i64 op] w fun e w' => ∃ s1 s2 : ByteArray, e = .returned (.tuple #[.string s1, .string s2]) ∧ s2.size ≤ 3 ∧ Below w.heap.size w w' :=
  (l22Word_any w op).mono fun e w' ⟨he, hb⟩ => ⟨_, _, he, by
    by_cases h : opIn op = true
    · have h2 := inR_iff.mp h
      rw [if_pos h]; exact (fieldStr_small h2.1 h2.2).1
    · rw [if_neg h]; decide, hb⟩

/-- behind the switch: a bound, the instruction -/
def SomeMid (r N xb fb rb : Nat) (z : Int) (fv : List Value) (w : World) (most : Value) (wx : World) : Prop :=
  ∃ (m A B C n : Int), most = .int .i64 m ∧ 0 ≤ m ∧ m ≤ 1048576 ∧ Blk wx xb [.int .i64 z, .int .i64 A, .int .i64 B, .int .i64 C, .int .i64 n] ∧ Blk wx fb fv ∧ Blk wx rb [.int .i64 0, .int .i64 0, .int .i64 0, .int .i64 0, .int .i64 0] ∧ Rd wx r N ∧ Only [r] w wx

set_option maxHeartbeats 8000000 in
theorem l22Some_any (w : World) (r N k n pr sl : Nat) (ia : Option Addr) (il ic : Nat) (hR : Rd w r N) (hN : N ≤ 1099511600000) (hk : k ≤ 1000) (hn : n ≤ 1000) (hpr : pr ≤ 1000) (hsl : sl ≤ 1000) :
    Calls Tryd.prog 114 #[.pointer (some ⟨r, 0, none⟩), .int .i64 (k : Int), .agg #[.int .i64 (pr : Int), .int .i64 (sl : Int), .slice ia il ic], .int .i64 (n : Int)] w (SomePost r (N + 12) w) := by
  have hrl := hR.lt
  have HR := Lib.hid hR
  clear hR
  go_enter Tryd.func114, Tryd.ntmps114
  go_wp2_with (fail)
  go_at_call 60
  refine (num_any (IntIn 1 22) IntIn.int _ r N _ 0 23 23 (((HR.out.alloc _).alloc _).alloc _) (by omega) (by omega) (by omega) (rowQ_newAt _ _ _ (by simp) (by simp; omega) 23 (by simp) numsOp)).mono ?_
  rintro e w1 ⟨_, rfl, ⟨z, rfl, hz1, hz2⟩, hR1, hO1⟩
  have hO : Only [r] w w1 := ((((Only.refl [r] w).alloc _).alloc _).alloc _).trans hO1
  have hF : Blk w1 w.heap.size [.int .i64 (pr : Int), .int .i64 (sl : Int), .slice ia il ic] := hO1.blk (((Blk.new w #[.int .i64 (pr : Int), .int .i64 (sl : Int), .slice ia il ic] 105).alloc _).alloc _) (by simp; omega)
  have hS : Blk w1 (w.heap.size + 1) [.int .i64 0, .int .i64 0, .int .i64 0, .int .i64 0, .int .i64 0] := hO1.blk ((Blk.fresh (p := w.heap.size + 1) (cs := #[.int .i64 0, .int .i64 0, .int .i64 0, .int .i64 0, .int .i64 0]) (t := 124) (by simp) rfl).alloc _) (by simp; omega)
  have hw1 : w.heap.size + 3 ≤ w1.heap.size := by have := hO1.size; simp at this; omega
  have HR1 := Lib.hid hR1; have HO1 := Lib.hid hO; have HF1 := Lib.hid hF; have HS1 := Lib.hid hS
  clear hR1 hO1 hO hF hS HR
  go_wp2_with (fail)
  go_at_call 130
  generalize hw2 : w1.alloc _ = w2
  have hb2 : Below w1.heap.size w1 w2 := by rw [← hw2]; exact below1 _ _
  have hX : Blk w2 w1.heap.size [.int .i64 z, .int .i64 0, .int .i64 0, .int .i64 0, .int .i64 0] := by rw [← hw2]; exact Blk.new _ _ _
  have HX := Lib.hid hX
  have HR2 := Lib.hid (HR1.out.below hb2); have HO2 := Lib.hid (HO1.out.trans (Only.of_below hb2 _)); have HF2 := Lib.hid (HF1.out.below hb2); have HS2 := Lib.hid (HS1.out.below hb2)
  have hs2 : w2.heap.size = w1.heap.size + 1 := by rw [← hw2]; simp
  have HSZ := Lib.hid hs2
  clear hw2 hb2 hX HR1 HF1 HS1 hs2
  refine (word_short w2 z).mono ?_
  rintro e w3 ⟨s1, s2, rfl, hs2, hb⟩
  have HX3 := Lib.hid (HX.out.below hb); have HR3 := Lib.hid (HR2.out.below hb); have HO3 := Lib.hid (HO2.out.trans (Only.of_below hb _)); have HF3 := Lib.hid (HF2.out.below hb); have HS3 := Lib.hid (HS2.out.below hb)
  clear hb HX HR2 HO2 HF2 HS2 HSZ
  go_wp2_with (fail)
  go_loopw [12] (fun i wr => ∃ (k : Nat) (A B C : Int), k ≤ s2.size ∧ i = .int .i64 k ∧ Blk wr w1.heap.size [.int .i64 z, .int .i64 A, .int .i64 B, .int .i64 C, .int .i64 0] ∧ Blk wr w.heap.size [.int .i64 (pr : Int), .int .i64 (sl : Int), .slice ia il ic] ∧ Blk wr (w.heap.size + 1) [.int .i64 0, .int .i64 0, .int .i64 0, .int .i64 0, .int .i64 0] ∧ Rd wr r (N + 1 + 2 * k) ∧ Only [r] w wr) (fun i _ => s2.size - (intOf i).toNat)
  case atStart => exact ⟨0, 0, 0, 0, Nat.zero_le _, rfl, HX3.out, HF3.out, HS3.out, HR3.out, HO3.out⟩
  case round =>
    obtain ⟨j, A, B, C, hj, rfl, hX, hF, hS, hR, hO⟩ := hrel
    obtain ⟨wo, rfl⟩ : ∃ wo : World, wo = wr := ⟨_, rfl⟩
    have hrl' := hR.lt
    have HX := Lib.hid hX; have HF := Lib.hid hF; have HS := Lib.hid hS; have HR := Lib.hid hR; have HO := Lib.hid hO
    clear hX hF hS hR hO
    by_cases hlt : j < s2.size
    · go_wp2_with (fail)
      go_at_call 60
      refine (num_any (IntIn 1 8) IntIn.int _ r _ _ 0 3 3 (HR.out.alloc _) (by omega) (by omega) (by omega) (rowQ_newAt _ _ _ rfl hrl' 3 (by simp) numsReg)).mono ?_
      rintro e w4 ⟨_, rfl, ⟨q, rfl, hq1, hq2⟩, hR4, hO4⟩
      have hO5 := ((Only.refl [r] wo).alloc _).trans hO4
      have HX4 := Lib.hid (hO5.blk HX.out (by simp; omega)); have HF4 := Lib.hid (hO5.blk HF.out (by simp; omega)); have HS4 := Lib.hid (hO5.blk HS.out (by simp; omega)); have HR4 := Lib.hid hR4; have HO4 := Lib.hid (HO.out.trans hO5)
      clear hR4 hO4 hO5 HX HF HS HR HO
      go_wp2_with (fail)
      go_at_call 86
      refine (pick w4 r _ q HR4.out (by omega) (by omega)).mono ?_
      rintro e w5 ⟨v, rfl, _, _, hR5, hO5⟩
      have hX5 := hO5.blk HX4.out (by simp; omega)
      obtain ⟨x0, x1, x2, x3, x4⟩ := hX5.c5
      have xf := hX5.frozen
      have f1 := xf 1; have f2 := xf 2; have f3 := xf 3
      have HX5 := Lib.hid hX5; have HF5 := Lib.hid (hO5.blk HF4.out (by simp; omega)); have HS5 := Lib.hid (hO5.blk HS4.out (by simp; omega)); have HR5 := Lib.hid hR5; have HO5 := Lib.hid (HO4.out.trans hO5)
      clear hX5 hR5 hO5 HX4 HF4 HS4 HR4 HO4 xf x0 x4
      go_wp2_with (fail)
      all_goals
        go_roundw
        case rel =>
          first
            | exact ⟨j + 1, _, _, _, by omega, by go_num, HX5.out.set 1 _, HF5.out.other (a := ⟨w1.heap.size, 1, none⟩) (by simp only []; omega) _, HS5.out.other (a := ⟨w1.heap.size, 1, none⟩) (by simp only []; omega) _, (HR5.out.setCell (p := ⟨w1.heap.size, 1, none⟩) (by simp only []; omega) _).mono (by omega), HO5.out.setCellNew (p := ⟨w1.heap.size, 1, none⟩) (by simp only []; omega) _⟩
            | exact ⟨j + 1, _, _, _, by omega, by go_num, HX5.out.set 2 _, HF5.out.other (a := ⟨w1.heap.size, 2, none⟩) (by simp only []; omega) _, HS5.out.other (a := ⟨w1.heap.size, 2, none⟩) (by simp only []; omega) _, (HR5.out.setCell (p := ⟨w1.heap.size, 2, none⟩) (by simp only []; omega) _).mono (by omega), HO5.out.setCellNew (p := ⟨w1.heap.size, 2, none⟩) (by simp only []; omega) _⟩
            | exact ⟨j + 1, _, _, _, by omega, by go_num, HX5.out.set 3 _, HF5.out.other (a := ⟨w1.heap.size, 3, none⟩) (by simp only []; omega) _, HS5.out.other (a := ⟨w1.heap.size, 3, none⟩) (by simp only []; omega) _, (HR5.out.setCell (p := ⟨w1.heap.size, 3, none⟩) (by simp only []; omega) _).mono (by omega), HO5.out.setCellNew (p := ⟨w1.heap.size, 3, none⟩) (by simp only []; omega) _⟩
            | exact ⟨j + 1, _, _, _, by omega, by go_num, HX5.out, HF5.out, HS5.out, HR5.out.mono (by omega), HO5.out⟩
        case measure => simp [intOf]; omega
    · obtain rfl : j = s2.size := by omega
      have hX := HX.out
      obtain ⟨x0, x1, x2, x3, x4⟩ := hX.c5
      obtain ⟨f0, f1, f2⟩ := HF.out.c3
      have xf4 := hX.frozen 4
      have HN3 : Hid (N + 1 + 2 * s2.size ≤ N + 7) := Lib.hid (by omega)
      have HRR := Lib.hid (HR.out.mono HN3.out)
      clear hX hj HR x1 x2 x3 f2
      go_upto_block 3 with (fail)
      go_cut [14] from 51 to 76 (fun a wx => SomeMid r (N + 8) w1.heap.size w.heap.size (w.heap.size + 1) z [.int .i64 (pr : Int), .int .i64 (sl : Int), .slice ia il ic] w a wx)
      case first =>
        have END : ∀ (wx : World) (m n : Int), 0 ≤ m → m ≤ 1048576 → Blk wx w1.heap.size [.int .i64 z, .int .i64 A, .int .i64 B, .int .i64 C, .int .i64 n] → Blk wx w.heap.size [.int .i64 (pr : Int), .int .i64 (sl : Int), .slice ia il ic] → Blk wx (w.heap.size + 1) [.int .i64 0, .int .i64 0, .int .i64 0, .int .i64 0, .int .i64 0] → Rd wx r (N + 8) → Only [r] w wx → SomeMid r (N + 8) w1.heap.size w.heap.size (w.heap.size + 1) z [.int .i64 (pr : Int), .int .i64 (sl : Int), .slice ia il ic] w (.int .i64 m) wx := fun wx m n h1 h2 h3 h4 h5 h6 h7 => ⟨m, A, B, C, n, rfl, h1, h2, h3, h4, h5, h6, h7⟩
        have HEND := Lib.hid END
        clear END
        go_wp2_with (fail)
        all_goals first
          | (go_at_call 60
             refine (num_any (IntIn 0 255) IntIn.int _ r _ _ 0 7 7 (HRR.out.alloc _) (by omega) (by omega) (by omega) (rowQ_newAt _ _ _ rfl hrl' 7 (by simp) numsSet)).mono ?_
             rintro e w4 ⟨_, rfl, ⟨q, rfl, hq1, hq2⟩, hR4, hO4⟩
             have hO5 := ((Only.refl [r] wo).alloc _).trans hO4
             have hX4 := hO5.blk HX.out (by simp; omega)
             have y0 := hX4.c5.2.2.2.2
             have yf := hX4.frozen 4
             have HX4 := Lib.hid hX4; have HF4 := Lib.hid (hO5.blk HF.out (by simp; omega)); have HS4 := Lib.hid (hO5.blk HS.out (by simp; omega)); have HR4 := Lib.hid hR4; have HO4 := Lib.hid (HO.out.trans hO5)
             clear hR4 hO4 hO5 hX4
             go_wp2_with (fail)
             go_meet
             exact HEND.out _ 0 q (by decide) (by decide) (HX4.out.set 4 _) (HF4.out.other (a := ⟨w1.heap.size, 4, none⟩) (by simp only []; omega) _) (HS4.out.other (a := ⟨w1.heap.size, 4, none⟩) (by simp only []; omega) _) (HR4.out.setCell (p := ⟨w1.heap.size, 4, none⟩) (by simp only []; omega) _) (HO4.out.setCellNew (p := ⟨w1.heap.size, 4, none⟩) (by simp only []; omega) _))
          | (go_meet
             exact HEND.out _ _ _ (by omega) (by omega) HX.out HF.out HS.out (HRR.out.mono (by omega)) HO.out)
      case rest =>
        obtain ⟨m, A, B, C, n0, rfl, hm0, hm1, hX, hF, hS, hR, hO⟩ := hcut
        have hrl2 := hR.lt
        obtain ⟨x0, x1, x2, x3, x4⟩ := hX.c5
        have xf4 := hX.frozen 4
        obtain ⟨t0, t1, t2, t3, t4⟩ := hS.c5
        have tf := hS.frozen
        have g0 := tf 0; have g1 := tf 1; have g2 := tf 2; have g3 := tf 3; have g4 := tf 4
        have HX2 := Lib.hid hX; have HS2 := Lib.hid hS; have HR2 := Lib.hid hR; have HO2 := Lib.hid hO
        have END : ∀ (wx : World) (y0 y1 y2 y3 y4 : Int), Rd wx r (N + 12) → Only [r] w wx → SomePost r (N + 12) w (.returned (.agg #[.int .i64 y0, .int .i64 y1, .int .i64 y2, .int .i64 y3, .int .i64 y4])) wx := fun wx y0 y1 y2 y3 y4 h1 h2 => ⟨⟨y0, y1, y2, y3, y4⟩, rfl, h1, h2⟩
        have HEND := Lib.hid END
        clear hX hF hS hR hO HX HF HS HO HRR f0 f1 tf END HX3 HR3 HO3 HF3 HS3 HO1
        by_cases hm : 0 < m
        · have em : (m == 0) = false := by simp; omega
          clear x4
          go_wp2_with (fail)
          go_at_call 86
          refine (pick wc r _ m HR2.out (by omega) (by omega)).mono ?_
          rintro e w5 ⟨v, rfl, _, _, hR5, hO5⟩
          have hX5 := hO5.blk HX2.out (by simp; omega)
          have hS5 := hO5.blk HS2.out (by simp; omega)
          have HR5 := Lib.hid hR5; have HO5 := Lib.hid (HO2.out.trans hO5)
          clear x0 x1 x2 x3 xf4 t0 t1 t2 t3 t4 g0 g1 g2 g3 g4
          obtain ⟨x0, x1, x2, x3, x4⟩ := hX5.c5
          have xf4 := hX5.frozen 4
          obtain ⟨t0, t1, t2, t3, t4⟩ := hS5.c5
          have tf := hS5.frozen
          have g0 := tf 0; have g1 := tf 1; have g2 := tf 2; have g3 := tf 3; have g4 := tf 4
          clear hR5 hO5 hX5 hS5 tf HX2 HS2 HR2 HO2
          go_wp2_with (fail)
          refine bodyPost_ret (v := .agg #[.int .i64 z, .int .i64 A, .int .i64 B, .int .i64 C, .int .i64 v]) (by simp [results, Tryd.results114, go_sem, t0, t1, t2, t3, t4]) rfl ?_
          refine HEND.out _ _ _ _ _ _ ?_ ?_
          · exact ((((((HR5.out.setCell (p := ⟨w1.heap.size, 4, none⟩) (by simp only []; omega) _).setCell (p := ⟨w.heap.size + 1, 0, none⟩) (by simp only []; omega) _).setCell (p := ⟨w.heap.size + 1, 1, none⟩) (by simp only []; omega) _).setCell (p := ⟨w.heap.size + 1, 2, none⟩) (by simp only []; omega) _).setCell (p := ⟨w.heap.size + 1, 3, none⟩) (by simp only []; omega) _).setCell (p := ⟨w.heap.size + 1, 4, none⟩) (by simp only []; omega) _).mono (by omega)
          · exact (((((HO5.out.setCellNew (p := ⟨w1.heap.size, 4, none⟩) (by simp only []; omega) _).setCellNew (p := ⟨w.heap.size + 1, 0, none⟩) (by simp only []; omega) _).setCellNew (p := ⟨w.heap.size + 1, 1, none⟩) (by simp only []; omega) _).setCellNew (p := ⟨w.heap.size + 1, 2, none⟩) (by simp only []; omega) _).setCellNew (p := ⟨w.heap.size + 1, 3, none⟩) (by simp only []; omega) _).setCellNew (p := ⟨w.heap.size + 1, 4, none⟩) (by simp only []; omega) _
        · obtain rfl : m = 0 := by omega
          by_cases hz : z = 14 ∨ z = 15 ∨ z = 16 ∨ z = 18
          · rcases hz with rfl | rfl | rfl | rfl
            all_goals
              go_wp2_with (fail)
              refine bodyPost_ret (v := .agg #[.int .i64 13, .int .i64 A, .int .i64 0, .int .i64 0, .int .i64 0]) (by simp [results, Tryd.results114, go_sem, t0, t1, t2, t3, t4]) rfl ?_
              refine HEND.out _ _ _ _ _ _ ?_ ?_
              · exact (((((HR2.out.setCell (p := ⟨w.heap.size + 1, 0, none⟩) (by simp only []; omega) _).setCell (p := ⟨w.heap.size + 1, 1, none⟩) (by simp only []; omega) _).setCell (p := ⟨w.heap.size + 1, 2, none⟩) (by simp only []; omega) _).setCell (p := ⟨w.heap.size + 1, 3, none⟩) (by simp only []; omega) _).setCell (p := ⟨w.heap.size + 1, 4, none⟩) (by simp only []; omega) _).mono (by omega)
              · exact ((((HO2.out.setCellNew (p := ⟨w.heap.size + 1, 0, none⟩) (by simp only []; omega) _).setCellNew (p := ⟨w.heap.size + 1, 1, none⟩) (by simp only []; omega) _).setCellNew (p := ⟨w.heap.size + 1, 2, none⟩) (by simp only []; omega) _).setCellNew (p := ⟨w.heap.size + 1, 3, none⟩) (by simp only []; omega) _).setCellNew (p := ⟨w.heap.size + 1, 4, none⟩) (by simp only []; omega) _
          · have e14 : (z == 14) = false := by simp; omega
            have e15 : (z == 15) = false := by simp; omega
            have e16 : (z == 16) = false := by simp; omega
            have e18 : (z == 18) = false := by simp; omega
            clear hz
            go_wp2_with (fail)
            refine bodyPost_ret (v := .agg #[.int .i64 z, .int .i64 A, .int .i64 B, .int .i64 C, .int .i64 n0]) (by simp [results, Tryd.results114, go_sem, t0, t1, t2, t3, t4]) rfl ?_
            refine HEND.out _ _ _ _ _ _ ?_ ?_
            · exact (((((HR2.out.setCell (p := ⟨w.heap.size + 1, 0, none⟩) (by simp only []; omega) _).setCell (p := ⟨w.heap.size + 1, 1, none⟩) (by simp only []; omega) _).setCell (p := ⟨w.heap.size + 1, 2, none⟩) (by simp only []; omega) _).setCell (p := ⟨w.heap.size + 1, 3, none⟩) (by simp only []; omega) _).setCell (p := ⟨w.heap.size + 1, 4, none⟩) (by simp only []; omega) _).mono (by omega)
            · exact ((((HO2.out.setCellNew (p := ⟨w.heap.size + 1, 0, none⟩) (by simp only []; omega) _).setCellNew (p := ⟨w.heap.size + 1, 1, none⟩) (by simp only []; omega) _).setCellNew (p := ⟨w.heap.size + 1, 2, none⟩) (by simp only []; omega) _).setCellNew (p := ⟨w.heap.size + 1, 3, none⟩) (by simp only []; omega) _).setCellNew (p := ⟨w.heap.size + 1, 4, none⟩) (by simp only []; omega) _

end Go.Proofs.YtbdbmmdnidonjaaDoor

set_option maxRecDepth 100000
namespace Go.Proofs.YtbdbmmdnidonjaaDoor
open Go.RowKit

theorem Blk.cell1 {w : World} {p : Nat} {x0 : Value} (h : Blk w p [x0]) : w.cell? ⟨p, 0, none⟩ = some x0 := by rw [h.cell]; rfl
/-- instructions in a row of the call's own, nil or not -/
def OwnIns (B : Nat) (w : World) (iv : Value) (xs : List Mi) : Prop :=
  ∃ ys, w.ownsRow B 124 5 iv xs.length ys ∧ ∀ i x, xs[i]? = some x → MiIn ys i x
def MfIns (B : Nat) (w : World) (ys : List Value) (i : Nat) (f : Mf) : Prop :=
  ys[i * 3]? = some (.int .i64 f.params) ∧ ys[i * 3 + 1]? = some (.int .i64 f.slots) ∧ ∃ iv, ys[i * 3 + 2]? = some iv ∧ OwnIns B w iv f.ins
def OwnFns (B : Nat) (w : World) (fv : Value) (fs : List Mf) : Prop :=
  ∃ ys, w.ownsRow B 105 3 fv fs.length ys ∧ ∀ i f, fs[i]? = some f → MfIns B w ys i f

theorem OwnIns.only {B : Nat} {w w' : World} {iv : Value} {xs : List Mi} (h : OwnIns B w iv xs) {bs : List Nat} (ho : Only bs w w') (hb : ∀ b ∈ bs, b < B) : OwnIns B w' iv xs := by
  obtain ⟨ys, h1, h2⟩ := h
  exact ⟨ys, ownsRow_only h1 ho hb, h2⟩
theorem OwnIns.mono {B B' : Nat} {w : World} {iv : Value} {xs : List Mi} (h : OwnIns B w iv xs) (hB : B' ≤ B) : OwnIns B' w iv xs := by
  obtain ⟨ys, h1, h2⟩ := h
  exact ⟨ys, ownsRow_mono h1 hB, h2⟩
theorem OwnIns.form {B : Nat} {w : World} {iv : Value} {xs : List Mi} (h : OwnIns B w iv xs) : ∃ a c, iv = .slice a xs.length c := by
  obtain ⟨ys, h1, _⟩ := h
  rcases h1.2 with ⟨h1, h2⟩ | ⟨g, cp, cur, h1, _⟩
  · exact ⟨none, 0, by rw [h1, ← h2]⟩
  · exact ⟨_, cp, h1⟩
theorem OwnIns.at {B : Nat} {w : World} {iv : Value} {xs : List Mi} (h : OwnIns B w iv xs) : MisAt w iv xs := by
  obtain ⟨ys, ho, hx⟩ := h
  rcases ho.2 with ⟨rfl, h0⟩ | ⟨g, cap, cur, rfl, _⟩
  · obtain rfl : xs = [] := List.eq_nil_of_length_eq_zero h0
    exact ⟨none, 0, rfl, fun i x hi => by simp at hi⟩
  · exact OwnMis.at ⟨ys, ho, hx⟩
theorem OwnFns.only {B : Nat} {w w' : World} {fv : Value} {fs : List Mf} (h : OwnFns B w fv fs) {bs : List Nat} (ho : Only bs w w') (hb : ∀ b ∈ bs, b < B) : OwnFns B w' fv fs := by
  obtain ⟨ys, h1, h2⟩ := h
  refine ⟨ys, ownsRow_only h1 ho hb, fun i f hi => ?_⟩
  obtain ⟨c0, c1, iv, c2, hm⟩ := h2 i f hi
  exact ⟨c0, c1, iv, c2, hm.only ho hb⟩
theorem OwnFns.at {B : Nat} {w : World} {fv : Value} {fs : List Mf} (h : OwnFns B w fv fs) : MfsAt w fv fs := by
  obtain ⟨ys, ho, hx⟩ := h
  rcases ho.2 with ⟨rfl, h0⟩ | ⟨g, cap, cur, rfl, _⟩
  · obtain rfl : fs = [] := List.eq_nil_of_length_eq_zero h0
    exact ⟨none, 0, rfl, fun i x hi => by simp at hi⟩
  · refine ⟨_, _, rfl, fun i f hi => ?_⟩
    have hil := idx_lt hi
    obtain ⟨h0, h1, iv, h2, hm⟩ := hx i f hi
    refine ⟨g, 0, _, rfl, ?_, ?_, ?_, hm.at⟩
    · rw [Nat.zero_add, ho.cellAt (i * 3) (by omega)]; exact h0
    · rw [Nat.zero_add, ho.cellAt (i * 3 + 1) (by omega)]; exact h1
    · rw [Nat.zero_add, ho.cellAt (i * 3 + 2) (by omega)]; exact h2
theorem OwnFns.form {B : Nat} {w : World} {iv : Value} {xs : List Mf} (h : OwnFns B w iv xs) : ∃ a c, iv = .slice a xs.length c := by
  obtain ⟨ys, h1, _⟩ := h
  rcases h1.2 with ⟨h1, h2⟩ | ⟨g, cp, cur, h1, _⟩
  · exact ⟨none, 0, by rw [h1, ← h2]⟩
  · exact ⟨_, cp, h1⟩

theorem snoc_at {α : Type} {xs : List α} {x y : α} {i : Nat} (h : (xs ++ [x])[i]? = some y) : (i < xs.length ∧ xs[i]? = some y) ∨ (i = xs.length ∧ y = x) := by
  rcases Nat.lt_or_ge i xs.length with hi | hi
  · rw [List.getElem?_append_left hi] at h
    exact .inl ⟨hi, h⟩
  · have hl := idx_lt h
    simp at hl
    obtain rfl : i = xs.length := by omega
    rw [List.getElem?_append_right (Nat.le_refl _)] at h
    simp at h
    exact .inr ⟨rfl, h.symm⟩

theorem OwnIns.snoc {B : Nat} {w' : World} {iv : Value} {xs : List Mi} {ys : List Value} (hx : ∀ i x, xs[i]? = some x → MiIn ys i x) (hl : ys.length = xs.length * 5) {y0 y1 y2 y3 y4 : Int}
    (h : w'.ownsRow B 124 5 iv (xs.length + 1) (ys ++ [.int .i64 y0, .int .i64 y1, .int .i64 y2, .int .i64 y3, .int .i64 y4])) : OwnIns B w' iv (xs ++ [⟨y0, y1, y2, y3, y4⟩]) := by
  refine ⟨_, by rw [List.length_append, List.length_singleton]; exact h, fun i x hi => ?_⟩
  rcases snoc_at hi with ⟨hlt, hi⟩ | ⟨rfl, rfl⟩
  · obtain ⟨h0, h1, h2, h3, h4⟩ := hx i x hi
    unfold MiIn
    rw [List.getElem?_append_left (by omega), List.getElem?_append_left (by omega), List.getElem?_append_left (by omega), List.getElem?_append_left (by omega), List.getElem?_append_left (by omega)]
    exact ⟨h0, h1, h2, h3, h4⟩
  · unfold MiIn
    rw [List.getElem?_append_right (by omega), List.getElem?_append_right (by omega), List.getElem?_append_right (by omega), List.getElem?_append_right (by omega), List.getElem?_append_right (by omega), hl]
    simp [show ∀ k m : Nat, k + m - k = m from fun k m => by omega]

/-- rows of instructions are none of functions -/
theorem ins_ne {B B' : Nat} {w : World} {iv fv : Value} {n m : Nat} {ys zs : List Value} (h : w.ownsRow B 124 5 iv n ys) (k : w.ownsRow B' 105 3 fv m zs) : iv.ownBlock = none ∨ iv.ownBlock ≠ fv.ownBlock := by
  rcases h.2 with ⟨rfl, _⟩ | ⟨g, cap, cur, rfl, _, hg, _⟩
  · exact .inl rfl
  · right
    intro e
    rcases k.2 with ⟨rfl, _⟩ | ⟨g', cap', cur', rfl, _, hg', _⟩
    · simp [Value.ownBlock] at e
    · simp only [Value.ownBlock, Option.some.injEq] at e
      subst e
      rw [hg] at hg'
      simp at hg'

theorem OwnFns.snoc {B : Nat} {w w' : World} {fv fv' iv : Value} {fs : List Mf} {ys : List Value} {p s : Int} {xs : List Mi} (hf : w.ownsRow B 105 3 fv fs.length ys) (hx : ∀ i f, fs[i]? = some f → MfIns B w ys i f) (hi : OwnIns B w iv xs) (hg : w.grownBy w' fv.ownBlock)
    (h : w'.ownsRow B 105 3 fv' (fs.length + 1) (ys ++ [.int .i64 p, .int .i64 s, iv])) : OwnFns B w' fv' (fs ++ [⟨p, s, xs⟩]) := by
  have hl : ys.length = fs.length * 3 := hf.1
  have hk : ∀ iv xs, OwnIns B w iv xs → OwnIns B w' iv xs := fun iv xs ⟨zs, h1, h2⟩ => ⟨zs, h1.kept hg (ins_ne h1 hf), h2⟩
  refine ⟨_, by rw [List.length_append, List.length_singleton]; exact h, fun i f hi' => ?_⟩
  rcases snoc_at hi' with ⟨hlt, hi'⟩ | ⟨rfl, rfl⟩
  · obtain ⟨h0, h1, v, h2, hm⟩ := hx i f hi'
    refine ⟨?_, ?_, v, ?_, hk _ _ hm⟩
    · rw [List.getElem?_append_left (by omega)]; exact h0
    · rw [List.getElem?_append_left (by omega)]; exact h1
    · rw [List.getElem?_append_left (by omega)]; exact h2
  · refine ⟨?_, ?_, iv, ?_, hk _ _ hi⟩
    · rw [List.getElem?_append_right (by omega), hl]; simp
    · rw [List.getElem?_append_right (by omega), hl]; simp [show ∀ k m : Nat, k + m - k = m from fun k m => by omega]
    · rw [List.getElem?_append_right (by omega), hl]; simp [show ∀ k m : Nat, k + m - k = m from fun k m => by omega]

theorem some5 (w : World) (r N k n pr sl : Nat) (ia : Option Addr) (il ic : Nat) (hR : Rd w r N) (hN : N ≤ 1099511600000) (hk : k ≤ 1000) (hn : n ≤ 1000) (hpr : pr ≤ 1000) (hsl : sl ≤ 1000) :
    Calls Tryd.prog 114 #[.pointer (some ⟨r, 0, none⟩), .int .i64 (k : Int), .agg #[.int .i64 (pr : Int), .int .i64 (sl : Int), .slice ia il ic], .int .i64 (n : Int)] w fun e w' => ∃ y0 y1 y2 y3 y4 : Int, e = .returned (.agg #[.int .i64 y0, .int .i64 y1, .int .i64 y2, .int .i64 y3, .int .i64 y4]) ∧ Rd w' r (N + 12) ∧ Only [r] w w' :=
  (l22Some_any w r N k n pr sl ia il ic hR hN hk hn hpr hsl).mono fun _ _ ⟨x, he, h⟩ => ⟨x.op, x.a, x.b, x.c, x.n, he, h⟩

theorem numsFns : ∀ x ∈ (#[Value.int .i64 1, .int .i64 2, .int .i64 1, .int .i64 3] : Array Value).toList, IntIn 1 3 x := by
  simp only [List.mem_cons, List.not_mem_nil, or_false, forall_eq_or_imp, forall_eq]
  exact ⟨⟨_, rfl, by decide, by decide⟩, ⟨_, rfl, by decide, by decide⟩, ⟨_, rfl, by decide, by decide⟩, ⟨_, rfl, by decide, by decide⟩⟩
theorem numsPar : ∀ x ∈ (#[Value.int .i64 1, .int .i64 0, .int .i64 2, .int .i64 3] : Array Value).toList, IntIn 0 3 x := by
  simp only [List.mem_cons, List.not_mem_nil, or_false, forall_eq_or_imp, forall_eq]
  exact ⟨⟨_, rfl, by decide, by decide⟩, ⟨_, rfl, by decide, by decide⟩, ⟨_, rfl, by decide, by decide⟩, ⟨_, rfl, by decide, by decide⟩⟩
theorem numsSlo : ∀ x ∈ (#[Value.int .i64 2, .int .i64 0, .int .i64 5, .int .i64 1] : Array Value).toList, IntIn 0 5 x := by
  simp only [List.mem_cons, List.not_mem_nil, or_false, forall_eq_or_imp, forall_eq]
  exact ⟨⟨_, rfl, by decide, by decide⟩, ⟨_, rfl, by decide, by decide⟩, ⟨_, rfl, by decide, by decide⟩, ⟨_, rfl, by decide, by decide⟩⟩
theorem numsLen : ∀ x ∈ (#[Value.int .i64 6, .int .i64 9, .int .i64 14, .int .i64 3, .int .i64 1, .int .i64 20] : Array Value).toList, IntIn 1 20 x := by
  simp only [List.mem_cons, List.not_mem_nil, or_false, forall_eq_or_imp, forall_eq]
  exact ⟨⟨_, rfl, by decide, by decide⟩, ⟨_, rfl, by decide, by decide⟩, ⟨_, rfl, by decide, by decide⟩, ⟨_, rfl, by decide, by decide⟩, ⟨_, rfl, by decide, by decide⟩, ⟨_, rfl, by decide, by decide⟩⟩

theorem OwnFns.mono {B B' : Nat} {w : World} {fv : Value} {fs : List Mf} (h : OwnFns B w fv fs) (hB : B' ≤ B) : OwnFns B' w fv fs := by
  obtain ⟨ys, h1, h2⟩ := h
  refine ⟨ys, ownsRow_mono h1 hB, fun i f hi => ?_⟩
  obtain ⟨c0, c1, iv, c2, hm⟩ := h2 i f hi
  exact ⟨c0, c1, iv, c2, hm.mono hB⟩
theorem rowForm {B : Nat} {w : World} {e : TypeId} {size n : Nat} {v : Value} {ys : List Value} (h : w.ownsRow B e size v n ys) : ∃ a c, v = .slice a n c := by
  rcases h.2 with ⟨h1, h2⟩ | ⟨g, cp, cur, h1, _⟩
  · exact ⟨none, 0, by rw [h1, ← h2]⟩
  · exact ⟨_, cp, h1⟩
theorem OwnFns.keep {B : Nat} {w w' : World} {fv : Value} {fs : List Mf} (h : OwnFns B w fv fs) (hh : ∀ k, B ≤ k → k < w.heap.size → w'.heap[k]? = w.heap[k]?) : OwnFns B w' fv fs := by
  obtain ⟨ys, h1, h2⟩ := h
  refine ⟨ys, ownsRow_same h1 fun k hk => hh k (World.ownsRow.lt h1 k hk).1 (World.ownsRow.lt h1 k hk).2, fun i f hi => ?_⟩
  obtain ⟨c0, c1, iv, c2, zs, k1, k2⟩ := h2 i f hi
  exact ⟨c0, c1, iv, c2, zs, ownsRow_same k1 fun k hk => hh k (World.ownsRow.lt k1 k hk).1 (World.ownsRow.lt k1 k hk).2, k2⟩
def FnsB (fs : List Mf) : Prop := fs.length ≤ 3 ∧ ∀ f ∈ fs, 1 ≤ f.ins.length ∧ f.ins.length ≤ 20 ∧ f.params ≤ 3
theorem FnsB.snoc {fs : List Mf} {p s : Int} {xs : List Mi} (h : FnsB fs) (hl : fs.length ≤ 2) (h1 : 1 ≤ xs.length) (h2 : xs.length ≤ 20) (hp : p ≤ 3) : FnsB (fs ++ [⟨p, s, xs⟩]) := by
  refine ⟨by simp; omega, fun f hf => ?_⟩
  rcases List.mem_append.1 hf with hf | hf
  · exact h.2 f hf
  · obtain rfl := List.mem_singleton.1 hf
    exact ⟨h1, h2, hp⟩
def MachDrawn (r N : Nat) (w : World) (e : Ending) (w' : World) : Prop :=
  ∃ fv fs, e = .returned (.agg #[fv]) ∧ OwnFns w.heap.size w' fv fs ∧ FnsB fs ∧ 1 ≤ fs.length ∧ Rd w' r N ∧ Only [r] w w'

set_option maxHeartbeats 8000000 in
theorem l22Mach_any (w : World) (r N : Nat) (hR : Rd w r N) (hN : N ≤ 1099511500000) :
    Calls Tryd.prog 85 #[.pointer (some ⟨r, 0, none⟩)] w (MachDrawn r (N + 2000) w) := by
  have hrl := hR.lt
  have HR := Lib.hid hR
  clear hR
  obtain ⟨i0, hi, hz0, hz1, hz2⟩ := info_parts info_mi
  obtain ⟨j0, hj, hw0, hw1, hw2⟩ := info_parts info_mf
  go_enter Tryd.func85, Tryd.ntmps85
  go_wp2_with (fail)
  go_at_call 60
  refine (num_any (IntIn 1 3) IntIn.int _ r N _ 0 4 4 (((HR.out.alloc _).alloc _).alloc _) (by omega) (by omega) (by omega) (rowQ_newAt _ _ _ (by simp) (by simp; omega) 4 (by simp) numsFns)).mono ?_
  rintro e w1 ⟨_, rfl, ⟨z, rfl, hz1', hz2'⟩, hR1, hO1⟩
  obtain ⟨F, rfl⟩ : ∃ F : Nat, z = F := ⟨z.toNat, by omega⟩
  have hO : Only [r] w w1 := ((((Only.refl [r] w).alloc _).alloc _).alloc _).trans hO1
  have hA : Blk w1 w.heap.size [.slice none 0 0] := hO1.blk (((Blk.new w #[.slice none 0 0] 25).alloc _).alloc _) (by simp; omega)
  have hM : Blk w1 (w.heap.size + 1) [.slice none 0 0] := hO1.blk ((Blk.fresh (p := w.heap.size + 1) (cs := #[.slice none 0 0]) (t := 25) (by simp) rfl).alloc _) (by simp; omega)
  have hsz : w.heap.size + 3 ≤ w1.heap.size := by have := hO1.size; simp at this; omega
  have HR1 := Lib.hid hR1; have HO1 := Lib.hid hO; have HA1 := Lib.hid hA; have HM1 := Lib.hid hM
  clear hR1 hO1 hO hA hM HR
  go_wp2_with (fail)
  go_loopw [5] (fun k wr => ∃ (j : Nat) (fa : Option Addr) (fc : Nat) (fs : List Mf), j ≤ F ∧ k = .int .i64 j ∧ fs.length = j ∧ Blk wr w.heap.size [.slice none 0 0] ∧ Blk wr (w.heap.size + 1) [.slice fa j fc] ∧ OwnFns w1.heap.size wr (.slice fa j fc) fs ∧ FnsB fs ∧ Rd wr r (N + 1 + 600 * j) ∧ Only [r] w wr ∧ w1.heap.size ≤ wr.heap.size) (fun k _ => F - (intOf k).toNat)
  case atStart => exact ⟨0, none, 0, [], Nat.zero_le _, rfl, rfl, HA1.out, HM1.out, ⟨[], World.ownsRow_nil _ _ _ _, fun i f hi => by simp at hi⟩, ⟨by simp, by simp⟩, HR1.out, HO1.out, Nat.le_refl _⟩
  case round =>
    obtain ⟨j, fa, fc, fs, hjF, rfl, hfl, hA, hM, hF, hFB, hR, hO, hszr⟩ := hrel
    obtain ⟨wo, rfl⟩ : ∃ wo : World, wo = wr := ⟨_, rfl⟩
    have hrl1 := hR.lt
    have HA := Lib.hid hA; have HM := Lib.hid hM; have HF := Lib.hid hF; have HFB := Lib.hid hFB; have HR := Lib.hid hR; have HO := Lib.hid hO; have HFL := Lib.hid hfl
    clear hA hM hF hFB hR hO hfl HR1 HO1 HA1 HM1
    by_cases hlt : j < F
    · go_wp2_with (fail)
      go_at_call 60
      refine (num_any (IntIn 0 3) IntIn.int _ r _ _ 0 4 4 (HR.out.alloc _) (by omega) (by omega) (by omega) (rowQ_newAt _ _ _ rfl hrl1 4 (by simp) numsPar)).mono ?_
      rintro e w2 ⟨_, rfl, ⟨pz, rfl, hp1, hp2⟩, hR2, hO2⟩
      obtain ⟨pr, rfl⟩ : ∃ p : Nat, pz = p := ⟨pz.toNat, by omega⟩
      have hO2' := ((Only.refl [r] wo).alloc _).trans hO2
      have HR2 := Lib.hid hR2; have HO2 := Lib.hid hO2'
      have hrl2 := hR2.lt
      clear hR2 hO2 hO2' HR
      go_wp2_with (fail)
      go_at_call 60
      refine (num_any (IntIn 0 5) IntIn.int _ r _ _ 0 4 4 (HR2.out.alloc _) (by omega) (by omega) (by omega) (rowQ_newAt _ _ _ rfl hrl2 4 (by simp) numsSlo)).mono ?_
      rintro e w3 ⟨_, rfl, ⟨sz, rfl, hs1, hs2⟩, hR3, hO3⟩
      obtain ⟨sl, rfl⟩ : ∃ p : Nat, sz = p := ⟨sz.toNat, by omega⟩
      have hO3' := HO2.out.trans (((Only.refl [r] w2).alloc _).trans hO3)
      have HR3 := Lib.hid hR3; have HO3 := Lib.hid (HO.out.trans hO3')
      have HA3 := Lib.hid (hO3'.blk HA.out (by simp; omega)); have HM3 := Lib.hid (hO3'.blk HM.out (by simp; omega))
      have HF3 := Lib.hid (HF.out.only hO3' (fun b hb => by have := List.mem_singleton.1 hb; omega))
      have hrl3 := hR3.lt
      have hsz3 : w1.heap.size ≤ w3.heap.size := by have := hO3'.size; omega
      clear hR3 hO3 hO3' HR2 HO2 HA HM HF HO
      go_wp2_with (fail)
      go_at_call 60
      generalize hw4 : w3.alloc (.cells #[.int .i64 (pr : Int), .int .i64 (sl : Int), .slice none 0 0] 105) = w4
      have hb4 : Below w3.heap.size w3 w4 := by rw [← hw4]; exact below1 _ _
      have hs4 : w4.heap.size = w3.heap.size + 1 := by rw [← hw4]; simp
      have HV4 : Hid (Blk w4 w3.heap.size [.int .i64 (pr : Int), .int .i64 (sl : Int), .slice none 0 0]) := Lib.hid (by rw [← hw4]; exact Blk.new _ _ _)
      have HB4 := Lib.hid hb4
      have HS4 := Lib.hid hs4
      clear hw4 hb4
      refine (num_any (IntIn 1 20) IntIn.int _ r _ _ 0 6 6 ((HR3.out.below HB4.out).alloc _) (by omega) (by omega) (by omega) (rowQ_newAt _ _ _ (by rw [← hs4]) (by omega) 6 (by simp) numsLen)).mono ?_
      rintro e w5 ⟨_, rfl, ⟨lz, rfl, hl1, hl2⟩, hR5, hO5⟩
      obtain ⟨L, rfl⟩ : ∃ p : Nat, lz = p := ⟨lz.toNat, by omega⟩
      clear hs4
      have hO5' := ((Only.refl [r] w4).alloc _).trans hO5
      have HV5 := Lib.hid (hO5'.blk HV4.out (by simp; omega))
      have HR5 := Lib.hid hR5
      have HO5 : Hid (Only [r] w3 w5) := Lib.hid ((Only.of_below HB4.out _).trans hO5')
      have hs5 : w3.heap.size < w5.heap.size := by have := hO5'.size; have := HS4.out; omega
      have hLL : (L : Int) - 1 = ((L - 1 : Nat) : Int) := by omega
      clear hR5 hO5 hO5' HR3 HV4 HB4 HS4
      go_wp2_with (fail)
      go_loopw [8] (fun i wr => ∃ (q : Nat) (ia : Option Addr) (ic : Nat) (xs : List Mi), q + 1 ≤ L ∧ i = .int .i64 q ∧ xs.length = q ∧ Blk wr w3.heap.size [.int .i64 (pr : Int), .int .i64 (sl : Int), .slice ia q ic] ∧ OwnIns w5.heap.size wr (.slice ia q ic) xs ∧ Rd wr r (N + 4 + 600 * j + 20 * q) ∧ Only [r] w3 wr ∧ w5.heap.size ≤ wr.heap.size) (fun i _ => L - (intOf i).toNat)
      case atStart => exact ⟨0, none, 0, [], by omega, rfl, rfl, HV5.out, ⟨[], World.ownsRow_nil _ _ _ _, fun i f hi => by simp at hi⟩, HR5.out.mono (by omega), HO5.out, Nat.le_refl _⟩
      case round =>
        obtain ⟨q, ia, ic, xs, hqL, rfl, hxl, hV, hI, hR, hO, hszq⟩ := hrel
        obtain ⟨wi, rfl⟩ : ∃ wi : World, wi = wr := ⟨_, rfl⟩
        obtain ⟨c0, c1, c2⟩ := hV.c3
        have vf := hV.frozen 2
        have hvl := hV.lt
        have HV := Lib.hid hV; have HR := Lib.hid hR; have HO := Lib.hid hO
        obtain ⟨ys, hy, hx⟩ := hI
        have HX := Lib.hid hx; have HXL := Lib.hid hxl
        rw [hxl] at hy
        have HY := Lib.hid hy
        have HY7L := Lib.hid hy.1
        clear hV hR hO hy hx hxl HV5 HR5 HO5
        by_cases hqlt : q < L - 1
        · go_wp2_with (fail)
          refine wp_region_chain (fun W => W.cell? ⟨w3.heap.size, 0, none⟩ = some (.int .i64 (pr : Int)) ∧ W.cell? ⟨w3.heap.size, 1, none⟩ = some (.int .i64 (sl : Int)) ∧ W.cell? ⟨w3.heap.size, 2, none⟩ = some (.slice ia q ic)) [(0, false), (1, true), (2, false), (3, false), (4, true), (5, false)] [6, 7, 8, 9, 10] 10 (by kernel_rfl) (by kernel_rfl) (fun d v c a w h => by cases d <;> exact h) ⟨c0, c1, c2⟩ ?_
          simp only [pickO, List.map_cons, List.map_nil, List.getD_cons_zero, List.getD_cons_succ]
          refine heldO_stepY (v := ?_) rfl ?_ ?_
          rotate_left
          · intro W
            go_simp
            try rfl
          simp only [Act.put, List.setIfInBounds_toArray, List.set_cons_zero, List.set_cons_succ]
          refine heldO_step (v := ?_) rfl ?_ ?_
          rotate_left
          · intro W hS
            obtain ⟨k0, k1, k2⟩ := hS
            go_simp
            try rfl
          simp only [Act.put, List.setIfInBounds_toArray, List.set_cons_zero, List.set_cons_succ]
          refine heldO_stepY (v := ?_) rfl ?_ ?_
          rotate_left
          · intro W
            go_simp
            try rfl
          simp only [Act.put, List.setIfInBounds_toArray, List.set_cons_zero, List.set_cons_succ]
          refine heldO_stepY (v := ?_) rfl ?_ ?_
          rotate_left
          · intro W
            go_simp
            try rfl
          simp only [Act.put, List.setIfInBounds_toArray, List.set_cons_zero, List.set_cons_succ]
          refine heldO_step (v := ?_) rfl ?_ ?_
          rotate_left
          · intro W hS
            obtain ⟨k0, k1, k2⟩ := hS
            go_simp
            try rfl
          simp only [Act.put, List.setIfInBounds_toArray, List.set_cons_zero, List.set_cons_succ]
          refine heldO_stepY (v := ?_) rfl ?_ ?_
          rotate_left
          · intro W
            go_simp
            try rfl
          simp only [Act.put, List.setIfInBounds_toArray, List.set_cons_zero, List.set_cons_succ]
          refine heldO_nil ?_
          refine tailO_step rfl (fun K hK => ?_)
          go_simp
          refine (some5 _ r _ j L pr sl ia q ic HR.out.drew (by omega) (by omega) (by omega) (by omega) (by omega)).mono ?_
          rintro e w6 ⟨y0, y1, y2, y3, y4, rfl, hR6, hO6⟩
          have hO6' : Only [r] wi w6 := ((Only.refl [r] wi).drew).trans hO6
          have hV6 := hO6'.blk HV.out (by simp; omega)
          have hY6 := ownsRow_only HY.out hO6' (fun b hb => by have := List.mem_singleton.1 hb; omega)
          have hsz6 := hO6'.size
          have hrow : Value.ownBlock (.slice ia q ic) ≠ some w3.heap.size := fun e => by have := (World.ownsRow.lt HY.out _ e).1; omega
          have HV6 := Lib.hid hV6; have HY6 := Lib.hid hY6; have HR6 := Lib.hid hR6; have HO6 := Lib.hid (HO.out.trans hO6'); have HROW := Lib.hid hrow
          refine hK _ _ (.inr hV6.c3) ?_
          clear hK K c0 c1 c2 vf hV6 hY6 hR6 hO6 hO6' hrow HV HR HO HY
          refine tailO_step rfl (fun K hK => ?_)
          go_simp
          refine hK _ _ (.inr (HV6.out.alloc _).c3) ?_
          clear hK K
          refine tailO_step rfl (fun K hK => ?_)
          refine wp_append_lies _ (.tmp 35) (.tmp 41) 103 rfl w5.heap.size 124 i0 _ 5 40 Tryd.underlying103 hi hz0 hz1 hz2 rfl (by decide) _ q ys (by rfl) (HY6.out.alloc _) ⟨w6.heap.size, 0, none⟩ 1 1 [.int .i64 y0, .int .i64 y1, .int .i64 y2, .int .i64 y3, .int .i64 y4] (by rfl) rfl (World.news_of_block (heap_alloc_new _ _)) (by simp [Value.oneCell']) (by decide) (by unfold maxLen; omega) (by omega) (by simp; omega) _ rfl ?_
          intro g gc w7 hown hgrow hat hgl
          have hV7 := (HV6.out.alloc _).grown hgrow HROW.out
          have hrn := fun k hk => (World.ownsRow.lt HY6.out k hk).1
          have HV7 := Lib.hid hV7; have HY7 := Lib.hid hown
          have HR7 := Lib.hid ((HR6.out.alloc _).grown hgrow (fun k hk => by have := hrn k hk; omega))
          have HO7 := Lib.hid ((HO6.out.alloc _).grown hgrow (fun k hk => by have := hrn k hk; omega))
          have hsz7 : w5.heap.size ≤ w7.heap.size := by have := hgrow.size; simp at this; omega
          have vf := hV7.frozen 2
          have c2 := hV7.c3.2.2
          refine hK _ _ (.inr hV7.c3) ?_
          clear hK K hown hgrow hat hgl hV7 hrn HV6 HY6 HR6 HO6 HROW
          simp only [Act.put, List.setIfInBounds_toArray, List.set_cons_zero, List.set_cons_succ]
          refine tailO_step rfl (fun K hK => ?_)
          go_simp
          refine hK _ _ (.inr HV7.out.c3) ?_
          clear hK K
          refine tailO_step rfl (fun K hK => ?_)
          go_simp
          refine hK _ _ (.inl rfl) (tailO_nil ?_)
          clear hK K
          go_wp2_with (fail)
          go_roundw
          case rel =>
            exact ⟨q + 1, some ⟨g, 0, none⟩, gc, xs ++ [⟨y0, y1, y2, y3, y4⟩], by omega, by go_num, by simp [HXL.out], HV7.out.set 2 _, (OwnIns.snoc HX.out (by rw [HXL.out]; exact HY7L.out) (by rw [HXL.out]; exact HY7.out)).only ((Only.refl [w3.heap.size] w7).setCell (p := ⟨w3.heap.size, 2, none⟩) (by simp) _) (fun b hb => by have := List.mem_singleton.1 hb; omega), (HR7.out.setCell (p := ⟨w3.heap.size, 2, none⟩) (by simp only []; omega) _).mono (by omega), HO7.out.setCellNew (p := ⟨w3.heap.size, 2, none⟩) (Nat.le_refl _) _, by simpa using hsz7⟩
          case measure => simp [intOf]; omega
        · have HQE : Hid (q + 1 = L) := Lib.hid (by omega)
          have hq20 : q + 1 ≤ 20 := by omega
          by_cases hL : 1 < L
          · go_wp2_with (fail)
            go_at_call 86
            refine (pick wi r _ 6 HR.out (by omega) (by omega)).mono ?_
            rintro e wk ⟨k, rfl, _, _, hRk, hOk⟩
            have hVk := hOk.blk HV.out (by simp; omega)
            have hYk := ownsRow_only HY.out hOk (fun b hb => by have := List.mem_singleton.1 hb; omega)
            have hszk := hOk.size
            clear c0 c1 c2 vf hvl
            obtain ⟨c0, c1, c2⟩ := hVk.c3
            have vf := hVk.frozen 2
            have hvl := hVk.lt
            have HOk := Lib.hid (HO.out.trans hOk)
            clear HV HY HR HO
            have HV := Lib.hid hVk; have HY := Lib.hid hYk; have HR := Lib.hid hRk; have HO := Lib.hid HOk.out
            clear hVk hYk hRk hOk HOk
            by_cases hk0 : k = 0
            · have ek : ((k : Int) == 0) = true := by rw [hk0]; rfl
              clear hk0
              go_wp2_with (fail)
              refine wp_region_chain (fun W => W.cell? ⟨w3.heap.size, 0, none⟩ = some (.int .i64 (pr : Int)) ∧ W.cell? ⟨w3.heap.size, 1, none⟩ = some (.int .i64 (sl : Int)) ∧ W.cell? ⟨w3.heap.size, 2, none⟩ = some (.slice ia q ic)) [(0, false), (1, true), (2, false), (3, false)] [4, 5, 6, 7, 8, 9] 9 (by kernel_rfl) (by kernel_rfl) (fun d v c a w h => by cases d <;> exact h) ⟨c0, c1, c2⟩ ?_
              simp only [pickO, List.map_cons, List.map_nil, List.getD_cons_zero, List.getD_cons_succ]
              refine heldO_stepY (v := ?_) rfl ?_ ?_
              rotate_left
              · intro W
                go_simp
                try rfl
              simp only [Act.put, List.setIfInBounds_toArray, List.set_cons_zero, List.set_cons_succ]
              refine heldO_step (v := ?_) rfl ?_ ?_
              rotate_left
              · intro W hS
                obtain ⟨k0, k1, k2⟩ := hS
                go_simp
                try rfl
              simp only [Act.put, List.setIfInBounds_toArray, List.set_cons_zero, List.set_cons_succ]
              refine heldO_stepY (v := ?_) rfl ?_ ?_
              rotate_left
              · intro W
                go_simp
                try rfl
              simp only [Act.put, List.setIfInBounds_toArray, List.set_cons_zero, List.set_cons_succ]
              refine heldO_stepY (v := ?_) rfl ?_ ?_
              rotate_left
              · intro W
                go_simp
                try rfl
              simp only [Act.put, List.setIfInBounds_toArray, List.set_cons_zero, List.set_cons_succ]
              refine heldO_nil ?_
              refine tailO_step rfl (fun K hK => ?_)
              go_simp
              refine (pick _ r _ L HR.out.drew (by omega) (by omega)).mono ?_
              rintro e w6 ⟨v, rfl, _, _, hR6, hO6⟩
              have hO6' : Only [r] wk w6 := ((Only.refl [r] wk).drew).trans hO6
              have hV6 := hO6'.blk HV.out (by simp; omega)
              have hY6 := ownsRow_only HY.out hO6' (fun b hb => by have := List.mem_singleton.1 hb; omega)
              have hsz6 := hO6'.size
              have hrow : Value.ownBlock (.slice ia q ic) ≠ some w3.heap.size := fun e => by have := (World.ownsRow.lt HY.out _ e).1; omega
              have HV6 := Lib.hid hV6; have HY6 := Lib.hid hY6; have HR6 := Lib.hid hR6; have HO6 := Lib.hid (HO.out.trans hO6'); have HROW := Lib.hid hrow
              refine hK _ _ (.inr hV6.c3) ?_
              clear hK K c0 c1 c2 vf hV6 hY6 hR6 hO6 hO6' hrow HV HR HO HY
              refine tailO_step rfl (fun K hK => ?_)
              go_simp
              refine hK _ _ (.inr HV6.out.c3) ?_
              clear hK K
              refine tailO_step rfl (fun K hK => ?_)
              go_simp
              refine hK _ _ (.inr (HV6.out.alloc _).c3) ?_
              clear hK K
              refine tailO_step rfl (fun K hK => ?_)
              refine wp_append_lies _ (.tmp 52) (.tmp 57) 103 rfl w5.heap.size 124 i0 _ 5 40 Tryd.underlying103 hi hz0 hz1 hz2 rfl (by decide) _ q ys (by rfl) (HY6.out.alloc _) ⟨w6.heap.size, 0, none⟩ 1 1 [.int .i64 20, .int .i64 0, .int .i64 0, .int .i64 0, .int .i64 (v : Int)] (by rfl) rfl (World.news_of_block (heap_alloc_new _ _)) (by simp [Value.oneCell']) (by decide) (by unfold maxLen; omega) (by omega) (by simp; omega) _ rfl ?_
              intro g gc w7 hown hgrow hat hgl
              have hV7 := (HV6.out.alloc _).grown hgrow HROW.out
              have hrn := fun k hk => (World.ownsRow.lt HY6.out k hk).1
              have HV7 := Lib.hid hV7; have HY7 := Lib.hid hown
              have HR7 := Lib.hid ((HR6.out.alloc _).grown hgrow (fun k hk => by have := hrn k hk; omega))
              have HO7 := Lib.hid ((HO6.out.alloc _).grown hgrow (fun k hk => by have := hrn k hk; omega))
              have hsz7 : w5.heap.size ≤ w7.heap.size := by have := hgrow.size; simp at this; omega
              have vf := hV7.frozen 2
              have c2 := hV7.c3.2.2
              refine hK _ _ (.inr hV7.c3) ?_
              clear hK K hown hgrow hat hgl hV7 hrn HV6 HY6 HR6 HO6 HROW
              simp only [Act.put, List.setIfInBounds_toArray, List.set_cons_zero, List.set_cons_succ]
              refine tailO_step rfl (fun K hK => ?_)
              go_simp
              refine hK _ _ (.inr HV7.out.c3) ?_
              clear hK K
              refine tailO_step rfl (fun K hK => ?_)
              go_simp
              refine hK _ _ (.inl rfl) (tailO_nil ?_)
              clear hK K
              generalize hw8 : w7.setCell _ _ = w8
              have hV8 : Blk w8 w3.heap.size [.int .i64 (pr : Int), .int .i64 (sl : Int), .slice (some ⟨g, 0, none⟩) (q + 1) gc] := by rw [← hw8]; exact HV7.out.set 2 _
              have hI8 : OwnIns w5.heap.size w8 (.slice (some ⟨g, 0, none⟩) (q + 1) gc) (xs ++ [⟨20, 0, 0, 0, v⟩]) := by
                rw [← hw8]
                exact (OwnIns.snoc HX.out (by rw [HXL.out]; exact HY7L.out) (by rw [HXL.out]; exact HY7.out)).only ((Only.refl [w3.heap.size] w7).setCell (p := ⟨w3.heap.size, 2, none⟩) (by simp) _) (fun b hb => by have := List.mem_singleton.1 hb; omega)
              have hR8 := HR7.out.setCell (p := ⟨w3.heap.size, 2, none⟩) (by simp only []; omega) (.slice (some ⟨g, 0, none⟩) (q + 1) gc)
              have hO8 := HO7.out.setCellNew (p := ⟨w3.heap.size, 2, none⟩) (Nat.le_refl _) (.slice (some ⟨g, 0, none⟩) (q + 1) gc)
              have hz8 : w5.heap.size ≤ w8.heap.size := by rw [← hw8]; simpa using hsz7
              rw [hw8] at hR8 hO8
              have hM8 := hO8.blk HM3.out (by simp; omega)
              have hA8 := hO8.blk HA3.out (by simp; omega)
              have hF8 := HF3.out.keep (fun k h1 h2 => hO8.block k h2 (by simp; omega))
              obtain ⟨zs, hzo, hzx⟩ := hF8
              rw [HFL.out] at hzo
              have HZ8 := Lib.hid hzo; have HZX := Lib.hid hzx
              obtain ⟨d0, d1, d2⟩ := hV8.c3
              have m0 := hM8.cell1
              have HI8 := Lib.hid hI8; have HR8 := Lib.hid hR8; have HO8 := Lib.hid hO8; have HM8 := Lib.hid hM8; have HA8 := Lib.hid hA8
              have hfr : ∀ k, Value.ownBlock (.slice fa j fc) = some k → w1.heap.size ≤ k := fun k hk => (World.ownsRow.lt hzo k hk).1
              have HFR := Lib.hid hfr
              clear hw8 hV8 hI8 hR8 hO8 hM8 hA8 hzo hzx hfr HV7 HY7 HR7 HO7 HX HY7L vf c2
              go_wp2_with (at_builtin; refine wpList_append_own _ rfl _ _ 23 (by rfl) w1.heap.size 105 j0 _ 3 40 Tryd.underlying23 hj hw0 hw1 hw2 rfl (by decide) _ j zs (by rfl) (HZ8.out.alloc _) ⟨w8.heap.size, 0, none⟩ 1 1 [.int .i64 (pr : Int), .int .i64 (sl : Int), .slice (some ⟨g, 0, none⟩) (q + 1) gc] (by rfl) rfl (World.news_of_block (cs := #[.int .i64 (pr : Int), .int .i64 (sl : Int), .slice (some ⟨g, 0, none⟩) (q + 1) gc]) (t := 105) (fr := (0, 0)) (heap_alloc_new w8 _)) (by simp [Value.oneCell']) (by unfold maxLen; omega) (by omega) (by simp; omega) ?_; intro v9 w9 hown9 hg9 hn9; obtain ⟨a9, c9, rfl⟩ := rowForm hown9; have hM9 := (HM8.out.alloc (.cells #[.int .i64 (pr : Int), .int .i64 (sl : Int), .slice (some ⟨g, 0, none⟩) (q + 1) gc] 105)).grown hg9 (fun e => by have := HFR.out _ e; omega); have m9 := hM9.cell1; have mf9 := hM9.frozen 0; have HM9 := Lib.hid hM9; have HW9 := Lib.hid hown9; have HG9 := Lib.hid hg9; clear hM9 hown9 hg9 hn9 d0 d1 d2 m0)
              go_roundw
              case rel =>
                have hA9 := (HA8.out.alloc (.cells #[.int .i64 (pr : Int), .int .i64 (sl : Int), .slice (some ⟨g, 0, none⟩) (q + 1) gc] 105)).grown HG9.out (fun e => by have := HFR.out _ e; omega)
                have hF9 := OwnFns.snoc (fs := fs) (by rw [HFL.out]; exact HZ8.out.alloc _) (fun i f hi' => by
                  obtain ⟨h0, h1, iv, h2, hm⟩ := HZX.out i f hi'
                  exact ⟨h0, h1, iv, h2, hm.only ((Only.refl [] w8).alloc _) (by simp)⟩) ((HI8.out.mono (B' := w1.heap.size) (by omega)).only ((Only.refl [] w8).alloc _) (by simp)) HG9.out (by rw [HFL.out]; exact HW9.out)
                have hO9 := ((HO3.out.trans HO8.out).alloc (.cells #[.int .i64 (pr : Int), .int .i64 (sl : Int), .slice (some ⟨g, 0, none⟩) (q + 1) gc] 105)).grown HG9.out (fun k hk => by have := HFR.out k hk; omega)
                refine ⟨j + 1, a9, c9, fs ++ [⟨pr, sl, xs ++ [⟨20, 0, 0, 0, v⟩]⟩], by omega, by go_num, by simp [HFL.out], hA9.other (a := ⟨w.heap.size + 1, 0, none⟩) (by simp) _, HM9.out.set 0 _, hF9.only ((Only.refl [w.heap.size + 1] w9).setCell (p := ⟨w.heap.size + 1, 0, none⟩) (by simp) _) (fun b hb => by have := List.mem_singleton.1 hb; omega), HFB.out.snoc (by rw [HFL.out]; omega) (by simp) (by simp [HXL.out]; omega) (by omega), ?_, hO9.setCellNew (p := ⟨w.heap.size + 1, 0, none⟩) (by simp only []; omega) _, ?_⟩
                · exact (((HR8.out.alloc _).grown HG9.out (fun k hk => by have := HFR.out k hk; omega)).setCell (p := ⟨w.heap.size + 1, 0, none⟩) (by simp only []; omega) _).mono (by omega)
                · have := HG9.out.size; simp at this ⊢; omega
              case measure => simp [intOf]; omega
            · have ek : ((k : Int) == 0) = false := by simp; omega
              clear hk0
              go_wp2_with (fail)
              refine wp_region_chain (fun W => W.cell? ⟨w3.heap.size, 0, none⟩ = some (.int .i64 (pr : Int)) ∧ W.cell? ⟨w3.heap.size, 1, none⟩ = some (.int .i64 (sl : Int)) ∧ W.cell? ⟨w3.heap.size, 2, none⟩ = some (.slice ia q ic)) [(0, false), (1, true), (2, false)] [3, 4, 5, 6, 7, 8] 8 (by kernel_rfl) (by kernel_rfl) (fun d v c a w h => by cases d <;> exact h) ⟨c0, c1, c2⟩ ?_
              simp only [pickO, List.map_cons, List.map_nil, List.getD_cons_zero, List.getD_cons_succ]
              refine heldO_stepY (v := ?_) rfl ?_ ?_
              rotate_left
              · intro W
                go_simp
                try rfl
              simp only [Act.put, List.setIfInBounds_toArray, List.set_cons_zero, List.set_cons_succ]
              refine heldO_step (v := ?_) rfl ?_ ?_
              rotate_left
              · intro W hS
                obtain ⟨k0, k1, k2⟩ := hS
                go_simp
                try rfl
              simp only [Act.put, List.setIfInBounds_toArray, List.set_cons_zero, List.set_cons_succ]
              refine heldO_stepY (v := ?_) rfl ?_ ?_
              rotate_left
              · intro W
                go_simp
                try rfl
              simp only [Act.put, List.setIfInBounds_toArray, List.set_cons_zero, List.set_cons_succ]
              refine heldO_nil ?_
              refine tailO_step rfl (fun K hK => ?_)
              go_simp
              refine (pick _ r _ 8 HR.out.drew (by omega) (by omega)).mono ?_
              rintro e w6 ⟨v, rfl, _, _, hR6, hO6⟩
              have hO6' : Only [r] wk w6 := ((Only.refl [r] wk).drew).trans hO6
              have hV6 := hO6'.blk HV.out (by simp; omega)
              have hY6 := ownsRow_only HY.out hO6' (fun b hb => by have := List.mem_singleton.1 hb; omega)
              have hsz6 := hO6'.size
              have hrow : Value.ownBlock (.slice ia q ic) ≠ some w3.heap.size := fun e => by have := (World.ownsRow.lt HY.out _ e).1; omega
              have HV6 := Lib.hid hV6; have HY6 := Lib.hid hY6; have HR6 := Lib.hid hR6; have HO6 := Lib.hid (HO.out.trans hO6'); have HROW := Lib.hid hrow
              refine hK _ _ (.inr hV6.c3) ?_
              clear hK K c0 c1 c2 vf hV6 hY6 hR6 hO6 hO6' hrow HV HR HO HY
              refine tailO_step rfl (fun K hK => ?_)
              go_simp
              refine hK _ _ (.inr HV6.out.c3) ?_
              clear hK K
              refine tailO_step rfl (fun K hK => ?_)
              go_simp
              refine hK _ _ (.inr (HV6.out.alloc _).c3) ?_
              clear hK K
              refine tailO_step rfl (fun K hK => ?_)
              refine wp_append_lies _ (.tmp 61) (.tmp 65) 103 rfl w5.heap.size 124 i0 _ 5 40 Tryd.underlying103 hi hz0 hz1 hz2 rfl (by decide) _ q ys (by rfl) (HY6.out.alloc _) ⟨w6.heap.size, 0, none⟩ 1 1 [.int .i64 22, .int .i64 (v : Int), .int .i64 0, .int .i64 0, .int .i64 0] (by rfl) rfl (World.news_of_block (heap_alloc_new _ _)) (by simp [Value.oneCell']) (by decide) (by unfold maxLen; omega) (by omega) (by simp; omega) _ rfl ?_
              intro g gc w7 hown hgrow hat hgl
              have hV7 := (HV6.out.alloc _).grown hgrow HROW.out
              have hrn := fun k hk => (World.ownsRow.lt HY6.out k hk).1
              have HV7 := Lib.hid hV7; have HY7 := Lib.hid hown
              have HR7 := Lib.hid ((HR6.out.alloc _).grown hgrow (fun k hk => by have := hrn k hk; omega))
              have HO7 := Lib.hid ((HO6.out.alloc _).grown hgrow (fun k hk => by have := hrn k hk; omega))
              have hsz7 : w5.heap.size ≤ w7.heap.size := by have := hgrow.size; simp at this; omega
              have vf := hV7.frozen 2
              have c2 := hV7.c3.2.2
              refine hK _ _ (.inr hV7.c3) ?_
              clear hK K hown hgrow hat hgl hV7 hrn HV6 HY6 HR6 HO6 HROW
              simp only [Act.put, List.setIfInBounds_toArray, List.set_cons_zero, List.set_cons_succ]
              refine tailO_step rfl (fun K hK => ?_)
              go_simp
              refine hK _ _ (.inr HV7.out.c3) ?_
              clear hK K
              refine tailO_step rfl (fun K hK => ?_)
              go_simp
              refine hK _ _ (.inl rfl) (tailO_nil ?_)
              clear hK K
              generalize hw8 : w7.setCell _ _ = w8
              have hV8 : Blk w8 w3.heap.size [.int .i64 (pr : Int), .int .i64 (sl : Int), .slice (some ⟨g, 0, none⟩) (q + 1) gc] := by rw [← hw8]; exact HV7.out.set 2 _
              have hI8 : OwnIns w5.heap.size w8 (.slice (some ⟨g, 0, none⟩) (q + 1) gc) (xs ++ [⟨22, v, 0, 0, 0⟩]) := by
                rw [← hw8]
                exact (OwnIns.snoc HX.out (by rw [HXL.out]; exact HY7L.out) (by rw [HXL.out]; exact HY7.out)).only ((Only.refl [w3.heap.size] w7).setCell (p := ⟨w3.heap.size, 2, none⟩) (by simp) _) (fun b hb => by have := List.mem_singleton.1 hb; omega)
              have hR8 := HR7.out.setCell (p := ⟨w3.heap.size, 2, none⟩) (by simp only []; omega) (.slice (some ⟨g, 0, none⟩) (q + 1) gc)
              have hO8 := HO7.out.setCellNew (p := ⟨w3.heap.size, 2, none⟩) (Nat.le_refl _) (.slice (some ⟨g, 0, none⟩) (q + 1) gc)
              have hz8 : w5.heap.size ≤ w8.heap.size := by rw [← hw8]; simpa using hsz7
              rw [hw8] at hR8 hO8
              have hM8 := hO8.blk HM3.out (by simp; omega)
              have hA8 := hO8.blk HA3.out (by simp; omega)
              have hF8 := HF3.out.keep (fun k h1 h2 => hO8.block k h2 (by simp; omega))
              obtain ⟨zs, hzo, hzx⟩ := hF8
              rw [HFL.out] at hzo
              have HZ8 := Lib.hid hzo; have HZX := Lib.hid hzx
              obtain ⟨d0, d1, d2⟩ := hV8.c3
              have m0 := hM8.cell1
              have HI8 := Lib.hid hI8; have HR8 := Lib.hid hR8; have HO8 := Lib.hid hO8; have HM8 := Lib.hid hM8; have HA8 := Lib.hid hA8
              have hfr : ∀ k, Value.ownBlock (.slice fa j fc) = some k → w1.heap.size ≤ k := fun k hk => (World.ownsRow.lt hzo k hk).1
              have HFR := Lib.hid hfr
              clear hw8 hV8 hI8 hR8 hO8 hM8 hA8 hzo hzx hfr HV7 HY7 HR7 HO7 HX HY7L vf c2
              go_wp2_with (at_builtin; refine wpList_append_own _ rfl _ _ 23 (by rfl) w1.heap.size 105 j0 _ 3 40 Tryd.underlying23 hj hw0 hw1 hw2 rfl (by decide) _ j zs (by rfl) (HZ8.out.alloc _) ⟨w8.heap.size, 0, none⟩ 1 1 [.int .i64 (pr : Int), .int .i64 (sl : Int), .slice (some ⟨g, 0, none⟩) (q + 1) gc] (by rfl) rfl (World.news_of_block (cs := #[.int .i64 (pr : Int), .int .i64 (sl : Int), .slice (some ⟨g, 0, none⟩) (q + 1) gc]) (t := 105) (fr := (0, 0)) (heap_alloc_new w8 _)) (by simp [Value.oneCell']) (by unfold maxLen; omega) (by omega) (by simp; omega) ?_; intro v9 w9 hown9 hg9 hn9; obtain ⟨a9, c9, rfl⟩ := rowForm hown9; have hM9 := (HM8.out.alloc (.cells #[.int .i64 (pr : Int), .int .i64 (sl : Int), .slice (some ⟨g, 0, none⟩) (q + 1) gc] 105)).grown hg9 (fun e => by have := HFR.out _ e; omega); have m9 := hM9.cell1; have mf9 := hM9.frozen 0; have HM9 := Lib.hid hM9; have HW9 := Lib.hid hown9; have HG9 := Lib.hid hg9; clear hM9 hown9 hg9 hn9 d0 d1 d2 m0)
              go_roundw
              case rel =>
                have hA9 := (HA8.out.alloc (.cells #[.int .i64 (pr : Int), .int .i64 (sl : Int), .slice (some ⟨g, 0, none⟩) (q + 1) gc] 105)).grown HG9.out (fun e => by have := HFR.out _ e; omega)
                have hF9 := OwnFns.snoc (fs := fs) (by rw [HFL.out]; exact HZ8.out.alloc _) (fun i f hi' => by
                  obtain ⟨h0, h1, iv, h2, hm⟩ := HZX.out i f hi'
                  exact ⟨h0, h1, iv, h2, hm.only ((Only.refl [] w8).alloc _) (by simp)⟩) ((HI8.out.mono (B' := w1.heap.size) (by omega)).only ((Only.refl [] w8).alloc _) (by simp)) HG9.out (by rw [HFL.out]; exact HW9.out)
                have hO9 := ((HO3.out.trans HO8.out).alloc (.cells #[.int .i64 (pr : Int), .int .i64 (sl : Int), .slice (some ⟨g, 0, none⟩) (q + 1) gc] 105)).grown HG9.out (fun k hk => by have := HFR.out k hk; omega)
                refine ⟨j + 1, a9, c9, fs ++ [⟨pr, sl, xs ++ [⟨22, v, 0, 0, 0⟩]⟩], by omega, by go_num, by simp [HFL.out], hA9.other (a := ⟨w.heap.size + 1, 0, none⟩) (by simp) _, HM9.out.set 0 _, hF9.only ((Only.refl [w.heap.size + 1] w9).setCell (p := ⟨w.heap.size + 1, 0, none⟩) (by simp) _) (fun b hb => by have := List.mem_singleton.1 hb; omega), HFB.out.snoc (by rw [HFL.out]; omega) (by simp) (by simp [HXL.out]; omega) (by omega), ?_, hO9.setCellNew (p := ⟨w.heap.size + 1, 0, none⟩) (by simp only []; omega) _, ?_⟩
                · exact (((HR8.out.alloc _).grown HG9.out (fun k hk => by have := HFR.out k hk; omega)).setCell (p := ⟨w.heap.size + 1, 0, none⟩) (by simp only []; omega) _).mono (by omega)
                · have := HG9.out.size; simp at this ⊢; omega
              case measure => simp [intOf]; omega
          · have eL : decide ((1 : Int) < (L : Int)) = false := by simp; omega
            clear hL
            go_wp2_with (fail)
            refine wp_region_chain (fun W => W.cell? ⟨w3.heap.size, 0, none⟩ = some (.int .i64 (pr : Int)) ∧ W.cell? ⟨w3.heap.size, 1, none⟩ = some (.int .i64 (sl : Int)) ∧ W.cell? ⟨w3.heap.size, 2, none⟩ = some (.slice ia q ic)) [(0, false), (1, true), (2, false)] [3, 4, 5, 6, 7, 8] 8 (by kernel_rfl) (by kernel_rfl) (fun d v c a w h => by cases d <;> exact h) ⟨c0, c1, c2⟩ ?_
            simp only [pickO, List.map_cons, List.map_nil, List.getD_cons_zero, List.getD_cons_succ]
            refine heldO_stepY (v := ?_) rfl ?_ ?_
            rotate_left
            · intro W
              go_simp
              try rfl
            simp only [Act.put, List.setIfInBounds_toArray, List.set_cons_zero, List.set_cons_succ]
            refine heldO_step (v := ?_) rfl ?_ ?_
            rotate_left
            · intro W hS
              obtain ⟨k0, k1, k2⟩ := hS
              go_simp
              try rfl
            simp only [Act.put, List.setIfInBounds_toArray, List.set_cons_zero, List.set_cons_succ]
            refine heldO_stepY (v := ?_) rfl ?_ ?_
            rotate_left
            · intro W
              go_simp
              try rfl
            simp only [Act.put, List.setIfInBounds_toArray, List.set_cons_zero, List.set_cons_succ]
            refine heldO_nil ?_
            refine tailO_step rfl (fun K hK => ?_)
            go_simp
            refine (pick _ r _ 8 HR.out.drew (by omega) (by omega)).mono ?_
            rintro e w6 ⟨v, rfl, _, _, hR6, hO6⟩
            have hO6' : Only [r] wi w6 := ((Only.refl [r] wi).drew).trans hO6
            have hV6 := hO6'.blk HV.out (by simp; omega)
            have hY6 := ownsRow_only HY.out hO6' (fun b hb => by have := List.mem_singleton.1 hb; omega)
            have hsz6 := hO6'.size
            have hrow : Value.ownBlock (.slice ia q ic) ≠ some w3.heap.size := fun e => by have := (World.ownsRow.lt HY.out _ e).1; omega
            have HV6 := Lib.hid hV6; have HY6 := Lib.hid hY6; have HR6 := Lib.hid hR6; have HO6 := Lib.hid (HO.out.trans hO6'); have HROW := Lib.hid hrow
            refine hK _ _ (.inr hV6.c3) ?_
            clear hK K c0 c1 c2 vf hV6 hY6 hR6 hO6 hO6' hrow HV HR HO HY
            refine tailO_step rfl (fun K hK => ?_)
            go_simp
            refine hK _ _ (.inr HV6.out.c3) ?_
            clear hK K
            refine tailO_step rfl (fun K hK => ?_)
            go_simp
            refine hK _ _ (.inr (HV6.out.alloc _).c3) ?_
            clear hK K
            refine tailO_step rfl (fun K hK => ?_)
            refine wp_append_lies _ (.tmp 61) (.tmp 65) 103 rfl w5.heap.size 124 i0 _ 5 40 Tryd.underlying103 hi hz0 hz1 hz2 rfl (by decide) _ q ys (by rfl) (HY6.out.alloc _) ⟨w6.heap.size, 0, none⟩ 1 1 [.int .i64 22, .int .i64 (v : Int), .int .i64 0, .int .i64 0, .int .i64 0] (by rfl) rfl (World.news_of_block (heap_alloc_new _ _)) (by simp [Value.oneCell']) (by decide) (by unfold maxLen; omega) (by omega) (by simp; omega) _ rfl ?_
            intro g gc w7 hown hgrow hat hgl
            have hV7 := (HV6.out.alloc _).grown hgrow HROW.out
            have hrn := fun k hk => (World.ownsRow.lt HY6.out k hk).1
            have HV7 := Lib.hid hV7; have HY7 := Lib.hid hown
            have HR7 := Lib.hid ((HR6.out.alloc _).grown hgrow (fun k hk => by have := hrn k hk; omega))
            have HO7 := Lib.hid ((HO6.out.alloc _).grown hgrow (fun k hk => by have := hrn k hk; omega))
            have hsz7 : w5.heap.size ≤ w7.heap.size := by have := hgrow.size; simp at this; omega
            have vf := hV7.frozen 2
            have c2 := hV7.c3.2.2
            refine hK _ _ (.inr hV7.c3) ?_
            clear hK K hown hgrow hat hgl hV7 hrn HV6 HY6 HR6 HO6 HROW
            simp only [Act.put, List.setIfInBounds_toArray, List.set_cons_zero, List.set_cons_succ]
            refine tailO_step rfl (fun K hK => ?_)
            go_simp
            refine hK _ _ (.inr HV7.out.c3) ?_
            clear hK K
            refine tailO_step rfl (fun K hK => ?_)
            go_simp
            refine hK _ _ (.inl rfl) (tailO_nil ?_)
            clear hK K
            generalize hw8 : w7.setCell _ _ = w8
            have hV8 : Blk w8 w3.heap.size [.int .i64 (pr : Int), .int .i64 (sl : Int), .slice (some ⟨g, 0, none⟩) (q + 1) gc] := by rw [← hw8]; exact HV7.out.set 2 _
            have hI8 : OwnIns w5.heap.size w8 (.slice (some ⟨g, 0, none⟩) (q + 1) gc) (xs ++ [⟨22, v, 0, 0, 0⟩]) := by
              rw [← hw8]
              exact (OwnIns.snoc HX.out (by rw [HXL.out]; exact HY7L.out) (by rw [HXL.out]; exact HY7.out)).only ((Only.refl [w3.heap.size] w7).setCell (p := ⟨w3.heap.size, 2, none⟩) (by simp) _) (fun b hb => by have := List.mem_singleton.1 hb; omega)
            have hR8 := HR7.out.setCell (p := ⟨w3.heap.size, 2, none⟩) (by simp only []; omega) (.slice (some ⟨g, 0, none⟩) (q + 1) gc)
            have hO8 := HO7.out.setCellNew (p := ⟨w3.heap.size, 2, none⟩) (Nat.le_refl _) (.slice (some ⟨g, 0, none⟩) (q + 1) gc)
            have hz8 : w5.heap.size ≤ w8.heap.size := by rw [← hw8]; simpa using hsz7
            rw [hw8] at hR8 hO8
            have hM8 := hO8.blk HM3.out (by simp; omega)
            have hA8 := hO8.blk HA3.out (by simp; omega)
            have hF8 := HF3.out.keep (fun k h1 h2 => hO8.block k h2 (by simp; omega))
            obtain ⟨zs, hzo, hzx⟩ := hF8
            rw [HFL.out] at hzo
            have HZ8 := Lib.hid hzo; have HZX := Lib.hid hzx
            obtain ⟨d0, d1, d2⟩ := hV8.c3
            have m0 := hM8.cell1
            have HI8 := Lib.hid hI8; have HR8 := Lib.hid hR8; have HO8 := Lib.hid hO8; have HM8 := Lib.hid hM8; have HA8 := Lib.hid hA8
            have hfr : ∀ k, Value.ownBlock (.slice fa j fc) = some k → w1.heap.size ≤ k := fun k hk => (World.ownsRow.lt hzo k hk).1
            have HFR := Lib.hid hfr
            clear hw8 hV8 hI8 hR8 hO8 hM8 hA8 hzo hzx hfr HV7 HY7 HR7 HO7 HX HY7L vf c2
            go_wp2_with (at_builtin; refine wpList_append_own _ rfl _ _ 23 (by rfl) w1.heap.size 105 j0 _ 3 40 Tryd.underlying23 hj hw0 hw1 hw2 rfl (by decide) _ j zs (by rfl) (HZ8.out.alloc _) ⟨w8.heap.size, 0, none⟩ 1 1 [.int .i64 (pr : Int), .int .i64 (sl : Int), .slice (some ⟨g, 0, none⟩) (q + 1) gc] (by rfl) rfl (World.news_of_block (cs := #[.int .i64 (pr : Int), .int .i64 (sl : Int), .slice (some ⟨g, 0, none⟩) (q + 1) gc]) (t := 105) (fr := (0, 0)) (heap_alloc_new w8 _)) (by simp [Value.oneCell']) (by unfold maxLen; omega) (by omega) (by simp; omega) ?_; intro v9 w9 hown9 hg9 hn9; obtain ⟨a9, c9, rfl⟩ := rowForm hown9; have hM9 := (HM8.out.alloc (.cells #[.int .i64 (pr : Int), .int .i64 (sl : Int), .slice (some ⟨g, 0, none⟩) (q + 1) gc] 105)).grown hg9 (fun e => by have := HFR.out _ e; omega); have m9 := hM9.cell1; have mf9 := hM9.frozen 0; have HM9 := Lib.hid hM9; have HW9 := Lib.hid hown9; have HG9 := Lib.hid hg9; clear hM9 hown9 hg9 hn9 d0 d1 d2 m0)
            go_roundw
            case rel =>
              have hA9 := (HA8.out.alloc (.cells #[.int .i64 (pr : Int), .int .i64 (sl : Int), .slice (some ⟨g, 0, none⟩) (q + 1) gc] 105)).grown HG9.out (fun e => by have := HFR.out _ e; omega)
              have hF9 := OwnFns.snoc (fs := fs) (by rw [HFL.out]; exact HZ8.out.alloc _) (fun i f hi' => by
                obtain ⟨h0, h1, iv, h2, hm⟩ := HZX.out i f hi'
                exact ⟨h0, h1, iv, h2, hm.only ((Only.refl [] w8).alloc _) (by simp)⟩) ((HI8.out.mono (B' := w1.heap.size) (by omega)).only ((Only.refl [] w8).alloc _) (by simp)) HG9.out (by rw [HFL.out]; exact HW9.out)
              have hO9 := ((HO3.out.trans HO8.out).alloc (.cells #[.int .i64 (pr : Int), .int .i64 (sl : Int), .slice (some ⟨g, 0, none⟩) (q + 1) gc] 105)).grown HG9.out (fun k hk => by have := HFR.out k hk; omega)
              refine ⟨j + 1, a9, c9, fs ++ [⟨pr, sl, xs ++ [⟨22, v, 0, 0, 0⟩]⟩], by omega, by go_num, by simp [HFL.out], hA9.other (a := ⟨w.heap.size + 1, 0, none⟩) (by simp) _, HM9.out.set 0 _, hF9.only ((Only.refl [w.heap.size + 1] w9).setCell (p := ⟨w.heap.size + 1, 0, none⟩) (by simp) _) (fun b hb => by have := List.mem_singleton.1 hb; omega), HFB.out.snoc (by rw [HFL.out]; omega) (by simp) (by simp [HXL.out]; omega) (by omega), ?_, hO9.setCellNew (p := ⟨w.heap.size + 1, 0, none⟩) (by simp only []; omega) _, ?_⟩
              · exact (((HR8.out.alloc _).grown HG9.out (fun k hk => by have := HFR.out k hk; omega)).setCell (p := ⟨w.heap.size + 1, 0, none⟩) (by simp only []; omega) _).mono (by omega)
              · have := HG9.out.size; simp at this ⊢; omega
            case measure => simp [intOf]; omega
    · obtain rfl : j = F := by omega
      have a0 := HA.out.cell1
      have af := HA.out.frozen 0
      have m0 := HM.out.cell1
      go_wp2_with (fail)
      refine bodyPost_ret (v := .agg #[.slice fa j fc]) (by simp [results, Tryd.results85, go_sem, a0]) rfl ?_
      exact ⟨_, fs, rfl, (HF.out.only ((Only.refl [w.heap.size] wo).setCell (p := ⟨w.heap.size, 0, none⟩) (by simp) _) (fun b hb => by have := List.mem_singleton.1 hb; omega)).mono (by omega), HFB.out, by rw [HFL.out]; omega, (HR.out.setCell (p := ⟨w.heap.size, 0, none⟩) (by simp only []; omega) _).mono (by omega), HO.out.setCellNew (p := ⟨w.heap.size, 0, none⟩) (Nat.le_refl _) _⟩

end Go.Proofs.YtbdbmmdnidonjaaDoor

set_option maxRecDepth 100000
namespace Go.Proofs.YtbdbmmdnidonjaaDoor
open Go.RowKit

def AllInt (ys : List Value) : Prop := ∀ (j : Nat) (y : Value), ys[j]? = some y → ∃ z, y = Value.int .i64 z
/-- a row of instructions, whatever they are -/
def GIns (B : Nat) (w : World) (ia : Option Addr) (il ic : Nat) : Prop := ∃ zs, w.ownsRow B 124 5 (.slice ia il ic) il zs ∧ AllInt zs
def GFn (B : Nat) (w : World) (ys : List Value) (i : Nat) : Prop :=
  ∃ (p s : Int) (ia : Option Addr) (il ic : Nat), ys[i * 3]? = some (.int .i64 p) ∧ ys[i * 3 + 1]? = some (.int .i64 s) ∧ ys[i * 3 + 2]? = some (.slice ia il ic) ∧ GIns B w ia il ic ∧ il ≤ 20 ∧ p ≤ 4
def GFns (B : Nat) (w : World) (fv : Value) (n : Nat) : Prop := ∃ ys, w.ownsRow B 105 3 fv n ys ∧ ∀ i, i < n → GFn B w ys i

theorem AllInt.get {ys : List Value} (h : AllInt ys) {j : Nat} (hj : j < ys.length) : ∃ z, ys[j]? = some (.int .i64 z) := by
  obtain ⟨z, hz⟩ := h j ys[j] (List.getElem?_eq_getElem hj)
  exact ⟨z, by rw [List.getElem?_eq_getElem hj, hz]⟩
theorem AllInt.set {ys : List Value} (h : AllInt ys) (j : Nat) (z : Int) : AllInt (ys.set j (.int .i64 z)) := fun i y hi => by
  by_cases hij : j = i
  · subst hij
    by_cases hl : j < ys.length
    · rw [List.getElem?_set_self hl] at hi
      exact ⟨z, (Option.some.inj hi).symm⟩
    · rw [List.getElem?_eq_none (by simp; omega)] at hi; cases hi
  · rw [List.getElem?_set_ne hij] at hi
    exact h i y hi
theorem AllInt.take {ys : List Value} (h : AllInt ys) (n : Nat) : AllInt (ys.take n) := fun i y hi => by
  rw [List.getElem?_take] at hi
  split at hi
  · exact h i y hi
  · cases hi

theorem mis_of {n : Nat} {ys : List Value} (h : AllInt ys) (hl : ys.length = n * 5) : ∃ xs : List Mi, xs.length = n ∧ ∀ i x, xs[i]? = some x → MiIn ys i x := by
  refine Lv.list_of (P := fun i x => MiIn ys i x) n fun i hi => ?_
  obtain ⟨z0, h0⟩ := h.get (j := i * 5) (by omega)
  obtain ⟨z1, h1⟩ := h.get (j := i * 5 + 1) (by omega)
  obtain ⟨z2, h2⟩ := h.get (j := i * 5 + 2) (by omega)
  obtain ⟨z3, h3⟩ := h.get (j := i * 5 + 3) (by omega)
  obtain ⟨z4, h4⟩ := h.get (j := i * 5 + 4) (by omega)
  exact ⟨⟨z0, z1, z2, z3, z4⟩, h0, h1, h2, h3, h4⟩
theorem GIns.own {B : Nat} {w : World} {ia : Option Addr} {il ic : Nat} (h : GIns B w ia il ic) : ∃ xs, xs.length = il ∧ OwnIns B w (.slice ia il ic) xs := by
  obtain ⟨zs, ho, ha⟩ := h
  obtain ⟨xs, hl, hx⟩ := mis_of ha ho.1
  exact ⟨xs, hl, zs, by rw [hl]; exact ho, hx⟩
theorem OwnIns.ints {B : Nat} {w : World} {ia : Option Addr} {il ic : Nat} {xs : List Mi} (h : OwnIns B w (.slice ia il ic) xs) (hl : xs.length = il) : GIns B w ia il ic := by
  obtain ⟨ys, ho, hx⟩ := h
  rw [hl] at ho
  refine ⟨ys, ho, fun j y hj => ?_⟩
  have hjl : j < il * 5 := by have := idx_lt hj; have := ho.1; omega
  have hi := hx (j / 5) (xs[j / 5]'(by omega)) (List.getElem?_eq_getElem _)
  obtain ⟨h0, h1, h2, h3, h4⟩ := hi
  have hm : j % 5 = 0 ∨ j % 5 = 1 ∨ j % 5 = 2 ∨ j % 5 = 3 ∨ j % 5 = 4 := by omega
  rcases hm with e | e | e | e | e
  · rw [show j = j / 5 * 5 by omega, h0] at hj; exact ⟨_, (Option.some.inj hj).symm⟩
  · rw [show j = j / 5 * 5 + 1 by omega, h1] at hj; exact ⟨_, (Option.some.inj hj).symm⟩
  · rw [show j = j / 5 * 5 + 2 by omega, h2] at hj; exact ⟨_, (Option.some.inj hj).symm⟩
  · rw [show j = j / 5 * 5 + 3 by omega, h3] at hj; exact ⟨_, (Option.some.inj hj).symm⟩
  · rw [show j = j / 5 * 5 + 4 by omega, h4] at hj; exact ⟨_, (Option.some.inj hj).symm⟩

theorem OwnFns.gen {B : Nat} {w : World} {fv : Value} {fs : List Mf} (h : OwnFns B w fv fs) (hB : FnsB fs) : GFns B w fv fs.length := by
  obtain ⟨ys, ho, hx⟩ := h
  refine ⟨ys, ho, fun i hi => ?_⟩
  obtain ⟨h0, h1, iv, h2, hm⟩ := hx i fs[i] (List.getElem?_eq_getElem hi)
  have hb := hB.2 fs[i] (List.getElem_mem hi)
  obtain ⟨a, c, rfl⟩ := hm.form
  exact ⟨_, _, a, _, c, h0, h1, h2, hm.ints rfl, hb.2.1, by omega⟩

/-- what a bent program reads as -/
theorem GFns.at {B : Nat} {w : World} {fv : Value} {n : Nat} (h : GFns B w fv n) : ∃ fs, MfsAt w fv fs ∧ fs.length = n ∧ ∀ f ∈ fs, f.ins.length ≤ 20 ∧ f.params ≤ 4 := by
  obtain ⟨ys, ho, hx⟩ := h
  obtain ⟨fs, hl, hf⟩ := Lv.list_of (P := fun i (f : Mf) => MfIns B w ys i f ∧ f.ins.length ≤ 20 ∧ f.params ≤ 4) n fun i hi => by
    obtain ⟨p, s, ia, il, ic, h0, h1, h2, hg, h20, h4⟩ := hx i hi
    obtain ⟨xs, hxl, hxo⟩ := hg.own
    exact ⟨⟨p, s, xs⟩, ⟨h0, h1, _, h2, hxo⟩, by rw [hxl]; exact h20, h4⟩
  refine ⟨fs, OwnFns.at ⟨ys, by rw [hl]; exact ho, fun i f hi => (hf i f hi).1⟩, hl, fun f hm => ?_⟩
  obtain ⟨i, hi⟩ := List.getElem?_of_mem hm
  exact (hf i f hi).2

theorem GIns.only {B : Nat} {w w' : World} {ia : Option Addr} {il ic : Nat} (h : GIns B w ia il ic) {bs : List Nat} (ho : Only bs w w') (hb : ∀ b ∈ bs, b < B) : GIns B w' ia il ic := by
  obtain ⟨zs, h1, h2⟩ := h
  exact ⟨zs, ownsRow_only h1 ho hb, h2⟩
theorem GFns.only {B : Nat} {w w' : World} {fv : Value} {n : Nat} (h : GFns B w fv n) {bs : List Nat} (ho : Only bs w w') (hb : ∀ b ∈ bs, b < B) : GFns B w' fv n := by
  obtain ⟨ys, h1, h2⟩ := h
  refine ⟨ys, ownsRow_only h1 ho hb, fun i hi => ?_⟩
  obtain ⟨p, s, ia, il, ic, c0, c1, c2, hg, r⟩ := h2 i hi
  exact ⟨p, s, ia, il, ic, c0, c1, c2, hg.only ho hb, r⟩
theorem GFns.mono {B B' : Nat} {w : World} {fv : Value} {n : Nat} (h : GFns B w fv n) (hB : B' ≤ B) : GFns B' w fv n := by
  obtain ⟨ys, h1, h2⟩ := h
  refine ⟨ys, ownsRow_mono h1 hB, fun i hi => ?_⟩
  obtain ⟨p, s, ia, il, ic, c0, c1, c2, ⟨zs, k1, k2⟩, r⟩ := h2 i hi
  exact ⟨p, s, ia, il, ic, c0, c1, c2, ⟨zs, ownsRow_mono k1 hB, k2⟩, r⟩

/-- a number is stored into a row of instructions -/
theorem GIns.setIns {B B' : Nat} {w : World} {ia : Option Addr} {il ic : Nat} (h : GIns B w ia il ic) {g n c : Nat} {ys : List Value} (hg : w.ownsRow B' 124 5 (.slice (some ⟨g, 0, none⟩) n c) n ys) (j : Nat) (z : Int) : GIns B (w.setCell ⟨g, j, none⟩ (.int .i64 z)) ia il ic := by
  obtain ⟨zs, h1, h2⟩ := h
  by_cases hb : Value.ownBlock (.slice ia il ic) = some g
  · obtain ⟨a, c', hform⟩ : ∃ a c, Value.slice ia il ic = .slice (some ⟨a, 0, none⟩) il c := by
      rcases h1.2 with ⟨h', _⟩ | ⟨g', cap', cur', h', _⟩
      · rw [h'] at hb; cases hb
      · exact ⟨g', cap', h'⟩
    have hag : a = g := by rw [hform] at hb; simpa [Value.ownBlock] using hb
    subst hag
    rw [hform] at h1
    have hst := (h1.stored j (.int .i64 z)).1
    rw [← hform] at hst
    exact ⟨_, hst, h2.set j z⟩
  · exact ⟨zs, ownsRow_same h1 (fun k hk => Below.heap_setCell _ _ _ _ (by rintro rfl; exact hb hk)), h2⟩
theorem GFns.setIns {B B' : Nat} {w : World} {fv : Value} {n : Nat} (h : GFns B w fv n) {g m c : Nat} {ys : List Value} (hg : w.ownsRow B' 124 5 (.slice (some ⟨g, 0, none⟩) m c) m ys) (j : Nat) (z : Int) : GFns B (w.setCell ⟨g, j, none⟩ (.int .i64 z)) fv n := by
  obtain ⟨zs, h1, h2⟩ := h
  have hne := ins_ne hg h1
  refine ⟨zs, ownsRow_same h1 (fun k hk => Below.heap_setCell _ _ _ _ ?_), fun i hi => ?_⟩
  · rintro rfl
    rcases hne with hne | hne
    · cases hne
    · exact hne hk.symm
  · obtain ⟨p, s, ia, il, ic, c0, c1, c2, hm, r⟩ := h2 i hi
    exact ⟨p, s, ia, il, ic, c0, c1, c2, hm.setIns hg j z, r⟩

/-- a cell of a function is stored -/
theorem GFns.setFn {B : Nat} {w : World} {g n c : Nat} (h : GFns B w (.slice (some ⟨g, 0, none⟩) n c) n) (k j : Nat) (hk : k < n) (hj : j < 3) (u : Value)
    (hu : ∀ ys, GFn B w ys k → (ys.length = n * 3) → GFn B w (ys.set (k * 3 + j) u) k) : GFns B (w.setCell ⟨g, k * 3 + j, none⟩ u) (.slice (some ⟨g, 0, none⟩) n c) n := by
  obtain ⟨ys, h1, h2⟩ := h
  have hins : ∀ ia il ic, GIns B w ia il ic → GIns B (w.setCell ⟨g, k * 3 + j, none⟩ u) ia il ic := fun ia il ic ⟨zs, k1, k2⟩ => by
    refine ⟨zs, ownsRow_same k1 (fun q hq => Below.heap_setCell _ _ _ _ ?_), k2⟩
    rintro rfl
    rcases ins_ne k1 h1 with hne | hne
    · rw [hq] at hne; cases hne
    · exact hne hq
  refine ⟨_, (h1.stored (k * 3 + j) u).1, fun i hi => ?_⟩
  by_cases hik : i = k
  · subst hik
    obtain ⟨p, s, ia, il, ic, c0, c1, c2, hm, r⟩ := hu ys (h2 i hi) h1.1
    exact ⟨p, s, ia, il, ic, c0, c1, c2, hins _ _ _ hm, r⟩
  · obtain ⟨p, s, ia, il, ic, c0, c1, c2, hm, r⟩ := h2 i hi
    refine ⟨p, s, ia, il, ic, ?_, ?_, ?_, hins _ _ _ hm, r⟩
    · rw [List.getElem?_set_ne (by omega)]; exact c0
    · rw [List.getElem?_set_ne (by omega)]; exact c1
    · rw [List.getElem?_set_ne (by omega)]; exact c2
theorem GFns.setParams {B : Nat} {w : World} {g n c : Nat} (h : GFns B w (.slice (some ⟨g, 0, none⟩) n c) n) (k : Nat) (hk : k < n) (z : Int) (hz : z ≤ 4) : GFns B (w.setCell ⟨g, k * 3, none⟩ (.int .i64 z)) (.slice (some ⟨g, 0, none⟩) n c) n := by
  have := h.setFn k 0 hk (by omega) (.int .i64 z) (fun ys ⟨p, s, ia, il, ic, c0, c1, c2, hm, h20, _⟩ hl => ⟨z, s, ia, il, ic, by rw [Nat.add_zero, List.getElem?_set_self (by omega)], by rw [List.getElem?_set_ne (by omega)]; exact c1, by rw [List.getElem?_set_ne (by omega)]; exact c2, hm, h20, hz⟩)
  simpa using this
theorem GFns.setSlots {B : Nat} {w : World} {g n c : Nat} (h : GFns B w (.slice (some ⟨g, 0, none⟩) n c) n) (k : Nat) (hk : k < n) (z : Int) : GFns B (w.setCell ⟨g, k * 3 + 1, none⟩ (.int .i64 z)) (.slice (some ⟨g, 0, none⟩) n c) n :=
  h.setFn k 1 hk (by omega) (.int .i64 z) (fun ys ⟨p, s, ia, il, ic, c0, c1, c2, hm, r⟩ hl => ⟨p, z, ia, il, ic, by rw [List.getElem?_set_ne (by omega)]; exact c0, by rw [List.getElem?_set_self (by omega)], by rw [List.getElem?_set_ne (by omega)]; exact c2, hm, r⟩)
theorem GIns.cut {B : Nat} {w : World} {g il ic m : Nat} (h : GIns B w (some ⟨g, 0, none⟩) il ic) (hm : m ≤ il) : GIns B w (some ⟨g, 0, none⟩) m ic := by
  obtain ⟨zs, ⟨h1, h2⟩, h3⟩ := h
  refine ⟨zs.take (m * 5), ⟨by simp; omega, ?_⟩, h3.take _⟩
  rcases h2 with ⟨h', _⟩ | ⟨g', cap', cur', hv, hb, hg, hc, hx, hs, ht⟩
  · simp at h'
  · simp only [Value.slice.injEq, Option.some.injEq, Addr.mk.injEq, and_true, true_and] at hv
    obtain ⟨rfl, rfl⟩ := hv
    refine .inr ⟨g, ic, cur', rfl, hb, hg, by omega, hx, hs, ?_⟩
    rw [← ht, List.take_take]
    congr 1; omega
theorem GFns.setCut {B : Nat} {w : World} {g n c gi m ic il : Nat} (h : GFns B w (.slice (some ⟨g, 0, none⟩) n c) n) (k : Nat) (hk : k < n) (hi : GIns B w (some ⟨gi, 0, none⟩) il ic) (hm : m ≤ il) (h20 : il ≤ 20) : GFns B (w.setCell ⟨g, k * 3 + 2, none⟩ (.slice (some ⟨gi, 0, none⟩) m ic)) (.slice (some ⟨g, 0, none⟩) n c) n :=
  h.setFn k 2 hk (by omega) _ (fun ys ⟨p, s, ia, il', ic', c0, c1, c2, _, _, h4⟩ hl => ⟨p, s, _, m, ic, by rw [List.getElem?_set_ne (by omega)]; exact c0, by rw [List.getElem?_set_ne (by omega)]; exact c1, by rw [List.getElem?_set_self (by omega)], hi.cut hm, by omega, h4⟩)

/-- the cells of function k -/
theorem GFns.cells {B : Nat} {w : World} {g n c : Nat} (h : GFns B w (.slice (some ⟨g, 0, none⟩) n c) n) (k : Nat) (hk : k < n) :
    ∃ (p s : Int) (ia : Option Addr) (il ic : Nat), w.cell? ⟨g, k * 3, none⟩ = some (.int .i64 p) ∧ w.cell? ⟨g, k * 3 + 1, none⟩ = some (.int .i64 s) ∧ w.cell? ⟨g, k * 3 + 2, none⟩ = some (.slice ia il ic) ∧ (∀ j, w.frozen? ⟨g, j, none⟩ = false) ∧ GIns B w ia il ic ∧ il ≤ 20 ∧ p ≤ 4 := by
  obtain ⟨ys, h1, h2⟩ := h
  obtain ⟨p, s, ia, il, ic, c0, c1, c2, r⟩ := h2 k hk
  exact ⟨p, s, ia, il, ic, by rw [h1.cellAt _ (by omega)]; exact c0, by rw [h1.cellAt _ (by omega)]; exact c1, by rw [h1.cellAt _ (by omega)]; exact c2, fun j => h1.frozenAt j, r⟩
theorem GIns.cells {B : Nat} {w : World} {g il ic : Nat} (h : GIns B w (some ⟨g, 0, none⟩) il ic) (j : Nat) (hj : j < il * 5) : (∃ z, w.cell? ⟨g, j, none⟩ = some (.int .i64 z)) ∧ w.frozen? ⟨g, j, none⟩ = false := by
  obtain ⟨zs, h1, h2⟩ := h
  obtain ⟨z, hz⟩ := h2.get (j := j) (by have := h1.1; omega)
  exact ⟨⟨z, by rw [h1.cellAt _ hj]; exact hz⟩, h1.frozenAt j⟩

end Go.Proofs.YtbdbmmdnidonjaaDoor

set_option maxRecDepth 100000
namespace Go.Proofs.YtbdbmmdnidonjaaDoor
open Go.RowKit

theorem numsSlots : ∀ x ∈ (#[Value.int .i64 65, .int .i64 (-1), .int .i64 0, .int .i64 64] : Array Value).toList, IntIn (-1) 65 x := by
  simp only [List.mem_cons, List.not_mem_nil, or_false, forall_eq_or_imp, forall_eq]
  exact ⟨⟨_, rfl, by decide, by decide⟩, ⟨_, rfl, by decide, by decide⟩, ⟨_, rfl, by decide, by decide⟩, ⟨_, rfl, by decide, by decide⟩⟩
theorem numsParams : ∀ x ∈ (#[Value.int .i64 4, .int .i64 (-1), .int .i64 0] : Array Value).toList, IntIn (-1) 4 x := by
  simp only [List.mem_cons, List.not_mem_nil, or_false, forall_eq_or_imp, forall_eq]
  exact ⟨⟨_, rfl, by decide, by decide⟩, ⟨_, rfl, by decide, by decide⟩, ⟨_, rfl, by decide, by decide⟩⟩

theorem numsBad (k : Nat) (hk : k ≤ 20) : ∀ x ∈ (#[Value.int .i64 (-1), .int .i64 8, .int .i64 64, .int .i64 300, .int .i64 k, .int .i64 1] : Array Value).toList, IntIn (-1) 300 x := by
  simp only [List.mem_cons, List.not_mem_nil, or_false, forall_eq_or_imp, forall_eq]
  refine ⟨⟨_, rfl, ?_⟩, ⟨_, rfl, ?_⟩, ⟨_, rfl, ?_⟩, ⟨_, rfl, ?_⟩, ⟨_, rfl, ?_⟩, ⟨_, rfl, ?_⟩⟩ <;> omega

def BentPost (r N : Nat) (w : World) (e : Ending) (w' : World) : Prop :=
  ∃ g n c, e = .returned (.agg #[.slice (some ⟨g, 0, none⟩) n c]) ∧ GFns w.heap.size w' (.slice (some ⟨g, 0, none⟩) n c) n ∧ 1 ≤ n ∧ n ≤ 3 ∧ Rd w' r N ∧ Only [r] w w'

theorem OwnFns.fnAt {B : Nat} {w : World} {g c : Nat} {fs : List Mf} (h : OwnFns B w (.slice (some ⟨g, 0, none⟩) fs.length c) fs) (hB : FnsB fs) (k : Nat) (hk : k < fs.length) :
    ∃ gi il ic, w.cell? ⟨g, k * 3 + 2, none⟩ = some (.slice (some ⟨gi, 0, none⟩) il ic) ∧ GIns B w (some ⟨gi, 0, none⟩) il ic ∧ 1 ≤ il ∧ il ≤ 20 ∧ il ≤ ic ∧ ic ≤ 9223372036854775807 := by
  obtain ⟨ys, ho, hx⟩ := h
  obtain ⟨h0, h1, iv, h2, hm⟩ := hx k fs[k] (List.getElem?_eq_getElem hk)
  have hb := hB.2 fs[k] (List.getElem_mem hk)
  obtain ⟨zs, hz, hzx⟩ := hm
  rcases hz.2 with ⟨_, h0⟩ | ⟨gi, ic, cur, hv, hbb, hg, hc, hmx, _⟩
  · omega
  · subst hv
    unfold maxLen at hmx
    exact ⟨gi, _, ic, by rw [ho.cellAt _ (by omega)]; exact h2, OwnIns.ints ⟨zs, hz, hzx⟩ rfl, hb.1, hb.2.1, hc, by omega⟩
theorem OwnFns.lt {B : Nat} {w : World} {g n c : Nat} {fs : List Mf} (h : OwnFns B w (.slice (some ⟨g, 0, none⟩) n c) fs) : B ≤ g ∧ g < w.heap.size := by
  obtain ⟨ys, ho, _⟩ := h
  exact World.ownsRow.lt ho g rfl
theorem GIns.lt {B : Nat} {w : World} {g il ic : Nat} (h : GIns B w (some ⟨g, 0, none⟩) il ic) : B ≤ g ∧ g < w.heap.size := by
  obtain ⟨ys, ho, _⟩ := h
  exact World.ownsRow.lt ho g rfl

set_option maxHeartbeats 8000000 in
theorem l22Bent_any (w : World) (r N : Nat) (hR : Rd w r N) (hN : N ≤ 1099511400000) :
    Calls Tryd.prog 58 #[.pointer (some ⟨r, 0, none⟩)] w (BentPost r (N + 2010) w) := by
  have hrl := hR.lt
  have HR := Lib.hid hR
  clear hR
  go_enter Tryd.func58, Tryd.ntmps58
  go_wp2_with (fail)
  go_at_call 85
  refine (l22Mach_any _ r N (HR.out.alloc _) (by omega)).mono ?_
  rintro e w1 ⟨fv, fs, rfl, hF, hFB, hf1, hR1, hO1⟩
  obtain ⟨n, hn⟩ : ∃ n, n = fs.length := ⟨_, rfl⟩
  obtain ⟨g, c, rfl⟩ : ∃ g c, fv = .slice (some ⟨g, 0, none⟩) n c := by
    obtain ⟨ys, ho, _⟩ := hF
    rcases ho.2 with ⟨_, h⟩ | ⟨g, cap, _, h, _⟩
    · omega
    · exact ⟨g, cap, by rw [hn]; exact h⟩
  have hn1 : 1 ≤ n := by omega
  have hn3 : n ≤ 3 := by have := hFB.1; omega
  have hF : OwnFns (w.heap.size + 1) w1 (.slice (some ⟨g, 0, none⟩) n c) fs := by simpa using hF
  have hg := hF.lt
  have hA : Blk w1 w.heap.size [.slice none 0 0] := hO1.blk (Blk.new w #[.slice none 0 0] 25) (by simp; omega)
  have HO1 : Hid (Only [r] w w1) := Lib.hid (((Only.refl [r] w).alloc _).trans hO1)
  have HFN : Hid (∀ k, k < n → ∃ gi il ic, w1.cell? ⟨g, k * 3 + 2, none⟩ = some (.slice (some ⟨gi, 0, none⟩) il ic) ∧ GIns (w.heap.size + 1) w1 (some ⟨gi, 0, none⟩) il ic ∧ 1 ≤ il ∧ il ≤ 20 ∧ il ≤ ic ∧ ic ≤ 9223372036854775807) := Lib.hid (by rw [hn] at hF ⊢; exact fun k hk => hF.fnAt hFB k hk)
  have HF1 := Lib.hid hF; have HFB := Lib.hid hFB; have HA1 := Lib.hid hA; have HR1 := Lib.hid hR1; have HNN := Lib.hid hn
  clear hF hFB hf1 hR1 hO1 hA hn HR
  go_wp2_with (fail)
  generalize hw2 : w1.alloc _ = w2
  have hb2 : Below w1.heap.size w1 w2 := by rw [← hw2]; exact below1 _ _
  have hM2 : Blk w2 w1.heap.size [.slice (some ⟨g, 0, none⟩) n c] := by rw [← hw2]; exact Blk.new _ _ _
  have hs2 : w2.heap.size = w1.heap.size + 1 := by rw [← hw2]; simp
  have HM2 := Lib.hid hM2
  have HF2 := Lib.hid (HF1.out.only (Only.of_below hb2 []) (by simp)); have HA2 := Lib.hid (HA1.out.below hb2); have HR2 := Lib.hid (HR1.out.below hb2); have HO2 := Lib.hid (HO1.out.trans (Only.of_below hb2 _))
  have m0 := hM2.cell1
  have HB2 : Hid (Only [r] w1 w2) := Lib.hid (Only.of_below hb2 _)
  clear hw2 hb2 hM2 HF1 HA1 HR1 HO1
  refine wp_region_chain (fun W => W.cell? ⟨w1.heap.size, 0, none⟩ = some (.slice (some ⟨g, 0, none⟩) n c)) [(0, false), (1, true), (2, false), (3, false), (4, true), (5, false)] [6, 7, 8] 8 (by kernel_rfl) (by kernel_rfl) (fun d v c a w h => by cases d <;> exact h) m0 ?_
  simp only [pickO, List.map_cons, List.map_nil, List.getD_cons_zero, List.getD_cons_succ]
  refine heldO_stepY (v := ?_) rfl ?_ ?_
  rotate_left
  · intro W
    go_simp
    try rfl
  simp only [Act.put, List.setIfInBounds_toArray, List.set_cons_zero, List.set_cons_succ]
  refine heldO_step (v := ?_) rfl ?_ ?_
  rotate_left
  · intro W hS
    have k0 := hS
    go_simp
    try rfl
  simp only [Act.put, List.setIfInBounds_toArray, List.set_cons_zero, List.set_cons_succ]
  refine heldO_stepY (v := ?_) rfl ?_ ?_
  rotate_left
  · intro W
    go_simp
    try rfl
  simp only [Act.put, List.setIfInBounds_toArray, List.set_cons_zero, List.set_cons_succ]
  refine heldO_stepY (v := ?_) rfl ?_ ?_
  rotate_left
  · intro W
    go_simp
    try rfl
  simp only [Act.put, List.setIfInBounds_toArray, List.set_cons_zero, List.set_cons_succ]
  refine heldO_step (v := ?_) rfl ?_ ?_
  rotate_left
  · intro W hS
    have k0 := hS
    go_simp
    try rfl
  simp only [Act.put, List.setIfInBounds_toArray, List.set_cons_zero, List.set_cons_succ]
  refine heldO_stepY (v := ?_) rfl ?_ ?_
  rotate_left
  · intro W
    go_simp
    try rfl
  simp only [Act.put, List.setIfInBounds_toArray, List.set_cons_zero, List.set_cons_succ]
  refine heldO_nil ?_
  refine tailO_step rfl (fun K hK => ?_)
  go_simp
  refine (pick _ r _ n HR2.out.drew (by omega) (by omega)).mono ?_
  rintro e w3 ⟨k, rfl, hk, _, hR3, hO3⟩
  have hO3' : Only [r] w2 w3 := ((Only.refl [r] w2).drew).trans hO3
  have hk' : k < n := by have := hk (by omega); omega
  have k0 : (0 : Int) ≤ (k : Int) := by omega
  have k1 : (k : Int) < (n : Int) := by omega
  have hM3 := hO3'.blk HM2.out (by simp; omega)
  have hF3 := HF2.out.only hO3' (fun b hb => by have := List.mem_singleton.1 hb; omega)
  have hA3 := hO3'.blk HA2.out (by simp; omega)
  have hs3 := hO3'.size
  obtain ⟨gi, il, ic, q1, hgi1, hil1, hil2, hic1, hic2⟩ := HFN.out k hk'
  have hgl := hgi1.lt
  have hO13 : Only [r] w1 w3 := HB2.out.trans hO3'
  have hgi := hgi1.only hO13 (fun b hb => by have := List.mem_singleton.1 hb; omega)
  have q2 : w3.cell? ⟨g, k * 3 + 2, none⟩ = some (.slice (some ⟨gi, 0, none⟩) il ic) := by rw [hO13.cell (p := ⟨g, k * 3 + 2, none⟩) hg.2 (by simp; omega)]; exact q1
  have hG3 : GFns (w.heap.size + 1) w3 (.slice (some ⟨g, 0, none⟩) n c) n := by have h := hF3.gen HFB.out; rw [← HNN.out] at h; exact h
  have HM3 := Lib.hid hM3; have HG3 := Lib.hid hG3; have HGI3 := Lib.hid hgi; have HA3 := Lib.hid hA3; have HR3 := Lib.hid hR3; have HO3 := Lib.hid (HO2.out.trans hO3')
  have m3 := hM3.cell1
  refine hK _ _ (.inr m3) ?_
  clear hK K hM3 hF3 hG3 hgi hgi1 q1 hO13 HB2 HFN hA3 hR3 hO3 hO3' hk m0 HM2 HF2 HA2 HR2 HO2
  refine tailO_step rfl (fun K hK => ?_)
  go_simp
  refine hK _ _ (.inr m3) ?_
  clear hK K
  refine tailO_step rfl (fun K hK => ?_)
  go_simp
  refine hK _ _ (.inl rfl) (tailO_nil ?_)
  clear hK K m3
  go_wp2_with (fail)
  refine wp_region_chain (fun W => W.cell? ⟨g, k * 3 + 2, none⟩ = some (.slice (some ⟨gi, 0, none⟩) il ic)) [(0, false), (1, false), (2, false), (3, true), (4, false), (5, false), (6, false), (7, false), (8, true), (9, false)] [10, 11, 12] 12 (by kernel_rfl) (by kernel_rfl) (fun d v c a w h => by cases d <;> exact h) q2 ?_
  simp only [pickO, List.map_cons, List.map_nil, List.getD_cons_zero, List.getD_cons_succ]
  refine heldO_stepY (v := ?_) rfl ?_ ?_
  rotate_left
  · intro W
    go_simp
    try rfl
  simp only [Act.put, List.setIfInBounds_toArray, List.set_cons_zero, List.set_cons_succ]
  refine heldO_stepY (v := ?_) rfl ?_ ?_
  rotate_left
  · intro W
    go_simp
    try rfl
  simp only [Act.put, List.setIfInBounds_toArray, List.set_cons_zero, List.set_cons_succ]
  refine heldO_stepY (v := ?_) rfl ?_ ?_
  rotate_left
  · intro W
    go_simp
    try rfl
  simp only [Act.put, List.setIfInBounds_toArray, List.set_cons_zero, List.set_cons_succ]
  refine heldO_step (v := ?_) rfl ?_ ?_
  rotate_left
  · intro W hS
    have k0 := hS
    go_simp
    try rfl
  simp only [Act.put, List.setIfInBounds_toArray, List.set_cons_zero, List.set_cons_succ]
  refine heldO_stepY (v := ?_) rfl ?_ ?_
  rotate_left
  · intro W
    go_simp
    try rfl
  simp only [Act.put, List.setIfInBounds_toArray, List.set_cons_zero, List.set_cons_succ]
  refine heldO_stepY (v := ?_) rfl ?_ ?_
  rotate_left
  · intro W
    go_simp
    try rfl
  simp only [Act.put, List.setIfInBounds_toArray, List.set_cons_zero, List.set_cons_succ]
  refine heldO_stepY (v := ?_) rfl ?_ ?_
  rotate_left
  · intro W
    go_simp
    try rfl
  simp only [Act.put, List.setIfInBounds_toArray, List.set_cons_zero, List.set_cons_succ]
  refine heldO_stepY (v := ?_) rfl ?_ ?_
  rotate_left
  · intro W
    go_simp
    try rfl
  simp only [Act.put, List.setIfInBounds_toArray, List.set_cons_zero, List.set_cons_succ]
  refine heldO_step (v := ?_) rfl ?_ ?_
  rotate_left
  · intro W hS
    have k0 := hS
    go_simp
    try rfl
  simp only [Act.put, List.setIfInBounds_toArray, List.set_cons_zero, List.set_cons_succ]
  refine heldO_stepY (v := ?_) rfl ?_ ?_
  rotate_left
  · intro W
    go_simp
    try rfl
  simp only [Act.put, List.setIfInBounds_toArray, List.set_cons_zero, List.set_cons_succ]
  refine heldO_nil ?_
  refine tailO_step rfl (fun K hK => ?_)
  go_simp
  refine (pick _ r _ il HR3.out.drew (by omega) (by omega)).mono ?_
  rintro e w4 ⟨k2, rfl, hk2, _, hR4, hO4⟩
  have hO4' : Only [r] w3 w4 := ((Only.refl [r] w3).drew).trans hO4
  have hk2' : k2 < il := by have := hk2 (by omega); omega
  have j0 : (0 : Int) ≤ (k2 : Int) := by omega
  have j1 : (k2 : Int) < (il : Int) := by omega
  have hrw : ∀ b ∈ [r], b < w.heap.size + 1 := fun b hb => by have := List.mem_singleton.1 hb; omega
  have q4 : w4.cell? ⟨g, k * 3 + 2, none⟩ = some (.slice (some ⟨gi, 0, none⟩) il ic) := by rw [hO4'.cell (p := ⟨g, k * 3 + 2, none⟩) (World.block_lt_of_cell? _ _ q2) (by simp; omega)]; exact q2
  have HM4 := Lib.hid (hO4'.blk HM3.out (by simp; omega)); have HG4 := Lib.hid (HG3.out.only hO4' hrw); have HGI4 := Lib.hid (HGI3.out.only hO4' hrw); have HA4 := Lib.hid (hO4'.blk HA3.out (by simp; omega)); have HR4 := Lib.hid hR4; have HO4 := Lib.hid (HO3.out.trans hO4')
  refine hK _ _ (.inr q4) ?_
  clear hK K hk2 hR4 hO4 hO4' q2 HM3 HG3 HGI3 HA3 HR3 HO3 hrw
  refine tailO_step rfl (fun K hK => ?_)
  go_simp
  refine hK _ _ (.inr q4) ?_
  clear hK K
  refine tailO_step rfl (fun K hK => ?_)
  go_simp
  refine hK _ _ (.inl rfl) (tailO_nil ?_)
  clear hK K
  go_wp2_with (fail)
  go_at_call 60
  refine (num_any (IntIn (-1) 300) IntIn.int _ r _ _ 0 6 6 (HR4.out.alloc _) (by omega) (by omega) (by omega) (rowQ_newAt _ _ _ rfl HR4.out.lt 6 (by simp) (numsBad il hil2))).mono ?_
  rintro e w5 ⟨_, rfl, ⟨bad, rfl, hbad1, hbad2⟩, hR5, hO5⟩
  have hO5' : Only [r] w4 w5 := ((Only.refl [r] w4).alloc _).trans hO5
  have hrw : ∀ b ∈ [r], b < w.heap.size + 1 := fun b hb => by have := List.mem_singleton.1 hb; omega
  have HM5 := Lib.hid (hO5'.blk HM4.out (by simp; omega)); have HG5 := Lib.hid (HG4.out.only hO5' hrw); have HGI5 := Lib.hid (HGI4.out.only hO5' hrw); have HA5 := Lib.hid (hO5'.blk HA4.out (by simp; omega)); have HR5 := Lib.hid hR5; have HO5 := Lib.hid (HO4.out.trans hO5')
  have q5 : w5.cell? ⟨g, k * 3 + 2, none⟩ = some (.slice (some ⟨gi, 0, none⟩) il ic) := by rw [hO5'.cell (p := ⟨g, k * 3 + 2, none⟩) (World.block_lt_of_cell? _ _ q4) (by simp; omega)]; exact q4
  have Q5 := Lib.hid q5
  clear hR5 hO5 hO5' q4 q5 HM4 HG4 HGI4 HA4 HR4 HO4 hrw
  go_wp2_with (fail)
  go_at_call 86
  refine (pick w5 r _ 28 HR5.out (by omega) (by omega)).mono ?_
  rintro e w6 ⟨q, rfl, _, _, hR6, hO6⟩
  have hrw : ∀ b ∈ [r], b < w.heap.size + 1 := fun b hb => by have := List.mem_singleton.1 hb; omega
  have HM6 := Lib.hid (hO6.blk HM5.out (by simp; omega)); have HG6 := Lib.hid (HG5.out.only hO6 hrw); have HGI6 := Lib.hid (HGI5.out.only hO6 hrw); have HA6 := Lib.hid (hO6.blk HA5.out (by simp; omega)); have HR6 := Lib.hid hR6; have HO6 := Lib.hid (HO5.out.trans hO6)
  have Q6 : Hid (w6.cell? ⟨g, k * 3 + 2, none⟩ = some (.slice (some ⟨gi, 0, none⟩) il ic)) := Lib.hid (by rw [hO6.cell (p := ⟨g, k * 3 + 2, none⟩) (World.block_lt_of_cell? _ _ Q5.out) (by simp; omega)]; exact Q5.out)
  have HRW := Lib.hid hrw
  clear hR6 hO6 HM5 HG5 HGI5 HA5 HR5 HO5 hrw Q5
  have END : ∀ wx, GFns (w.heap.size + 1) wx (.slice (some ⟨g, 0, none⟩) n c) n → Rd wx r (N + 2010) → Only [r] w wx → BentPost r (N + 2010) w (.returned (.agg #[.slice (some ⟨g, 0, none⟩) n c])) (wx.setCell ⟨w.heap.size, 0, none⟩ (.slice (some ⟨g, 0, none⟩) n c)) := fun wx h1 h2 h3 =>
    ⟨g, n, c, rfl, (h1.only ((Only.refl [w.heap.size] wx).setCell (p := ⟨w.heap.size, 0, none⟩) (by simp) _) (fun b hb => by have := List.mem_singleton.1 hb; omega)).mono (by omega), hn1, hn3, h2.setCell (p := ⟨w.heap.size, 0, none⟩) (by simp only []; omega) _, h3.setCellNew (p := ⟨w.heap.size, 0, none⟩) (Nat.le_refl _) _⟩
  have HEND := Lib.hid END
  have GI : ∀ wx, GIns (w.heap.size + 1) wx (some ⟨gi, 0, none⟩) il ic → ∀ j, j < 5 → (∃ z, wx.cell? ⟨gi, k2 * 5 + j, none⟩ = some (.int .i64 z)) ∧ wx.frozen? ⟨gi, k2 * 5 + j, none⟩ = false := fun wx h j hj => h.cells (k2 * 5 + j) (by omega)
  have HGC := Lib.hid GI
  have hgr : g < w1.heap.size := hg.2
  have hgl1 := hg.1
  have hgir : gi < w1.heap.size := hgl.2
  have hgm : gi ≠ w1.heap.size := by omega
  have hga : gi ≠ w.heap.size := by omega
  have hgm' : g ≠ w1.heap.size := by omega
  have hga' : g ≠ w.heap.size := by omega
  clear END GI hg HFB HNN
  by_cases e0 : q = 0
  · subst e0
    go_wp2_with (fail)
    go_at_call 86
    refine (pick w6 r _ 25 HR6.out (by omega) (by omega)).mono ?_
    rintro e w7 ⟨v, rfl, hv, _, hR7, hO7⟩
    have hO7' := hO7
    have hv25 : (v : Int) < 25 := hv (by omega)
    have HM7 := Lib.hid (hO7'.blk HM6.out (by simp; omega)); have HG7 := Lib.hid (HG6.out.only hO7' HRW.out); have HGI7 := Lib.hid (HGI6.out.only hO7' HRW.out); have HA7 := Lib.hid (hO7'.blk HA6.out (by simp; omega)); have HR7 := Lib.hid hR7; have HO7 := Lib.hid (HO6.out.trans hO7')
    obtain ⟨⟨z, x0⟩, xf⟩ := HGC.out w7 HGI7.out 0 (by decide)
    simp only [Nat.add_zero] at x0 xf
    have HGX : Hid (GFns (w.heap.size + 1) (w7.setCell ⟨gi, k2 * 5, none⟩ (.int .i64 ((v : Int) - 1))) (.slice (some ⟨g, 0, none⟩) n c) n) := Lib.hid (by
      obtain ⟨zs, hz, _⟩ := HGI7.out
      exact HG7.out.setIns hz _ _)
    clear hv
    have a0 := HA7.out.cell1
    have af := HA7.out.frozen 0
    have m0 := HM7.out.cell1
    have HRX : Hid (Rd (w7.setCell ⟨gi, k2 * 5, none⟩ (.int .i64 ((v : Int) - 1))) r (N + 2010)) := Lib.hid ((HR7.out.setCell (p := ⟨gi, k2 * 5, none⟩) (by simp only []; omega) _).mono (by omega))
    have HOX : Hid (Only [r] w (w7.setCell ⟨gi, k2 * 5, none⟩ (.int .i64 ((v : Int) - 1)))) := Lib.hid (HO7.out.setCellNew (p := ⟨gi, k2 * 5, none⟩) (by simp only []; omega) _)
    clear HM7 HG7 HGI7 HA7 HR7 HO7 hR7 hO7 hO7' HM6 HG6 HGI6 HA6 HR6 HO6
    go_wp2_with (fail)
    refine bodyPost_ret (v := .agg #[.slice (some ⟨g, 0, none⟩) n c]) (by simp [results, Tryd.results58, go_sem, a0]) rfl ?_
    exact HEND.out _ HGX.out HRX.out HOX.out
  by_cases e1 : q = 1
  · subst e1
    obtain ⟨⟨z, x0⟩, xf⟩ := HGC.out w6 HGI6.out 1 (by decide)
    have a0 := HA6.out.cell1
    have af := HA6.out.frozen 0
    have m0 := HM6.out.cell1
    have HGX : Hid (GFns (w.heap.size + 1) (w6.setCell ⟨gi, k2 * 5 + 1, none⟩ (.int .i64 bad)) (.slice (some ⟨g, 0, none⟩) n c) n) := Lib.hid (by
      obtain ⟨zs, hz, _⟩ := HGI6.out
      exact HG6.out.setIns hz _ _)
    have HRX : Hid (Rd (w6.setCell ⟨gi, k2 * 5 + 1, none⟩ (.int .i64 bad)) r (N + 2010)) := Lib.hid ((HR6.out.setCell (p := ⟨gi, k2 * 5 + 1, none⟩) (by simp only []; omega) _).mono (by omega))
    have HOX : Hid (Only [r] w (w6.setCell ⟨gi, k2 * 5 + 1, none⟩ (.int .i64 bad))) := Lib.hid (HO6.out.setCellNew (p := ⟨gi, k2 * 5 + 1, none⟩) (by simp only []; omega) _)
    go_wp2_with (fail)
    refine bodyPost_ret (v := .agg #[.slice (some ⟨g, 0, none⟩) n c]) (by simp [results, Tryd.results58, go_sem, a0]) rfl ?_
    exact HEND.out _ HGX.out HRX.out HOX.out
  by_cases e2 : q = 2
  · subst e2
    obtain ⟨⟨z, x0⟩, xf⟩ := HGC.out w6 HGI6.out 4 (by decide)
    have a0 := HA6.out.cell1
    have af := HA6.out.frozen 0
    have m0 := HM6.out.cell1
    have HGX : Hid (GFns (w.heap.size + 1) (w6.setCell ⟨gi, k2 * 5 + 4, none⟩ (.int .i64 bad)) (.slice (some ⟨g, 0, none⟩) n c) n) := Lib.hid (by
      obtain ⟨zs, hz, _⟩ := HGI6.out
      exact HG6.out.setIns hz _ _)
    have HRX : Hid (Rd (w6.setCell ⟨gi, k2 * 5 + 4, none⟩ (.int .i64 bad)) r (N + 2010)) := Lib.hid ((HR6.out.setCell (p := ⟨gi, k2 * 5 + 4, none⟩) (by simp only []; omega) _).mono (by omega))
    have HOX : Hid (Only [r] w (w6.setCell ⟨gi, k2 * 5 + 4, none⟩ (.int .i64 bad))) := Lib.hid (HO6.out.setCellNew (p := ⟨gi, k2 * 5 + 4, none⟩) (by simp only []; omega) _)
    go_wp2_with (fail)
    refine bodyPost_ret (v := .agg #[.slice (some ⟨g, 0, none⟩) n c]) (by simp [results, Tryd.results58, go_sem, a0]) rfl ?_
    exact HEND.out _ HGX.out HRX.out HOX.out
  by_cases e3 : q = 3
  · subst e3
    obtain ⟨⟨z, x0⟩, xf⟩ := HGC.out w6 HGI6.out 3 (by decide)
    have a0 := HA6.out.cell1
    have af := HA6.out.frozen 0
    have m0 := HM6.out.cell1
    have HGX : Hid (GFns (w.heap.size + 1) (w6.setCell ⟨gi, k2 * 5 + 3, none⟩ (.int .i64 bad)) (.slice (some ⟨g, 0, none⟩) n c) n) := Lib.hid (by
      obtain ⟨zs, hz, _⟩ := HGI6.out
      exact HG6.out.setIns hz _ _)
    have HRX : Hid (Rd (w6.setCell ⟨gi, k2 * 5 + 3, none⟩ (.int .i64 bad)) r (N + 2010)) := Lib.hid ((HR6.out.setCell (p := ⟨gi, k2 * 5 + 3, none⟩) (by simp only []; omega) _).mono (by omega))
    have HOX : Hid (Only [r] w (w6.setCell ⟨gi, k2 * 5 + 3, none⟩ (.int .i64 bad))) := Lib.hid (HO6.out.setCellNew (p := ⟨gi, k2 * 5 + 3, none⟩) (by simp only []; omega) _)
    go_wp2_with (fail)
    refine bodyPost_ret (v := .agg #[.slice (some ⟨g, 0, none⟩) n c]) (by simp [results, Tryd.results58, go_sem, a0]) rfl ?_
    exact HEND.out _ HGX.out HRX.out HOX.out
  by_cases e4 : q = 4
  · subst e4
    go_wp2_with (fail)
    go_at_call 60
    refine (num_any (IntIn (-1) 65) IntIn.int _ r _ _ 0 4 4 (HR6.out.alloc _) (by omega) (by omega) (by omega) (rowQ_newAt _ _ _ rfl HR6.out.lt 4 (by simp) numsSlots)).mono ?_
    rintro e w7 ⟨_, rfl, ⟨z, rfl, hz1, hz2⟩, hR7, hO7⟩
    have hO7' : Only [r] w6 w7 := ((Only.refl [r] w6).alloc _).trans hO7
    have HM7 := Lib.hid (hO7'.blk HM6.out (by simp; omega)); have HG7 := Lib.hid (HG6.out.only hO7' HRW.out); have HGI7 := Lib.hid (HGI6.out.only hO7' HRW.out); have HA7 := Lib.hid (hO7'.blk HA6.out (by simp; omega)); have HR7 := Lib.hid hR7; have HO7 := Lib.hid (HO6.out.trans hO7')
    obtain ⟨p0, s0, _, _, _, y0, y1, _, yf, _⟩ := HG7.out.cells k hk'
    have yf' := yf (k * 3 + 1)
    have HGX : Hid (GFns (w.heap.size + 1) (w7.setCell ⟨g, k * 3 + 1, none⟩ (.int .i64 z)) (.slice (some ⟨g, 0, none⟩) n c) n) := Lib.hid (HG7.out.setSlots k hk' z)
    clear yf
    have a0 := HA7.out.cell1
    have af := HA7.out.frozen 0
    have m0 := HM7.out.cell1
    have HRX : Hid (Rd (w7.setCell ⟨g, k * 3 + 1, none⟩ (.int .i64 z)) r (N + 2010)) := Lib.hid ((HR7.out.setCell (p := ⟨g, k * 3 + 1, none⟩) (by simp only []; omega) _).mono (by omega))
    have HOX : Hid (Only [r] w (w7.setCell ⟨g, k * 3 + 1, none⟩ (.int .i64 z))) := Lib.hid (HO7.out.setCellNew (p := ⟨g, k * 3 + 1, none⟩) (by simp only []; omega) _)
    clear HM7 HG7 HGI7 HA7 HR7 HO7 hR7 hO7 hO7' HM6 HG6 HGI6 HA6 HR6 HO6
    go_wp2_with (fail)
    refine bodyPost_ret (v := .agg #[.slice (some ⟨g, 0, none⟩) n c]) (by simp [results, Tryd.results58, go_sem, a0]) rfl ?_
    exact HEND.out _ HGX.out HRX.out HOX.out
  by_cases e5 : q = 5
  · subst e5
    have q6 := Q6.out
    have hil : (il : Int) - 1 = ((il - 1 : Nat) : Int) := by omega
    have hil0 : (0 : Int) ≤ ((il - 1 : Nat) : Int) := by omega
    have hilc : ((il - 1 : Nat) : Int) ≤ (ic : Int) := by omega
    have a0 := HA6.out.cell1
    have af := HA6.out.frozen 0
    have m0 := HM6.out.cell1
    obtain ⟨_, _, _, _, _, _, _, _, yf, _⟩ := HG6.out.cells k hk'
    have yf2 := yf (k * 3 + 2)
    have HGX : Hid (GFns (w.heap.size + 1) (w6.drew.setCell ⟨g, k * 3 + 2, none⟩ (.slice (some ⟨gi, 0, none⟩) (il - 1) ic)) (.slice (some ⟨g, 0, none⟩) n c) n) := Lib.hid ((HG6.out.only ((Only.refl [] w6).drew) (by simp)).setCut k hk' (HGI6.out.only ((Only.refl [] w6).drew) (by simp)) (by omega) hil2)
    have HRX : Hid (Rd (w6.drew.setCell ⟨g, k * 3 + 2, none⟩ (.slice (some ⟨gi, 0, none⟩) (il - 1) ic)) r (N + 2010)) := Lib.hid ((HR6.out.drew.setCell (p := ⟨g, k * 3 + 2, none⟩) (by simp only []; omega) _).mono (by omega))
    have HOX : Hid (Only [r] w (w6.drew.setCell ⟨g, k * 3 + 2, none⟩ (.slice (some ⟨gi, 0, none⟩) (il - 1) ic))) := Lib.hid (HO6.out.drew.setCellNew (p := ⟨g, k * 3 + 2, none⟩) (by simp only []; omega) _)
    have hwr : IntKind.i64.wrap ((il - 1 : Nat) : Int) = ((il - 1 : Nat) : Int) := IntWalk.i64_in _ (by omega)
    clear HM6 HG6 HGI6 HA6 HR6 HO6 yf Q6
    go_wp2_with (fail)
    refine wp_region_chain (fun W => W.cell? ⟨g, k * 3 + 2, none⟩ = some (.slice (some ⟨gi, 0, none⟩) il ic)) [(0, false), (1, false), (2, false), (3, false), (4, true), (5, false), (6, false), (7, false), (8, true), (9, false), (10, false), (11, false)] [12, 13, 14] 14 (by kernel_rfl) (by kernel_rfl) (fun d v c a w h => by cases d <;> exact h) q6 ?_
    simp only [pickO, List.map_cons, List.map_nil, List.getD_cons_zero, List.getD_cons_succ]
    refine heldO_stepY (v := ?_) rfl ?_ ?_
    rotate_left
    · intro W
      go_simp
      try rfl
    simp only [Act.put, List.setIfInBounds_toArray, List.set_cons_zero, List.set_cons_succ]
    refine heldO_stepY (v := ?_) rfl ?_ ?_
    rotate_left
    · intro W
      go_simp
      try rfl
    simp only [Act.put, List.setIfInBounds_toArray, List.set_cons_zero, List.set_cons_succ]
    refine heldO_stepY (v := ?_) rfl ?_ ?_
    rotate_left
    · intro W
      go_simp
      try rfl
    simp only [Act.put, List.setIfInBounds_toArray, List.set_cons_zero, List.set_cons_succ]
    refine heldO_stepY (v := ?_) rfl ?_ ?_
    rotate_left
    · intro W
      go_simp
      try rfl
    simp only [Act.put, List.setIfInBounds_toArray, List.set_cons_zero, List.set_cons_succ]
    refine heldO_step (v := ?_) rfl ?_ ?_
    rotate_left
    · intro W hS
      have k0 := hS
      go_simp
      try rfl
    simp only [Act.put, List.setIfInBounds_toArray, List.set_cons_zero, List.set_cons_succ]
    refine heldO_stepY (v := ?_) rfl ?_ ?_
    rotate_left
    · intro W
      go_simp
      try rfl
    simp only [Act.put, List.setIfInBounds_toArray, List.set_cons_zero, List.set_cons_succ]
    refine heldO_stepY (v := ?_) rfl ?_ ?_
    rotate_left
    · intro W
      go_simp
      try rfl
    simp only [Act.put, List.setIfInBounds_toArray, List.set_cons_zero, List.set_cons_succ]
    refine heldO_stepY (v := ?_) rfl ?_ ?_
    rotate_left
    · intro W
      go_simp
      try rfl
    simp only [Act.put, List.setIfInBounds_toArray, List.set_cons_zero, List.set_cons_succ]
    refine heldO_step (v := ?_) rfl ?_ ?_
    rotate_left
    · intro W hS
      have k0 := hS
      go_simp
      try rfl
    simp only [Act.put, List.setIfInBounds_toArray, List.set_cons_zero, List.set_cons_succ]
    refine heldO_stepY (v := ?_) rfl ?_ ?_
    rotate_left
    · intro W
      go_simp
      try rfl
    simp only [Act.put, List.setIfInBounds_toArray, List.set_cons_zero, List.set_cons_succ]
    refine heldO_stepY (v := ?_) rfl ?_ ?_
    rotate_left
    · intro W
      go_simp
      try rfl
    simp only [Act.put, List.setIfInBounds_toArray, List.set_cons_zero, List.set_cons_succ]
    refine heldO_stepY (v := ?_) rfl ?_ ?_
    rotate_left
    · intro W
      go_simp
      try rfl
    simp only [Act.put, List.setIfInBounds_toArray, List.set_cons_zero, List.set_cons_succ]
    refine heldO_nil ?_
    refine tailO_step rfl (fun K hK => ?_)
    go_simp
    refine hK _ _ (.inr q6) ?_
    clear hK K
    refine tailO_step rfl (fun K hK => ?_)
    go_simp
    refine hK _ _ (.inr q6) ?_
    clear hK K
    refine tailO_step rfl (fun K hK => ?_)
    go_simp
    refine hK _ _ (.inl rfl) (tailO_nil ?_)
    clear hK K
    go_wp2_with (fail)
    refine bodyPost_ret (v := .agg #[.slice (some ⟨g, 0, none⟩) n c]) (by simp [results, Tryd.results58, go_sem, a0]) rfl ?_
    exact HEND.out _ HGX.out HRX.out HOX.out
  by_cases e6 : q = 6
  · subst e6
    go_wp2_with (fail)
    go_at_call 60
    refine (num_any (IntIn (-1) 4) IntIn.int _ r _ _ 0 3 3 (HR6.out.alloc _) (by omega) (by omega) (by omega) (rowQ_newAt _ _ _ rfl HR6.out.lt 3 (by simp) numsParams)).mono ?_
    rintro e w7 ⟨_, rfl, ⟨z, rfl, hz1, hz2⟩, hR7, hO7⟩
    have hO7' : Only [r] w6 w7 := ((Only.refl [r] w6).alloc _).trans hO7
    have HM7 := Lib.hid (hO7'.blk HM6.out (by simp; omega)); have HG7 := Lib.hid (HG6.out.only hO7' HRW.out); have HGI7 := Lib.hid (HGI6.out.only hO7' HRW.out); have HA7 := Lib.hid (hO7'.blk HA6.out (by simp; omega)); have HR7 := Lib.hid hR7; have HO7 := Lib.hid (HO6.out.trans hO7')
    obtain ⟨p0, s0, _, _, _, y0, y1, _, yf, _⟩ := HG7.out.cells k hk'
    have yf' := yf (k * 3)
    have HGX : Hid (GFns (w.heap.size + 1) (w7.setCell ⟨g, k * 3, none⟩ (.int .i64 z)) (.slice (some ⟨g, 0, none⟩) n c) n) := Lib.hid (HG7.out.setParams k hk' z hz2)
    clear yf
    have a0 := HA7.out.cell1
    have af := HA7.out.frozen 0
    have m0 := HM7.out.cell1
    have HRX : Hid (Rd (w7.setCell ⟨g, k * 3, none⟩ (.int .i64 z)) r (N + 2010)) := Lib.hid ((HR7.out.setCell (p := ⟨g, k * 3, none⟩) (by simp only []; omega) _).mono (by omega))
    have HOX : Hid (Only [r] w (w7.setCell ⟨g, k * 3, none⟩ (.int .i64 z))) := Lib.hid (HO7.out.setCellNew (p := ⟨g, k * 3, none⟩) (by simp only []; omega) _)
    clear HM7 HG7 HGI7 HA7 HR7 HO7 hR7 hO7 hO7' HM6 HG6 HGI6 HA6 HR6 HO6
    go_wp2_with (fail)
    refine bodyPost_ret (v := .agg #[.slice (some ⟨g, 0, none⟩) n c]) (by simp [results, Tryd.results58, go_sem, a0]) rfl ?_
    exact HEND.out _ HGX.out HRX.out HOX.out
  have b0 : ((q : Int) == 0) = false := by simp; omega
  have b1 : ((q : Int) == 1) = false := by simp; omega
  have b2 : ((q : Int) == 2) = false := by simp; omega
  have b3 : ((q : Int) == 3) = false := by simp; omega
  have b4 : ((q : Int) == 4) = false := by simp; omega
  have b5 : ((q : Int) == 5) = false := by simp; omega
  have b6 : ((q : Int) == 6) = false := by simp; omega
  have a0 := HA6.out.cell1
  have af := HA6.out.frozen 0
  have m0 := HM6.out.cell1
  clear e0 e1 e2 e3 e4 e5 e6
  go_wp2_with (fail)
  refine bodyPost_ret (v := .agg #[.slice (some ⟨g, 0, none⟩) n c]) (by simp [results, Tryd.results58, go_sem, a0]) rfl ?_
  exact HEND.out _ HG6.out (HR6.out.mono (by omega)) HO6.out

end Go.Proofs.YtbdbmmdnidonjaaDoor

set_option maxRecDepth 100000
namespace Go.Proofs.YtbdbmmdnidonjaaDoor
open Go.RowKit

theorem numsIn (k : Nat) (hk : k < 256) : ∀ x ∈ (#[Value.int .i64 0, .int .i64 1, .int .i64 2, .int .i64 3, .int .i64 7, .int .i64 16, .int .i64 255, .int .i64 k] : Array Value).toList, IntIn 0 255 x := by
  simp only [List.mem_cons, List.not_mem_nil, or_false, forall_eq_or_imp, forall_eq]
  refine ⟨⟨_, rfl, ?_⟩, ⟨_, rfl, ?_⟩, ⟨_, rfl, ?_⟩, ⟨_, rfl, ?_⟩, ⟨_, rfl, ?_⟩, ⟨_, rfl, ?_⟩, ⟨_, rfl, ?_⟩, ⟨_, rfl, ?_⟩⟩ <;> omega
theorem numsOut : ∀ x ∈ (#[Value.int .i64 0, .int .i64 256] : Array Value).toList, IntIn 0 256 x := by
  simp only [List.mem_cons, List.not_mem_nil, or_false, forall_eq_or_imp, forall_eq]
  exact ⟨⟨_, rfl, by decide, by decide⟩, ⟨_, rfl, by decide, by decide⟩⟩

theorem rowQ_only {Q : Value → Prop} {w w' : World} {r b off n : Nat} (h : RowQ Q w r b off n) (ho : Only [r] w w') : RowQ Q w' r b off n := by
  obtain ⟨h1, h2, h3⟩ := h
  refine ⟨h1, Nat.lt_of_lt_of_le h2 ho.size, fun i hi => ?_⟩
  obtain ⟨x, hx, hq⟩ := h3 i hi
  exact ⟨x, by rw [ho.cell (p := ⟨b, off + i, none⟩) h2 (by simpa using h1)]; exact hx, hq⟩
theorem own_empty0 {X : World} {B q : Nat} (h : q = X.heap.size) (hB : B ≤ X.heap.size) : (X.alloc (.cells #[] 3)).ownsRow B 3 1 (.slice (some ⟨q, 0, none⟩) 0 0) 0 [] := by
  subst h
  exact World.ownsRow_lit X #[] 0 hB (by decide) rfl

def InPost (r N : Nat) (w : World) (e : Ending) (w' : World) : Prop :=
  ∃ go m oc zs, e = .returned (.slice (some ⟨go, 0, none⟩) m oc) ∧ w'.ownsRow w.heap.size 3 1 (.slice (some ⟨go, 0, none⟩) m oc) m (ints zs) ∧ zs.length = m ∧ m ≤ 5 ∧ Rd w' r N ∧ Only [r] w w'

set_option maxHeartbeats 4000000 in
theorem l22In_any (w : World) (r N g n c : Nat) (p : Int) (hR : Rd w r N) (hN : N ≤ 1099511400000) (hn : 1 ≤ n) (hn3 : n ≤ 3) (hc : w.cell? ⟨g, (n - 1) * 3, none⟩ = some (.int .i64 p)) (hp : p ≤ 4) (hgr : g ≠ r) :
    Calls Tryd.prog 59 #[.pointer (some ⟨r, 0, none⟩), .agg #[.slice (some ⟨g, 0, none⟩) n c]] w (InPost r (N + 20) w) := by
  obtain ⟨i0, hi, hz0, hz1, hz2⟩ := info_parts info_int
  have hrl := hR.lt
  have hgl := World.block_lt_of_cell? _ _ hc
  simp only [] at hgl
  have HR := Lib.hid hR
  have HC := Lib.hid hc
  have hnn : (n : Int) - 1 = ((n - 1 : Nat) : Int) := by omega
  have n0 : (0 : Int) ≤ ((n - 1 : Nat) : Int) := by omega
  have n1 : ((n - 1 : Nat) : Int) < n := by omega
  clear hR hc
  go_enter Tryd.func59, Tryd.ntmps59
  go_wp2_with (fail)
  go_loopw [5, 6] (fun o i wr => ∃ (j go oc : Nat) (zs : List Int), i = .int .i64 j ∧ o = .slice (some ⟨go, 0, none⟩) j oc ∧ zs.length = j ∧ j ≤ 4 ∧ wr.ownsRow w.heap.size 3 1 (.slice (some ⟨go, 0, none⟩) j oc) j (ints zs) ∧ Blk wr w.heap.size [.slice (some ⟨g, 0, none⟩) n c] ∧ go ≠ w.heap.size ∧ Rd wr r (N + 2 * j) ∧ Only [r] w wr) (fun _ i _ => (p - intOf i).toNat)
  case atStart =>
    have hb := below2 w (.cells #[.slice (some ⟨g, 0, none⟩) n c] 25) (.cells #[] 3)
    exact ⟨0, w.heap.size + 1, 0, [], rfl, by simp, rfl, by omega, own_empty0 (by simp) (by simp), (Blk.new w #[.slice (some ⟨g, 0, none⟩) n c] 25).alloc _, by omega, HR.out.below hb, Only.of_below hb _⟩
  case round =>
    obtain ⟨j, go, oc, zs, rfl, rfl, hzl, hj4, hown, hV, hgo, hR, hO⟩ := hrel
    obtain ⟨wo, rfl⟩ : ∃ wo : World, wo = wr := ⟨_, rfl⟩
    have v0 := hV.cell1
    have c0 : wo.cell? ⟨g, (n - 1) * 3, none⟩ = some (.int .i64 p) := by rw [hO.cell (p := ⟨g, (n - 1) * 3, none⟩) hgl (by simpa using hgr)]; exact HC.out
    have hrl1 := hR.lt
    have hgb := (ownsRow_lt hown).2.1
    have HV := Lib.hid hV; have HW := Lib.hid hown; have HR1 := Lib.hid hR; have HO1 := Lib.hid hO; have HZL := Lib.hid hzl
    clear hV hown hR hO hzl
    by_cases hlt : (j : Int) < p
    · go_wp2_with (fail)
      go_at_call 86
      refine (pick wo r _ 256 HR1.out (by omega) (by omega)).mono ?_
      rintro e w2 ⟨k, rfl, hk, _, hR2, hO2⟩
      have hk' : k < 256 := by have := hk (by omega); omega
      have hrw : ∀ b ∈ [r], b < w.heap.size := fun b hb => by have := List.mem_singleton.1 hb; omega
      have hrl2 := hR2.lt
      have HV2 := Lib.hid (hO2.blk HV.out (by simp; omega)); have HW2 := Lib.hid (ownsRow_only HW.out hO2 hrw); have HR2 := Lib.hid hR2; have HO2 := Lib.hid (HO1.out.trans hO2)
      clear hk hR2 hO2 hrw HV HW HR1 HO1 v0 c0
      go_wp2_with (fail)
      go_at_call 60
      refine (num_any (IntIn 0 255) IntIn.int _ r _ _ 0 8 8 (HR2.out.alloc _) (by omega) (by omega) (by omega) (rowQ_newAt _ _ _ rfl hrl2 8 (by simp) (numsIn k hk'))).mono ?_
      rintro e w3 ⟨_, rfl, ⟨z, rfl, hz1', hz2'⟩, hR3, hO3⟩
      have hrw : ∀ b ∈ [r], b < w.heap.size := fun b hb => by have := List.mem_singleton.1 hb; omega
      have hO3' : Only [r] w2 w3 := ((Only.refl [r] w2).alloc _).trans hO3
      have HV3 := Lib.hid (hO3'.blk HV2.out (by simp; omega)); have HW3 := Lib.hid (ownsRow_only HW2.out hO3' hrw); have HR3 := Lib.hid hR3; have HO3 := Lib.hid (HO2.out.trans hO3')
      have hs3 := hO3'.size
      have hs30 := HO3.out.size
      clear hR3 hO3 hO3' hrw HV2 HW2 HR2 HO2
      go_wp2_with (at_builtin; refine wpList_append_lies _ (by rfl) _ _ 26 (by rfl) w.heap.size 3 i0 (.int .i64 0) 1 8 Tryd.underlying26 hi hz0 hz1 hz2 (by rfl) (by decide) _ j (ints zs) (by rfl) (HW3.out.alloc _) ⟨w3.heap.size, 0, none⟩ 1 1 [.int .i64 z] (by rfl) rfl (World.news_of_block (heap_alloc_new _ _)) (by simp [Value.oneCell']) (by decide) (by unfold maxLen; omega) (by omega) (by simp; omega) (w3.heap.size + 1) (by simp) ?_; intro g4 oc4 w4 hown4 hgrow4 hat4 hlt4; have HW4 := Lib.hid hown4; have HG4 := Lib.hid hgrow4; have HA4 := Lib.hid hat4; clear hown4 hgrow4 hat4)
      go_roundw
      case rel =>
        have hbase : ∀ k, Value.ownBlock (.slice (some ⟨go, 0, none⟩) j oc) = some k → w.heap.size ≤ k := fun k hk => (World.ownsRow.lt HW3.out k hk).1
        have hg4 : g4 ≠ w.heap.size := by
          rcases HA4.out with h | h
          · simp only [Value.ownBlock, Option.some.injEq] at h; omega
          · omega
        refine ⟨j + 1, g4, oc4, zs ++ [z], by go_num, rfl, by simp [HZL.out], by omega, ?_, (HV3.out.alloc _).grown HG4.out (by simp only [Value.ownBlock, ne_eq, Option.some.injEq]; omega), hg4, ((HR3.out.alloc _).grown HG4.out (fun k hk => by have := hbase k hk; omega)).mono (by omega), (HO3.out.alloc _).grown HG4.out hbase⟩
        rw [show ints (zs ++ [z]) = ints zs ++ [.int .i64 z] by simp [ints]]
        exact HW4.out
      case measure => simp [intOf]; omega
    · go_wp2_with (fail)
      go_at_call 86
      refine (pick wo r _ 40 HR1.out (by omega) (by omega)).mono ?_
      rintro e w2 ⟨k, rfl, _, _, hR2, hO2⟩
      have hrw : ∀ b ∈ [r], b < w.heap.size := fun b hb => by have := List.mem_singleton.1 hb; omega
      have hrl2 := hR2.lt
      have HW2 := Lib.hid (ownsRow_only HW.out hO2 hrw); have HR2 := Lib.hid hR2; have HO2 := Lib.hid (HO1.out.trans hO2)
      clear hR2 hO2 hrw HV HW HR1 HO1 v0 c0
      by_cases hk0 : k = 0
      · have ek : ((k : Int) == 0) = true := by rw [hk0]; rfl
        clear hk0
        go_wp2_with (fail)
        go_at_call 60
        refine (num_any (IntIn 0 256) IntIn.int _ r _ _ 0 2 2 (HR2.out.alloc _) (by omega) (by omega) (by omega) (rowQ_newAt _ _ _ rfl hrl2 2 (by simp) numsOut)).mono ?_
        rintro e w3 ⟨_, rfl, ⟨z, rfl, hz1', hz2'⟩, hR3, hO3⟩
        have hrw : ∀ b ∈ [r], b < w.heap.size := fun b hb => by have := List.mem_singleton.1 hb; omega
        have hO3' : Only [r] w2 w3 := ((Only.refl [r] w2).alloc _).trans hO3
        have HW3 := Lib.hid (ownsRow_only HW2.out hO3' hrw); have HR3 := Lib.hid hR3; have HO3 := Lib.hid (HO2.out.trans hO3')
        have hs30 := HO3.out.size
        clear hR3 hO3 hO3' hrw HW2 HR2 HO2
        go_wp2_with (at_builtin; refine wpList_append_lies _ (by rfl) _ _ 26 (by rfl) w.heap.size 3 i0 (.int .i64 0) 1 8 Tryd.underlying26 hi hz0 hz1 hz2 (by rfl) (by decide) _ j (ints zs) (by rfl) (HW3.out.alloc _) ⟨w3.heap.size, 0, none⟩ 1 1 [.int .i64 z] (by rfl) rfl (World.news_of_block (heap_alloc_new _ _)) (by simp [Value.oneCell']) (by decide) (by unfold maxLen; omega) (by omega) (by simp; omega) (w3.heap.size + 1) (by simp) ?_; intro g4 oc4 w4 hown4 hgrow4 hat4 hlt4; have HW4 := Lib.hid hown4; have HG4 := Lib.hid hgrow4; have HA4 := Lib.hid hat4; clear hown4 hgrow4 hat4)
        go_ret
        have hbase : ∀ k, Value.ownBlock (.slice (some ⟨go, 0, none⟩) j oc) = some k → w.heap.size ≤ k := fun k hk => (World.ownsRow.lt HW3.out k hk).1
        refine ⟨g4, j + 1, oc4, zs ++ [z], rfl, ?_, by simp [HZL.out], by omega, ((HR3.out.alloc _).grown HG4.out (fun k hk => by have := hbase k hk; omega)).mono (by omega), (HO3.out.alloc _).grown HG4.out hbase⟩
        rw [show ints (zs ++ [z]) = ints zs ++ [.int .i64 z] by simp [ints]]
        exact HW4.out
      · have ek : ((k : Int) == 0) = false := by simp; omega
        clear hk0
        go_wp2_with (fail)
        go_ret
        exact ⟨go, j, oc, zs, rfl, HW2.out, HZL.out, by omega, HR2.out.mono (by omega), HO2.out⟩

theorem numsSteps : ∀ x ∈ (#[Value.int .i64 300, .int .i64 300, .int .i64 50, .int .i64 8, .int .i64 3, .int .i64 1, .int .i64 0, .int .i64 2000, .int .i64 (-1), .int .i64 200001] : Array Value).toList, IntIn (-1) 200001 x := by
  simp only [List.mem_cons, List.not_mem_nil, or_false, forall_eq_or_imp, forall_eq]
  exact ⟨⟨_, rfl, by decide, by decide⟩, ⟨_, rfl, by decide, by decide⟩, ⟨_, rfl, by decide, by decide⟩, ⟨_, rfl, by decide, by decide⟩, ⟨_, rfl, by decide, by decide⟩, ⟨_, rfl, by decide, by decide⟩, ⟨_, rfl, by decide, by decide⟩, ⟨_, rfl, by decide, by decide⟩, ⟨_, rfl, by decide, by decide⟩, ⟨_, rfl, by decide, by decide⟩⟩

/-- a drawn program, its numbers, a count of steps -/
structure DrawnRun (B : Nat) (w : World) (w' : World) (g n c go m oc : Nat) : Prop where
  fns : GFns B w' (.slice (some ⟨g, 0, none⟩) n c) n
  n1 : 1 ≤ n
  n3 : n ≤ 3
  inn : ∃ zs, w'.ownsRow B 3 1 (.slice (some ⟨go, 0, none⟩) m oc) m (ints zs) ∧ zs.length = m
  m5 : m ≤ 5
  below : Below w.heap.size w w'
theorem DrawnRun.reads {B : Nat} {w w' : World} {g n c go m oc : Nat} (h : DrawnRun B w w' g n c go m oc) :
    ∃ fs zs, MfsAt w' (.slice (some ⟨g, 0, none⟩) n c) fs ∧ n = fs.length ∧ MfsLe fs ∧ InSrc w' go 0 m oc zs := by
  obtain ⟨fs, hfs, hfl, hfb⟩ := h.fns.at
  obtain ⟨zs, hI, hz⟩ := h.inn
  have h5 := h.m5
  have h3 := h.n3
  refine ⟨fs, zs, hfs, hfl.symm, ⟨by omega, fun f hf => by have := (hfb f hf).1; omega⟩, hz, (ownsRow_lt hI).2.2, by omega, fun i hi => ?_⟩
  rw [Nat.zero_add, hI.cellAt i (by omega)]
  simp [ints, List.getD_eq_getElem?_getD, List.getElem?_eq_getElem (show i < zs.length by omega)]
def DrawRunPost (w : World) (e : Ending) (w' : World) : Prop :=
  ∃ g n c go m oc st, e = .returned (.tuple #[.agg #[.slice (some ⟨g, 0, none⟩) n c], .slice (some ⟨go, 0, none⟩) m oc, .int .i64 st]) ∧ DrawnRun w.heap.size w w' g n c go m oc ∧ -1 ≤ st ∧ st ≤ 200001

set_option maxHeartbeats 4000000 in
theorem drawRunMach_any (w : World) (v : Value) (xs : List Int) (hm : ∀ a n cap, v = .slice a n cap → cap ≤ 9223372036854775807) (hb : Bytes w w.heap.size v xs) :
    Calls Tryd.prog 22 #[v] w (DrawRunPost w) := by
  have HB := Lib.hid hb
  have HM := Lib.hid hm
  clear hb hm
  go_enter Tryd.func22, Tryd.ntmps22
  go_wp2_with (fail)
  go_at_call 57
  have hbo : Bytes (w.alloc (.cells #[.slice none 0 0] 25)) (w.alloc (.cells #[.slice none 0 0] 25)).heap.size v xs := by
    have h := HB.out.only ((Only.refl [w.heap.size] w).alloc (.cells #[.slice none 0 0] 25))
    obtain ⟨h1, h2⟩ := h
    refine ⟨h1, ?_⟩
    rcases h2 with h2 | ⟨b, off, cap, hv, hc, hb, hs, hcell⟩
    · exact .inl h2
    · exact .inr ⟨b, off, cap, hv, hc, by simp; omega, hs, hcell⟩
  refine (openRd _ v xs HM.out hbo).mono ?_
  rintro e w1 ⟨r, rfl, hR1, hB1, hr1⟩
  have hr1' : w.heap.size + 1 ≤ r := by simpa using hr1
  have hA1 : Blk w1 w.heap.size [.slice none 0 0] := (Blk.new w #[.slice none 0 0] 25).below hB1
  have hrl1 := hR1.lt
  have HR1 := Lib.hid hR1; have HA1 := Lib.hid hA1; have HB1 := Lib.hid ((below1 w (.cells #[.slice none 0 0] 25)).trans (hB1.mono (by simp)))
  clear hR1 hA1 hB1 hbo HB HM hr1
  go_wp2_with (fail)
  go_at_call 58
  refine (l22Bent_any w1 r 0 HR1.out (by omega)).mono ?_
  rintro e w2 ⟨g, n, c, rfl, hG, hn1, hn3, hR2, hO2⟩
  have hgb : w1.heap.size ≤ g ∧ g < w2.heap.size := by
    obtain ⟨ys, ho, _⟩ := hG
    exact World.ownsRow.lt ho g rfl
  have hA2 := hO2.blk HA1.out (by simp; omega)
  have HG2 := Lib.hid hG; have HR2 := Lib.hid hR2; have HA2 := Lib.hid hA2; have HO2 := Lib.hid hO2
  clear hG hR2 hA2 hO2 HR1 HA1
  go_wp2_with (fail)
  generalize hw3 : w2.alloc _ = w3
  have hb3 : Below w2.heap.size w2 w3 := by rw [← hw3]; exact below1 _ _
  have hM3 : Blk w3 w2.heap.size [.slice (some ⟨g, 0, none⟩) n c] := by rw [← hw3]; exact Blk.new _ _ _
  have hs3 : w3.heap.size = w2.heap.size + 1 := by rw [← hw3]; simp
  have hrw : ∀ b ∈ [r], b < w1.heap.size := fun b hb => by have := List.mem_singleton.1 hb; omega
  have hG3 := HG2.out.only (Only.of_below hb3 [r]) hrw
  obtain ⟨p, s, ia, il, ic, hc0, _, _, _, _, _, hp4⟩ := hG3.cells (n - 1) (by omega)
  have HM3 := Lib.hid hM3; have HG3 := Lib.hid hG3; have HR3 := Lib.hid (HR2.out.below hb3); have HA3 := Lib.hid (HA2.out.below hb3); have HO3 := Lib.hid (HO2.out.trans (Only.of_below hb3 _))
  have HIN : Hid (∀ W, Below w3.heap.size w3 W → Calls Tryd.prog 59 #[.pointer (some ⟨r, 0, none⟩), .agg #[.slice (some ⟨g, 0, none⟩) n c]] W (InPost r (2010 + 20) W)) := Lib.hid fun W hW => l22In_any W r _ g n c p (((HR2.out.below hb3).below hW).mono (by omega)) (by omega) hn1 hn3 (by rw [hW.cell (p := ⟨g, (n - 1) * 3, none⟩) (World.block_lt_of_cell? _ _ hc0)]; exact hc0) hp4 (by omega)
  have m0 := hM3.cell1
  have hrl3 : r < w3.heap.size := by omega
  have hne2 : w2.heap.size ≠ w.heap.size := by omega
  have hs3' : w2.heap.size < w3.heap.size := by omega
  clear hs3
  have hne3 : w.heap.size ≠ w2.heap.size := by omega
  have HRW := Lib.hid hrw
  clear hw3 hb3 hM3 hG3 hc0 hp4 HG2 HR2 HA2 HO2 hrw
  go_region_held3 (fun W => W.cell? ⟨w2.heap.size, 0, none⟩ = some (.slice (some ⟨g, 0, none⟩) n c)) (first | assumption | go_keep | (rw [Only.cell (by assumption) (by simp only []; simp; omega) (by simp; omega)]; assumption)) (first | (go_at_call 59; refine (HIN.out _ (by first | exact (below1 _ _).drew | exact (Below.refl _ _).drew | exact ((Below.refl _ _).drew.alloc (by simp) _))).mono ?_; rintro e w4 ⟨go, m, oc, zs, rfl, hin, hzl, hm5, hR4, hO4⟩) | (go_at_call 60; refine (num_any (IntIn (-1) 200001) IntIn.int _ r (2010 + 20) _ 0 10 10 (by first | exact hR4 | exact hR4.alloc _) (by omega) (by omega) (by omega) (by first | exact rowQ_newAt _ _ _ rfl hR4.lt 10 (by simp) numsSteps | exact rowQ_only (rowQ_newAt (w := w3) _ _ _ rfl hrl3 10 (by simp) numsSteps) (((Only.refl [r] _).drew).trans hO4))).mono ?_; rintro e w5 ⟨_, rfl, ⟨st, rfl, hst1, hst2⟩, hR5, hO5⟩; have hO34 : Only [r] w3 w4 := (by first | exact ((Only.refl _ _).drew.alloc _).trans hO4 | exact ((Only.refl _ _).drew).trans hO4 | exact ((Only.refl _ _).alloc _).drew.trans hO4); have hO45 : Only [r] w4 w5 := (by first | exact hO5 | exact ((Only.refl _ _).alloc _).trans hO5); have hA5 : Blk w5 w.heap.size [.slice none 0 0] := (hO34.trans hO45).blk HA3.out (by simp; omega); have a5 := hA5.cell1; have af5 := hA5.frozen 0; have m5 := ((hO34.trans hO45).blk HM3.out (by simp; omega)).cell1))
  all_goals
    have hin' : w4.ownsRow w3.heap.size 3 1 (.slice (some ⟨go, 0, none⟩) m oc) m (ints zs) := ownsRow_mono hin (by simp)
    have hin5 := ownsRow_only hin' hO45 (fun b hb => by have := List.mem_singleton.1 hb; omega)
    have HI5 := Lib.hid hin5
    have HG5 := Lib.hid (HG3.out.only (hO34.trans hO45) HRW.out)
    have HO5 := Lib.hid (HO3.out.trans (hO34.trans hO45))
    have HZL := Lib.hid hzl
    clear m5 hin hin' hin5 hA5 hO34 hO45 hO4 hO5 hR4 hR5 hzl HIN m0
    go_wp2_with (fail)
    refine bodyPost_ret (v := .tuple #[.agg #[.slice (some ⟨g, 0, none⟩) n c], .slice (some ⟨go, 0, none⟩) m oc, .int .i64 st]) (by simp [results, Tryd.results22, go_sem, a5]) rfl ?_
    have hG := HG5.out.only ((Only.refl [w.heap.size] w5).setCell (p := ⟨w.heap.size, 0, none⟩) (by simp) (.slice (some ⟨g, 0, none⟩) n c)) (fun b hb => by have := List.mem_singleton.1 hb; omega)
    have hI := ownsRow_only HI5.out ((Only.refl [w.heap.size] w5).setCell (p := ⟨w.heap.size, 0, none⟩) (by simp) (.slice (some ⟨g, 0, none⟩) n c)) (fun b hb => by have := List.mem_singleton.1 hb; omega)
    refine ⟨g, n, c, go, m, oc, st, rfl, ⟨hG.mono (by omega), hn1, hn3, ⟨zs, ownsRow_mono hI (by omega), HZL.out⟩, hm5, ?_⟩, hst1, hst2⟩
    · exact ((HO5.out.below (B := w.heap.size) HB1.out HB1.out.size (fun b hb => by have := List.mem_singleton.1 hb; omega))).setCell (p := ⟨w.heap.size, 0, none⟩) (Nat.le_refl _) _

def DrawStepsPost (w : World) (e : Ending) (w' : World) : Prop :=
  ∃ g n c go m oc, e = .returned (.tuple #[.agg #[.slice (some ⟨g, 0, none⟩) n c], .slice (some ⟨go, 0, none⟩) m oc]) ∧ DrawnRun w.heap.size w w' g n c go m oc

theorem bytes_alloc {w : World} {v : Value} {xs : List Int} (hb : Bytes w w.heap.size v xs) (o : Obj) : Bytes (w.alloc o) (w.alloc o).heap.size v xs := by
  have h := hb.only ((Only.refl [w.heap.size] w).alloc o)
  obtain ⟨h1, h2⟩ := h
  refine ⟨h1, ?_⟩
  rcases h2 with h2 | ⟨b, off, cap, hv, hc, hb, hs, hcell⟩
  · exact .inl h2
  · exact .inr ⟨b, off, cap, hv, hc, by simp; omega, hs, hcell⟩

set_option maxHeartbeats 2000000 in
theorem drawMachSteps_any (w : World) (v : Value) (xs : List Int) (hm : ∀ a n cap, v = .slice a n cap → cap ≤ 9223372036854775807) (hb : Bytes w w.heap.size v xs) :
    Calls Tryd.prog 12 #[v] w (DrawStepsPost w) := by
  have HD := Lib.hid (drawRunMach_any (w.alloc (.cells #[.slice none 0 0] 25)) v xs hm (bytes_alloc hb _))
  clear hm hb
  go_enter Tryd.func12, Tryd.ntmps12
  go_wp2_with (fail)
  go_at_call 22
  refine HD.out.mono ?_
  rintro e w2 ⟨g, n, c, go, m, oc, st, rfl, hD, _, _⟩
  have hA : Blk w2 w.heap.size [.slice none 0 0] := (Blk.new w #[.slice none 0 0] 25).below hD.below
  have a0 := hA.cell1
  have af := hA.frozen 0
  have hsz := hA.lt
  have HDD := Lib.hid hD
  clear hA hD HD
  go_wp2_with (fail)
  refine bodyPost_ret (v := .tuple #[.agg #[.slice (some ⟨g, 0, none⟩) n c], .slice (some ⟨go, 0, none⟩) m oc]) (by simp [results, Tryd.results12, go_sem, hsz, a0]) rfl ?_
  have hD := HDD.out
  have hO : Only [w.heap.size] w2 ((w2.setCell ⟨w.heap.size, 0, none⟩ (.slice (some ⟨g, 0, none⟩) n c)).alloc (.cells #[.slice (some ⟨g, 0, none⟩) n c] 25)) := ((Only.refl _ w2).setCell (by simp) _).alloc _
  have hw : ∀ b ∈ [w.heap.size], b < (w.alloc (.cells #[.slice none 0 0] 25)).heap.size := fun b hb => by have := List.mem_singleton.1 hb; simp; omega
  obtain ⟨zs, hI, hz⟩ := hD.inn
  refine ⟨g, n, c, go, m, oc, rfl, (hD.fns.only hO hw).mono (by simp), hD.n1, hD.n3, ⟨zs, ownsRow_mono (ownsRow_only hI hO hw) (by simp), hz⟩, hD.m5, ?_⟩
  exact ((((below1 w (.cells #[.slice none 0 0] 25)).trans (hD.below.mono (by simp))).setCell (p := ⟨w.heap.size, 0, none⟩) (Nat.le_refl _) _).alloc (by simp; omega) _)

end Go.Proofs.YtbdbmmdnidonjaaDoor
