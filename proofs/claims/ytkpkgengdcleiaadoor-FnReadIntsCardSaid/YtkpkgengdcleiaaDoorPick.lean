/- pick, of, num, word: the reader's methods. No conditions. -/
import Derived.Test.YtkpkgengdcleiaaDoorRd
namespace Go.Proofs.YtkpkgengdcleiaaDoor
open Go.RowKit

theorem heap_setCell_same (w : World) (r i : Nat) (u : Value) (c : Array Value) (t : TypeId) (f : Nat × Nat) (h : w.heap[r]? = some (.cells c t f)) :
    (w.setCell ⟨r, i, none⟩ u).heap[r]? = some (.cells (c.setIfInBounds i u) t f) := by
  simp [World.setCell, Array.getElem?_modify, h]

theorem cell_of_heap {w : World} {r i : Nat} {c : Array Value} {t : TypeId} {f : Nat × Nat} (h : w.heap[r]? = some (.cells c t f)) {v : Value} (hv : c[i]? = some v) : w.cell? ⟨r, i, none⟩ = some v := by
  simp [World.cell?, h, hv]
theorem frozen_of_heap {w : World} {r i : Nat} {c : Array Value} {t : TypeId} (h : w.heap[r]? = some (.cells c t (0, 0))) : w.frozen? ⟨r, i, none⟩ = false := by
  simp [World.frozen?, h]

/-- the reader behind a pick -/
theorem rd_step {w : World} {r N p : Nat} {v : Value} {xs : List Int} (h : w.heap[r]? = some (.cells #[v, .int .i64 p] 61 (0, 0))) (hp : p ≤ N) (hl : xs.length ≤ 2000) (hb : Bytes w r v xs) :
    Rd (w.setCell ⟨r, 1, none⟩ (.int .i64 ((p : Int) + 1))) r (N + 1) ∧ Only [r] w (w.setCell ⟨r, 1, none⟩ (.int .i64 ((p : Int) + 1))) := by
  have ho : Only [r] w (w.setCell ⟨r, 1, none⟩ (.int .i64 ((p : Int) + 1))) := (Only.refl _ _).setCell (by simp) _
  exact ⟨⟨v, xs, p + 1, by rw [heap_setCell_same _ _ _ _ _ _ _ h]; simp, by omega, hl, hb.only ho⟩, ho⟩

set_option maxHeartbeats 400000 in
theorem pick_none (w : World) (r N : Nat) (n : Int) (hR : Rd w r N) (hN : N < 1099511627776) (hn : n < 1) :
    Calls Tryd.prog 26 #[.pointer (some ⟨r, 0, none⟩), .int .i64 n] w (PickPost r N n w) := by
  obtain ⟨v, xs, p, h, hp, hl, hb⟩ := hR
  have hst := rd_step h hp hl hb
  have c1 := cell_of_heap (i := 1) h rfl
  have c0 := cell_of_heap (i := 0) h rfl
  have f1 := frozen_of_heap (i := 1) h
  have Hst := Lib.hid hst
  clear h hst hb
  go_enter Tryd.func26, Tryd.ntmps26
  go_wp2
  go_ret
  exact ⟨0, rfl, by omega, fun _ => rfl, Hst.out.1, Hst.out.2⟩

set_option maxHeartbeats 400000 in
theorem pick_empty (w : World) (r N : Nat) (n : Int) (v : Value) (p : Nat) (h : w.heap[r]? = some (.cells #[v, .int .i64 p] 61 (0, 0))) (hp : p ≤ N) (hb : Bytes w r v []) (hN : N < 1099511627776) (hn : ¬ n < 1) :
    Calls Tryd.prog 26 #[.pointer (some ⟨r, 0, none⟩), .int .i64 n] w (PickPost r N n w) := by
  have hst := rd_step h hp (by simp) hb
  have c1 := cell_of_heap (i := 1) h rfl
  have c0 := cell_of_heap (i := 0) h rfl
  have f1 := frozen_of_heap (i := 1) h
  have Hst := Lib.hid hst
  clear h hst
  rcases hb.2 with ⟨_, a, cap, rfl⟩ | ⟨b, off, cap, rfl, _⟩
  all_goals
    clear hb
    go_enter Tryd.func26, Tryd.ntmps26
    go_wp2
    go_ret
    exact ⟨0, rfl, by omega, fun _ => rfl, Hst.out.1, Hst.out.2⟩

set_option maxHeartbeats 800000 in
theorem pick_plain (w : World) (r N : Nat) (n : Int) (xs : List Int) (b off cap p : Nat) (h : w.heap[r]? = some (.cells #[.slice (some ⟨b, off, none⟩) xs.length cap, .int .i64 p] 61 (0, 0))) (hp : p ≤ N) (hl : xs.length ≤ 2000)
    (hb : Bytes w r (.slice (some ⟨b, off, none⟩) xs.length cap) xs) (hN : N < 1099511627776) (hn : ¬ n < 1) (hnm : n ≤ 9223372036854775807) (hlt : p < xs.length) :
    Calls Tryd.prog 26 #[.pointer (some ⟨r, 0, none⟩), .int .i64 n] w (PickPost r N n w) := by
  have hst := rd_step h hp hl hb
  have c1 : w.cell? ⟨r, 1, none⟩ = some (.int .i64 p) := cell_of_heap h rfl
  have c0 : w.cell? ⟨r, 0, none⟩ = some (.slice (some ⟨b, off, none⟩) xs.length cap) := cell_of_heap h rfl
  have f1 := frozen_of_heap (i := 1) h
  obtain ⟨hx, hb⟩ := hb
  have hxp := hx p hlt
  have hcell : w.cell? ⟨b, off + p, none⟩ = some (.int .u8 (xs.getD p 0)) ∧ b ≠ r := by
    rcases hb with ⟨h, _⟩ | ⟨b', off', cap', hv, _, hb, _, hc⟩
    · subst h; simp at *
    · injection hv with hv _ _
      injection hv with hv
      injection hv with h1 h2
      subst h1; subst h2
      exact ⟨hc p hlt, by omega⟩
  obtain ⟨hcell, hbr⟩ := hcell
  generalize xs.getD p 0 = x at *
  have Hst := Lib.hid hst
  clear h hst hb hx
  have hnz : (n == 0) = false := by simp; omega
  have hlz : ((xs.length : Int) == 0) = false := by simp; intro h; subst h; simp at hlt
  have hlz' : (xs.length == 0) = false := by simp; intro h; subst h; simp at hlt
  generalize xs.length = len at *
  go_enter Tryd.func26, Tryd.ntmps26
  go_wp2
  go_ret
  exact ⟨(x % n).toNat, by rw [Int.toNat_of_nonneg (Int.emod_nonneg _ (by omega))]; rfl, fun _ => by rw [Int.toNat_of_nonneg (Int.emod_nonneg _ (by omega))]; exact Int.emod_lt_of_pos _ (by omega), by omega, Hst.out.1, Hst.out.2⟩

theorem xor_i64 (a b : Nat) (ha : a < 9223372036854775808) (hb : b < 9223372036854775808) : bits .xor .i64 (a : Int) (b : Int) = ((a ^^^ b : Nat) : Int) := by
  have hx : a ^^^ b < 2 ^ 63 := Nat.xor_lt_two_pow (by omega) (by omega)
  have h1 : (BitVec.ofInt 64 (a : Int)).toNat = a := by
    rw [BitVec.ofInt_natCast, BitVec.toNat_ofNat]; exact Nat.mod_eq_of_lt (by omega)
  have h2 : (BitVec.ofInt 64 (b : Int)).toNat = b := by
    rw [BitVec.ofInt_natCast, BitVec.toNat_ofNat]; exact Nat.mod_eq_of_lt (by omega)
  show IntKind.i64.wrap ((BitVec.ofInt 64 (a : Int) ^^^ BitVec.ofInt 64 (b : Int)).toNat : Int) = _
  rw [BitVec.toNat_xor, h1, h2]
  exact IntWalk.i64_in _ (by omega)
theorem xor_nonneg (z : Int) (h : 0 ≤ z) (h2 : z < 4611686018427387904) : 0 ≤ bits .xor .i64 z (z / 64) := by
  have e := xor_i64 z.toNat (z / 64).toNat (by omega) (by omega)
  rw [Int.toNat_of_nonneg h, Int.toNat_of_nonneg (by omega)] at e
  rw [e]; exact Int.natCast_nonneg _

set_option maxHeartbeats 1600000 in
set_option maxRecDepth 100000 in
theorem pick_mix (w : World) (r N : Nat) (n : Int) (xs : List Int) (b off cap p : Nat) (h : w.heap[r]? = some (.cells #[.slice (some ⟨b, off, none⟩) xs.length cap, .int .i64 p] 61 (0, 0))) (hp : p ≤ N) (hl : xs.length ≤ 2000)
    (hb : Bytes w r (.slice (some ⟨b, off, none⟩) xs.length cap) xs) (hN : N < 1099511627776) (hn : ¬ n < 1) (hnm : n ≤ 9223372036854775807) (hge : xs.length ≤ p) (hpos : 0 < xs.length) :
    Calls Tryd.prog 26 #[.pointer (some ⟨r, 0, none⟩), .int .i64 n] w (PickPost r N n w) := by
  have hst := rd_step h hp hl hb
  have c1 : w.cell? ⟨r, 1, none⟩ = some (.int .i64 p) := cell_of_heap h rfl
  have c0 : w.cell? ⟨r, 0, none⟩ = some (.slice (some ⟨b, off, none⟩) xs.length cap) := cell_of_heap h rfl
  have f1 := frozen_of_heap (i := 1) h
  obtain ⟨hx, hb⟩ := hb
  have hcells : (∀ i, i < xs.length → w.cell? ⟨b, off + i, none⟩ = some (.int .u8 (xs.getD i 0))) ∧ b ≠ r := by
    rcases hb with ⟨h, _⟩ | ⟨b', off', cap', hv, _, hb, _, hc⟩
    · subst h; simp at *
    · injection hv with hv _ _
      injection hv with hv
      injection hv with h1 h2
      subst h1; subst h2
      exact ⟨hc, by omega⟩
  obtain ⟨hcells, hbr⟩ := hcells
  have i1 : p % xs.length < xs.length := Nat.mod_lt _ hpos
  have i2 : (p * 7 + 3) % xs.length < xs.length := Nat.mod_lt _ hpos
  have k1 := hcells _ i1
  have k2 := hcells _ i2
  have b1 := hx _ i1
  have b2 := hx _ i2
  have q1 : p / xs.length ≤ p := Nat.div_le_self _ _
  clear hcells hx hb
  have Hst := Lib.hid hst
  clear h hst
  generalize xs.getD (p % xs.length) 0 = x at *
  generalize xs.getD ((p * 7 + 3) % xs.length) 0 = y at *
  generalize xs.length = len at *
  obtain ⟨i, hi⟩ : ∃ i, i = p % len := ⟨_, rfl⟩
  obtain ⟨j, hj⟩ : ∃ j, j = (p * 7 + 3) % len := ⟨_, rfl⟩
  obtain ⟨q, hq⟩ : ∃ q, q = p / len := ⟨_, rfl⟩
  rw [← hi] at k1 i1
  rw [← hj] at k2 i2
  rw [← hq] at q1
  have e1 : (p : Int).tmod len = i := by rw [hi]; exact Int.tmod_eq_emod_of_nonneg (by omega)
  have e2 : IntKind.i64.wrap ((p : Int) * 7) = p * 7 := IntWalk.i64_in _ (by omega)
  have e3 : IntKind.i64.wrap ((p : Int) * 7 + 3) = p * 7 + 3 := IntWalk.i64_in _ (by omega)
  have e4 : ((p : Int) * 7 + 3).tmod len = j := by rw [hj]; rw [Int.tmod_eq_emod_of_nonneg (by omega)]; simp
  have e5 : (p : Int).tdiv len = q := by rw [hq]; rw [Int.tdiv_eq_ediv_of_nonneg (by omega)]; simp
  have e6 : IntKind.i64.wrap (x * 131) = x * 131 := IntWalk.i64_in _ (by omega)
  have e7 : IntKind.i64.wrap (y * 1117) = y * 1117 := IntWalk.i64_in _ (by omega)
  have e8 : IntKind.i64.wrap (x * 131 + y * 1117) = x * 131 + y * 1117 := IntWalk.i64_in _ (by omega)
  have e9 : IntKind.i64.wrap ((p : Int) * 29) = p * 29 := IntWalk.i64_in _ (by omega)
  have e10 : IntKind.i64.wrap (x * 131 + y * 1117 + p * 29) = x * 131 + y * 1117 + p * 29 := IntWalk.i64_in _ (by omega)
  have e11 : IntKind.i64.wrap ((q : Int) * 53) = q * 53 := IntWalk.i64_in _ (by omega)
  obtain ⟨z, hz⟩ : ∃ z : Int, z = x * 131 + y * 1117 + p * 29 + q * 53 := ⟨_, rfl⟩
  have z1 : 0 ≤ z := by omega
  have z2 : z < 4611686018427387904 := by omega
  have e12 : IntKind.i64.wrap (x * 131 + y * 1117 + p * 29 + q * 53) = z := by rw [hz]; exact IntWalk.i64_in _ (by omega)
  clear hi hj hq hz
  have hnz : (n == 0) = false := by simp; omega
  have hlz : ((len : Int) == 0) = false := by simp; omega
  have hlz' : (len == 0) = false := by simp; omega
  go_enter Tryd.func26, Tryd.ntmps26
  go_wp2
  go_quiet (fail)
  clear e1 e2 e3 e4 e5 e6 e7 e8 e9 e10 e11 e12
  go_wp2
  go_ret
  have hz0 := xor_nonneg z z1 z2
  have m0 : 0 ≤ (bits .xor .i64 z (z / 64)).tmod n := Int.tmod_nonneg _ hz0
  have m1 : (bits .xor .i64 z (z / 64)).tmod n < n := Int.tmod_lt_of_pos _ (by omega)
  exact ⟨((bits .xor .i64 z (z / 64)).tmod n).toNat, by rw [Int.toNat_of_nonneg m0]; rfl, fun _ => by rw [Int.toNat_of_nonneg m0]; exact m1, by omega, Hst.out.1.drewN _, Hst.out.2.drewN _⟩

/-- pick: a number below n, or 0 -/
theorem pick (w : World) (r N : Nat) (n : Int) (hR : Rd w r N) (hN : N < 1099511627776) (hnm : n ≤ 9223372036854775807) :
    Calls Tryd.prog 26 #[.pointer (some ⟨r, 0, none⟩), .int .i64 n] w (PickPost r N n w) := by
  by_cases hn : n < 1
  · exact pick_none w r N n hR hN hn
  · obtain ⟨v, xs, p, h, hp, hl, hb⟩ := hR
    by_cases hx : xs = []
    · subst hx
      exact pick_empty w r N n v p h hp hb hN hn
    · have hpos : 0 < xs.length := List.length_pos_iff.2 hx
      rcases hb.2 with ⟨h0, _⟩ | ⟨b, off, cap, rfl, _⟩
      · exact absurd h0 hx
      · by_cases hlt : p < xs.length
        · exact pick_plain w r N n xs b off cap p h hp hl hb hN hn hnm hlt
        · exact pick_mix w r N n xs b off cap p h hp hl hb hN hn hnm (by omega) hpos

def OpenPost (w : World) (e : Ending) (w' : World) : Prop :=
  ∃ r, e = .returned (.pointer (some ⟨r, 0, none⟩)) ∧ Rd w' r 0 ∧ Below w.heap.size w w' ∧ w.heap.size ≤ r

theorem openPost_mk (w : World) (v : Value) (xs : List Int) (hl : xs.length ≤ 2000) (hb : Bytes w w.heap.size v xs) : Rd (w.alloc (.cells #[v, .int .i64 0] 61 (0, 0))) w.heap.size 0 :=
  ⟨v, xs, 0, by (show (w.heap.push _)[w.heap.size]? = _); simp, Nat.le_refl _, hl, hb.only (Only.of_below ((Below.refl _ _).alloc (Nat.le_refl _) _) _)⟩

theorem Bytes.take {w : World} {r : Nat} {b off : Nat} {cap : Nat} {xs : List Int} (h : Bytes w r (.slice (some ⟨b, off, none⟩) xs.length cap) xs) (n : Nat) (hn : n ≤ xs.length) :
    Bytes w r (.slice (some ⟨b, off, none⟩) n cap) (xs.take n) := by
  obtain ⟨hx, h⟩ := h
  have hlen : (xs.take n).length = n := by simp; omega
  have hget : ∀ i, i < n → (xs.take n).getD i 0 = xs.getD i 0 := fun i hi => by
    simp [List.getD_eq_getElem?_getD, hi]
  refine ⟨fun i hi => by rw [hlen] at hi; rw [hget i hi]; exact hx i (by omega), ?_⟩
  rcases h with ⟨h, _⟩ | ⟨b', off', cap', hv, hc, hb, hs, hcell⟩
  · subst h
    obtain rfl : n = 0 := by simpa using hn
    exact .inl ⟨rfl, _, _, rfl⟩
  · injection hv with hv _ hcap
    injection hv with hv
    injection hv with h1 h2
    subst h1; subst h2; subst hcap
    refine .inr ⟨b, off, cap, by rw [hlen], by omega, hb, hs, fun i hi => ?_⟩
    rw [hlen] at hi
    rw [hget i hi]
    exact hcell i (by omega)

set_option maxHeartbeats 400000 in
theorem open_short (w : World) (a : Option Addr) (cap : Nat) (xs : List Int) (n : Nat) (hn : n = xs.length) (hl : n ≤ 2000) (hb : Bytes w w.heap.size (.slice a n cap) xs) :
    Calls Tryd.prog 25 #[.slice a n cap] w (OpenPost w) := by
  have hmk := openPost_mk w _ xs (by omega) hb
  have Hmk := Lib.hid hmk
  clear hmk hb hn
  go_enter Tryd.func25, Tryd.ntmps25
  go_wp2
  go_ret
  exact ⟨_, rfl, Hmk.out, (Below.refl _ _).alloc (Nat.le_refl _) _, Nat.le_refl _⟩

set_option maxHeartbeats 400000 in
theorem open_long (w : World) (b off n cap : Nat) (xs : List Int) (hn : n = xs.length) (hl : 2000 < n) (hcap : n ≤ cap) (hm : cap ≤ 9223372036854775807) (hb : Bytes w w.heap.size (.slice (some ⟨b, off, none⟩) n cap) xs) :
    Calls Tryd.prog 25 #[.slice (some ⟨b, off, none⟩) n cap] w (OpenPost w) := by
  subst hn
  have hmk := openPost_mk w _ _ (by simp; omega) (hb.take 2000 (by omega))
  have Hmk := Lib.hid hmk
  clear hmk hb
  generalize xs.length = n at *
  go_enter Tryd.func25, Tryd.ntmps25
  go_wp2
  go_ret
  exact ⟨_, rfl, Hmk.out, (Below.refl _ _).alloc (Nat.le_refl _) _, Nat.le_refl _⟩

theorem openRd (w : World) (v : Value) (xs : List Int) (hm : ∀ a n cap, v = .slice a n cap → cap ≤ 9223372036854775807) (hb : Bytes w w.heap.size v xs) :
    Calls Tryd.prog 25 #[v] w (OpenPost w) := by
  rcases hb.2 with ⟨rfl, a, cap, rfl⟩ | ⟨b, off, cap, rfl, hc, _⟩
  · exact open_short w a cap [] 0 rfl (by omega) hb
  · by_cases hl : xs.length ≤ 2000
    · exact open_short w _ cap xs _ rfl hl hb
    · exact open_long w b off _ cap xs rfl (by omega) hc (hm _ _ _ rfl) hb

/-- a row of n cells at b, off (not block r) each of which is a value that meets Q -/
def RowQ (Q : Value → Prop) (w : World) (r b off n : Nat) : Prop :=
  b ≠ r ∧ b < w.heap.size ∧ ∀ i, i < n → ∃ x, w.cell? ⟨b, off + i, none⟩ = some x ∧ Q x

def OfPost (Q : Value → Prop) (r N : Nat) (w : World) (e : Ending) (w' : World) : Prop :=
  ∃ x, e = .returned x ∧ Q x ∧ Rd w' r (N + 1) ∧ Only [r] w w'

set_option maxHeartbeats 400000 in
theorem of_any (Q : Value → Prop) (hQ : ∀ x, Q x → ∃ s, x = .string s) (w : World) (r N b off n cap : Nat) (hR : Rd w r N) (hN : N < 1099511627776) (hn : 0 < n) (hn2 : n ≤ 9223372036854775807) (hrow : RowQ Q w r b off n) :
    Calls Tryd.prog 28 #[.pointer (some ⟨r, 0, none⟩), .slice (some ⟨b, off, none⟩) n cap] w (OfPost Q r N w) := by
  have Hrow := Lib.hid hrow
  have HQ := Lib.hid hQ
  clear hrow hQ
  go_enter Tryd.func28, Tryd.ntmps28
  go_wp2_with (fail)
  refine (pick w r N _ hR hN (by omega)).mono ?_
  rintro e w' ⟨k, rfl, hk, _, hR', hO⟩
  have hk' : k < n := by have := hk (by omega); omega
  obtain ⟨hb, hs, hc⟩ := Hrow.out
  obtain ⟨x, hx, hq⟩ := hc k hk'
  obtain ⟨s, rfl⟩ := HQ.out x hq
  rw [← hO.cell (p := ⟨b, off + k, none⟩) hs (by simpa using hb)] at hx
  have Hq := Lib.hid hq
  have HR := Lib.hid hR'
  have HO := Lib.hid hO
  clear hk hR' hO hc hq hb hR
  go_wp2
  go_ret
  exact ⟨_, rfl, Hq.out, HR.out, HO.out⟩

set_option maxHeartbeats 400000 in
theorem num_any (Q : Value → Prop) (hQ : ∀ x, Q x → ∃ z, x = .int .i64 z) (w : World) (r N b off n cap : Nat) (hR : Rd w r N) (hN : N < 1099511627776) (hn : 0 < n) (hn2 : n ≤ 9223372036854775807) (hrow : RowQ Q w r b off n) :
    Calls Tryd.prog 27 #[.pointer (some ⟨r, 0, none⟩), .slice (some ⟨b, off, none⟩) n cap] w (OfPost Q r N w) := by
  have Hrow := Lib.hid hrow
  have HQ := Lib.hid hQ
  clear hrow hQ
  go_enter Tryd.func27, Tryd.ntmps27
  go_wp2_with (fail)
  refine (pick w r N _ hR hN (by omega)).mono ?_
  rintro e w' ⟨k, rfl, hk, _, hR', hO⟩
  have hk' : k < n := by have := hk (by omega); omega
  obtain ⟨hb, hs, hc⟩ := Hrow.out
  obtain ⟨x, hx, hq⟩ := hc k hk'
  obtain ⟨s, rfl⟩ := HQ.out x hq
  rw [← hO.cell (p := ⟨b, off + k, none⟩) hs (by simpa using hb)] at hx
  have Hq := Lib.hid hq
  have HR := Lib.hid hR'
  have HO := Lib.hid hO
  clear hk hR' hO hc hq hb hR
  go_wp2
  go_ret
  exact ⟨_, rfl, Hq.out, HR.out, HO.out⟩
end Go.Proofs.YtkpkgengdcleiaaDoor
