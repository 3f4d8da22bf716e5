/- The draws of FnReadInts: some numbers, some text. No conditions. -/
import Derived.Test.YtkpkgengdcleiaaDoorPick
import Derived.Test.YtkpkgengdcleiaaDoorOwn
import Derived.Test.YtkpkgengdcleiaaDoorIt
set_option maxRecDepth 100000
namespace Go.Proofs.YtkpkgengdcleiaaDoor
open Go.RowKit

theorem row_new {Q : Value → Prop} (w : World) (cs : Array Value) (t : TypeId) (f : Nat × Nat) (h : ∀ x ∈ cs.toList, Q x) (i : Nat) (hi : i < cs.size) :
    ∃ x, (w.alloc (.cells cs t f)).cell? ⟨w.heap.size, i, none⟩ = some x ∧ Q x := by
  refine ⟨cs[i], ?_, h _ (by simp)⟩
  have : (w.alloc (.cells cs t f)).heap[w.heap.size]? = some (.cells cs t f) := by (show (w.heap.push _)[w.heap.size]? = _); simp
  exact cell_of_heap this (by simp [hi])
theorem rowQ_new {Q : Value → Prop} (w : World) (cs : Array Value) (t : TypeId) (f : Nat × Nat) {r : Nat} (hr : r < w.heap.size) (n : Nat) (hn : n ≤ cs.size) (h : ∀ x ∈ cs.toList, Q x) : RowQ Q (w.alloc (.cells cs t f)) r w.heap.size 0 n :=
  ⟨by omega, by simp, fun i hi => by rw [Nat.zero_add]; exact row_new w cs t f h i (by omega)⟩
theorem RowQ.only {Q : Value → Prop} {w w' : World} {r b off n : Nat} (h : RowQ Q w r b off n) (ho : Only [r] w w') : RowQ Q w' r b off n := by
  obtain ⟨h1, h2, h3⟩ := h
  refine ⟨h1, Nat.lt_of_lt_of_le h2 ho.size, fun i hi => ?_⟩
  obtain ⟨x, hx, hq⟩ := h3 i hi
  exact ⟨x, by rw [ho.cell (p := ⟨b, off + i, none⟩) h2 (by simpa using h1)]; exact hx, hq⟩
theorem RowQ.take {Q : Value → Prop} {w : World} {r b off n m : Nat} (h : RowQ Q w r b off n) (hm : m ≤ n) : RowQ Q w r b off m := ⟨h.1, h.2.1, fun i hi => h.2.2 i (by omega)⟩

/-- a string of at most m bytes -/
def StrLe (m : Nat) (x : Value) : Prop := ∃ s : ByteArray, x = .string s ∧ s.size ≤ m
theorem StrLe.str {m : Nat} (x : Value) (h : StrLe m x) : ∃ s, x = .string s := let ⟨s, h, _⟩ := h; ⟨s, h⟩
def IntIn (lo hi : Int) (x : Value) : Prop := ∃ z, x = .int .i64 z ∧ lo ≤ z ∧ z ≤ hi
theorem IntIn.int {lo hi : Int} (x : Value) (h : IntIn lo hi x) : ∃ z, x = .int .i64 z := let ⟨z, h, _⟩ := h; ⟨z, h⟩

theorem nums8 (k : Nat) (hk : k < 300) : ∀ x ∈ (#[Value.int .i64 0, .int .i64 1, .int .i64 42, .int .i64 9999, .int .i64 10000, .int .i64 (-1), .int .i64 k, .int .i64 (-300)] : Array Value).toList, IntIn (-300) 10000 x := by
  simp only [List.mem_cons, List.not_mem_nil, or_false, forall_eq_or_imp, forall_eq]
  refine ⟨⟨_, rfl, ?_⟩, ⟨_, rfl, ?_⟩, ⟨_, rfl, ?_⟩, ⟨_, rfl, ?_⟩, ⟨_, rfl, ?_⟩, ⟨_, rfl, ?_⟩, ⟨_, rfl, ?_⟩, ⟨_, rfl, ?_⟩⟩ <;> omega

def DrawIntsPost (w : World) (e : Ending) (w' : World) : Prop :=
  ∃ v zs, e = .returned v ∧ w'.ownsRow w.heap.size 3 1 v zs.length (ints zs) ∧ zs.length ≤ 5 ∧ InR zs ∧ v ≠ .slice none 0 0 ∧ Below w.heap.size w w'

set_option maxHeartbeats 1600000 in
theorem drawIntsText_any (w : World) (v : Value) (xs : List Int) (hm : ∀ a n cap, v = .slice a n cap → cap ≤ 9223372036854775807) (hb : Bytes w w.heap.size v xs) :
    Calls Tryd.prog 14 #[v] w (DrawIntsPost w) := by
  obtain ⟨i0, hi, hz0, hz1, hz2⟩ := info_parts info_int
  have HB := Lib.hid hb
  have HM := Lib.hid hm
  clear hb hm
  go_enter Tryd.func14, Tryd.ntmps14
  go_wp2_with (fail)
  refine (openRd w v xs HM.out HB.out).mono ?_
  rintro e w1 ⟨r, rfl, hR, hB1, hr⟩
  have HB1 := Lib.hid hB1
  have hrl := hR.lt
  have HS := Lib.hid (ownsRow_empty w1 3 1)
  have HO0 := Lib.hid ((Only.refl [r] w1).alloc (.cells #[] 3))
  have HR := Lib.hid hR
  clear hB1 hR
  go_wp2_with (fail)
  refine (pick _ r 0 _ (HR.out.alloc _) (by omega) (by omega)).mono ?_
  rintro e w2 ⟨k, rfl, hk, _, hR2, hO2⟩
  have hk6 : k < 6 := by have := hk (by omega); omega
  have HR2 := Lib.hid hR2
  have HO2 := Lib.hid (HO0.out.trans hO2)
  have HW2 := Lib.hid (ownsRow_only HS.out hO2 (by simpa using hrl))
  clear hk hR2 hO2 HS HO0 HR
  go_wp2_with (fail)
  go_loopw [4, 5] (fun o i wr => ∃ (zs : List Int) (j : Nat), i = .int .i64 j ∧ zs.length + j ≤ 5 ∧ wr.ownsRow w1.heap.size 3 1 o zs.length (ints zs) ∧ Hid (InR zs) ∧ Hid (o ≠ .slice none 0 0) ∧ Rd wr r (1 + 2 * zs.length) ∧ Only [r] w1 wr) (fun _ i _ => (intOf i).toNat)
  case atStart => exact ⟨[], k, rfl, by simp; omega, HW2.out, by simp [Hid, InR], by simp [Hid], HR2.out, HO2.out⟩
  case round =>
    obtain ⟨zs, j, rfl, hj, hown, hir, hne, hR, hO⟩ := hrel
    obtain ⟨wo, rfl⟩ : ∃ wo : World, wo = wr := ⟨_, rfl⟩
    have HR := Lib.hid hR
    have HO := Lib.hid hO
    have HW := Lib.hid hown
    clear hR hO hown
    by_cases hj0 : 0 < j
    · go_wp2_with (fail)
      refine (pick wo r _ _ HR.out (by omega) (by omega)).mono ?_
      rintro e w3 ⟨q, rfl, hq, _, hR3, hO3⟩
      have hq3 : q < 300 := by have := hq (by omega); omega
      have HR3 := Lib.hid hR3
      have HO3 := Lib.hid (HO.out.trans hO3)
      have HW3 := Lib.hid (ownsRow_only HW.out hO3 (by simpa using hrl))
      clear hq hR3 hO3 HR HO HW
      have hr3 := HR3.out.lt
      go_wp2_with (fail)
      refine (num_any (IntIn (-300) 10000) IntIn.int _ r _ w3.heap.size 0 8 8 (HR3.out.alloc _) (by omega) (by omega) (by omega) (rowQ_new w3 _ _ _ hr3 8 (by simp) (nums8 q hq3))).mono ?_
      rintro e w4 ⟨x, rfl, ⟨z, rfl, hz⟩, hR4, hO4⟩
      have HR4 := Lib.hid hR4
      have HO4 := Lib.hid (HO3.out.trans (((Only.refl _ _).alloc _).trans hO4))
      have HW4 := Lib.hid (ownsRow_only HW3.out (((Only.refl _ _).alloc _).trans hO4) (by simpa using hrl))
      clear hR4 hO4 HR3 HO3 HW3
      have hsz := HO4.out.size
      go_wp2_with (first | (at_builtin; refine wpList_append_own _ rfl _ _ 22 (by rfl) w1.heap.size 3 i0 (.int .i64 0) 1 8 Tryd.underlying22 hi hz0 hz1 hz2 rfl (by decide) _ zs.length _ (by rfl) (HW4.out.alloc _) ⟨w4.heap.size, 0, none⟩ 1 1 [.int .i64 z] (by rfl) rfl (World.news_of_block (cs := #[.int .i64 z]) (t := 3) (fr := (0, 0)) (heap_alloc_new w4 _)) (by simp [Value.oneCell']) (by unfold maxLen; omega) (by omega) (by simp; omega) ?_; intro v5 w5 hown5 hg5 hn5; have HW5 := Lib.hid hown5; have HG5 := Lib.hid hg5; have HN5 := Lib.hid hn5; clear hown5 hg5 hn5) | fail)
      go_roundw
      case rel =>
        refine ⟨zs ++ [z], j - 1, by go_num, by simp; omega, ?_, ?_, fun e => hne.out (HN5.out.1 e).1, ?_, ?_⟩
        · have := HW5.out
          rw [List.length_append]
          unfold ints at this ⊢
          rw [List.map_append]
          exact this
        · intro x hx
          rcases List.mem_append.1 hx with h | h
          · exact hir.out x h
          · obtain rfl : x = z := by simpa using h
            omega
        · refine ((HR4.out.alloc _).grown HG5.out (fun q hq => ?_)).mono (by simp; omega)
          have := ownBlock_of HW4.out q hq
          omega
        · exact (HO4.out.alloc _).grown HG5.out (fun q hq => ownBlock_of HW4.out q hq)
      case measure => simp [intOf]; omega
    · obtain rfl : j = 0 := by omega
      go_wp2_with (fail)
      go_ret
      exact ⟨_, zs, rfl, ownsRow_mono HW.out HB1.out.size, by omega, hir.out, hne.out, HO.out.below HB1.out HB1.out.size (by simpa using hr)⟩

end Go.Proofs.YtkpkgengdcleiaaDoor
