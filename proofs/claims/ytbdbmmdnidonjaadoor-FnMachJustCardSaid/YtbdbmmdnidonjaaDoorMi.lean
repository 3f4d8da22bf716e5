/- Instructions of a machine: copied, compared. No conditions. -/
import Derived.Test.YtbdbmmdnidonjaaDoorOwn
import Derived.StillTailTactics
import Derived.Deep.RegionHeld3
set_option maxRecDepth 100000
namespace Go.Proofs.YtbdbmmdnidonjaaDoor
open Go.RowKit

structure Mi where
  op : Int
  a : Int
  b : Int
  c : Int
  n : Int

def Mi.cells (x : Mi) : List Value := [.int .i64 x.op, .int .i64 x.a, .int .i64 x.b, .int .i64 x.c, .int .i64 x.n]
def Mi.val (x : Mi) : Value := .agg #[.int .i64 x.op, .int .i64 x.a, .int .i64 x.b, .int .i64 x.c, .int .i64 x.n]

set_option maxHeartbeats 1000000 in
theorem toMins_any (w : World) (op a b c n : Int) :
    Calls Tryd.prog 136 #[.agg #[.int .i64 op, .int .i64 a, .int .i64 b, .int .i64 c, .int .i64 n]] w fun e w' => e = .returned (.agg #[.int .i64 op, .int .i64 a, .int .i64 b, .int .i64 c, .int .i64 n]) ∧ Below w.heap.size w w' := by
  go_enter Tryd.func136, Tryd.ntmps136
  go_wp2
  refine bodyPost_ret (v := .agg #[.int .i64 op, .int .i64 a, .int .i64 b, .int .i64 c, .int .i64 n]) (by simp [results, Tryd.results136, go_sem]) rfl ⟨rfl, ?_⟩
  repeat' (first | exact Below.refl _ _ | (refine Below.setCell ?_ ?_ _) | (refine Below.alloc ?_ ?_ _))
  all_goals (first | omega | (simp; done) | (simp; omega))


theorem toMi (w : World) (x : Mi) : Calls Tryd.prog 136 #[x.val] w fun e w' => e = .returned x.val ∧ Below w.heap.size w w' := toMins_any w x.op x.a x.b x.c x.n

set_option maxHeartbeats 1000000 in
theorem eqMins_same (w : World) (op a b c n : Int) :
    Calls Tryd.prog 137 #[.agg #[.int .i64 op, .int .i64 a, .int .i64 b, .int .i64 c, .int .i64 n], .agg #[.int .i64 op, .int .i64 a, .int .i64 b, .int .i64 c, .int .i64 n]] w (Yes w) := by
  go_enter Tryd.func137, Tryd.ntmps137
  go_wp2
  go_ret
  refine ⟨rfl, ?_⟩
  repeat' (first | exact Below.refl _ _ | (refine Below.setCell ?_ ?_ _) | (refine Below.alloc ?_ ?_ _))
  all_goals (first | omega | (simp; done) | (simp; omega))

theorem info_mi : (Tryd.prog.info? 124).map (fun i => (i.zero, i.size, i.bytes)) = some (some (.agg #[.int .i64 0, .int .i64 0, .int .i64 0, .int .i64 0, .int .i64 0]), 5, 40) := by kernel_rfl

/-- the slice v reads as these instructions -/
def MisAt (w : World) (v : Value) (xs : List Mi) : Prop :=
  ∃ a cap, v = .slice a xs.length cap ∧ ∀ i x, xs[i]? = some x → ∃ b off, a = some ⟨b, off, none⟩ ∧ w.cell? ⟨b, off + i * 5, none⟩ = some (.int .i64 x.op) ∧ w.cell? ⟨b, off + i * 5 + 1, none⟩ = some (.int .i64 x.a) ∧ w.cell? ⟨b, off + i * 5 + 2, none⟩ = some (.int .i64 x.b) ∧ w.cell? ⟨b, off + i * 5 + 3, none⟩ = some (.int .i64 x.c) ∧ w.cell? ⟨b, off + i * 5 + 4, none⟩ = some (.int .i64 x.n)

/-- instruction x stands at place i of a row of cells -/
def MiIn (ys : List Value) (i : Nat) (x : Mi) : Prop :=
  ys[i * 5]? = some (.int .i64 x.op) ∧ ys[i * 5 + 1]? = some (.int .i64 x.a) ∧ ys[i * 5 + 2]? = some (.int .i64 x.b) ∧ ys[i * 5 + 3]? = some (.int .i64 x.c) ∧ ys[i * 5 + 4]? = some (.int .i64 x.n)

/-- v is a slice of the call's own, not nil, with these instructions -/
def OwnMis (B : Nat) (w : World) (g cap : Nat) (xs : List Mi) : Prop :=
  ∃ ys, w.ownsRow B 124 5 (.slice (some ⟨g, 0, none⟩) xs.length cap) xs.length ys ∧ ∀ i x, xs[i]? = some x → MiIn ys i x

theorem OwnMis.at {B : Nat} {w : World} {g cap : Nat} {xs : List Mi} (h : OwnMis B w g cap xs) : MisAt w (.slice (some ⟨g, 0, none⟩) xs.length cap) xs := by
  obtain ⟨ys, ho, hx⟩ := h
  refine ⟨_, _, rfl, fun i x hi => ⟨g, 0, rfl, ?_⟩⟩
  have hil : i < xs.length := by
    rcases Nat.lt_or_ge i xs.length with h | h
    · exact h
    · rw [List.getElem?_eq_none h] at hi; cases hi
  obtain ⟨h0, h1, h2, h3, h4⟩ := hx i x hi
  simp only [Nat.zero_add]
  rw [ho.cellAt (i * 5) (by omega), ho.cellAt (i * 5 + 1) (by omega), ho.cellAt (i * 5 + 2) (by omega), ho.cellAt (i * 5 + 3) (by omega), ho.cellAt (i * 5 + 4) (by omega)]
  exact ⟨h0, h1, h2, h3, h4⟩
theorem OwnMis.below {B : Nat} {w w' : World} {g cap : Nat} {xs : List Mi} (h : OwnMis B w g cap xs) (hb : Below w.heap.size w w') : OwnMis B w' g cap xs := by
  obtain ⟨ys, ho, hx⟩ := h
  exact ⟨ys, ownsRow_below ho hb, hx⟩
theorem MisAt.below {w w' : World} {v : Value} {xs : List Mi} (h : MisAt w v xs) (hb : Below w.heap.size w w') : MisAt w' v xs := by
  obtain ⟨a, cap, hv, hc⟩ := h
  refine ⟨a, cap, hv, fun i x hi => ?_⟩
  obtain ⟨b, off, ha, c0, c1, c2, c3, c4⟩ := hc i x hi
  have hbl : b < w.heap.size := World.block_lt_of_cell? w ⟨b, off + i * 5, none⟩ c0
  refine ⟨b, off, ha, ?_, ?_, ?_, ?_, ?_⟩
  · rw [hb.cell (p := ⟨b, off + i * 5, none⟩) hbl]; exact c0
  · rw [hb.cell (p := ⟨b, off + i * 5 + 1, none⟩) hbl]; exact c1
  · rw [hb.cell (p := ⟨b, off + i * 5 + 2, none⟩) hbl]; exact c2
  · rw [hb.cell (p := ⟨b, off + i * 5 + 3, none⟩) hbl]; exact c3
  · rw [hb.cell (p := ⟨b, off + i * 5 + 4, none⟩) hbl]; exact c4

theorem own5 {w : World} {B : Nat} {e : TypeId} {g n cap : Nat} {ys : List Value} (h : w.ownsRow B e 5 (.slice (some ⟨g, 0, none⟩) n cap) n ys) (k : Nat) (hk : k < n) :
    (∃ y, w.cell? ⟨g, k * 5, none⟩ = some y) ∧ (∃ y, w.cell? ⟨g, k * 5 + 1, none⟩ = some y) ∧ (∃ y, w.cell? ⟨g, k * 5 + 2, none⟩ = some y) ∧ (∃ y, w.cell? ⟨g, k * 5 + 3, none⟩ = some y) ∧ (∃ y, w.cell? ⟨g, k * 5 + 4, none⟩ = some y) ∧
    w.frozen? ⟨g, k * 5, none⟩ = false ∧ w.frozen? ⟨g, k * 5 + 1, none⟩ = false ∧ w.frozen? ⟨g, k * 5 + 2, none⟩ = false ∧ w.frozen? ⟨g, k * 5 + 3, none⟩ = false ∧ w.frozen? ⟨g, k * 5 + 4, none⟩ = false := by
  have hlen : ys.length = n * 5 := h.1
  have at' : ∀ j, j < n * 5 → ∃ y, w.cell? ⟨g, j, none⟩ = some y := fun j hj => by
    rw [h.cellAt j hj, List.getElem?_eq_getElem (by omega)]
    exact ⟨_, rfl⟩
  exact ⟨at' _ (by omega), at' _ (by omega), at' _ (by omega), at' _ (by omega), at' _ (by omega), h.frozenAt _, h.frozenAt _, h.frozenAt _, h.frozenAt _, h.frozenAt _⟩

def set5 (ys : List Value) (k : Nat) (u0 u1 u2 u3 u4 : Value) : List Value := ((((ys.set (k * 5) u0).set (k * 5 + 1) u1).set (k * 5 + 2) u2).set (k * 5 + 3) u3).set (k * 5 + 4) u4
theorem stored5 {w : World} {B : Nat} {e : TypeId} {g n cap : Nat} {ys : List Value} (h : w.ownsRow B e 5 (.slice (some ⟨g, 0, none⟩) n cap) n ys) (k : Nat) (u0 u1 u2 u3 u4 : Value) :
    (((((w.setCell ⟨g, k * 5, none⟩ u0).setCell ⟨g, k * 5 + 1, none⟩ u1).setCell ⟨g, k * 5 + 2, none⟩ u2).setCell ⟨g, k * 5 + 3, none⟩ u3).setCell ⟨g, k * 5 + 4, none⟩ u4).ownsRow B e 5 (.slice (some ⟨g, 0, none⟩) n cap) n (set5 ys k u0 u1 u2 u3 u4) :=
  (((((h.stored _ u0).1.stored _ u1).1.stored _ u2).1.stored _ u3).1.stored _ u4).1
theorem below5 {w a : World} {B g : Nat} (h : Below B a w) (hg : B ≤ g) (k : Nat) (u0 u1 u2 u3 u4 : Value) :
    Below B a (((((w.setCell ⟨g, k * 5, none⟩ u0).setCell ⟨g, k * 5 + 1, none⟩ u1).setCell ⟨g, k * 5 + 2, none⟩ u2).setCell ⟨g, k * 5 + 3, none⟩ u3).setCell ⟨g, k * 5 + 4, none⟩ u4) :=
  ((((h.setCell (p := ⟨g, k * 5, none⟩) hg _).setCell (p := ⟨g, k * 5 + 1, none⟩) hg _).setCell (p := ⟨g, k * 5 + 2, none⟩) hg _).setCell (p := ⟨g, k * 5 + 3, none⟩) hg _).setCell (p := ⟨g, k * 5 + 4, none⟩) hg _
theorem set5_other {ys : List Value} {k i : Nat} {x : Mi} {u0 u1 u2 u3 u4 : Value} (h : MiIn ys i x) (hik : i ≠ k) : MiIn (set5 ys k u0 u1 u2 u3 u4) i x := by
  obtain ⟨h0, h1, h2, h3, h4⟩ := h
  unfold set5
  refine ⟨?_, ?_, ?_, ?_, ?_⟩
  all_goals
    rw [List.getElem?_set_ne (by omega), List.getElem?_set_ne (by omega), List.getElem?_set_ne (by omega), List.getElem?_set_ne (by omega), List.getElem?_set_ne (by omega)]
    assumption
theorem set5_at {ys : List Value} {k : Nat} (x : Mi) (h : k * 5 + 4 < ys.length) : MiIn (set5 ys k (.int .i64 x.op) (.int .i64 x.a) (.int .i64 x.b) (.int .i64 x.c) (.int .i64 x.n)) k x := by
  unfold set5
  refine ⟨?_, ?_, ?_, ?_, ?_⟩
  · rw [List.getElem?_set_ne (by omega), List.getElem?_set_ne (by omega), List.getElem?_set_ne (by omega), List.getElem?_set_ne (by omega), List.getElem?_set_self (by omega)]
  · rw [List.getElem?_set_ne (by omega), List.getElem?_set_ne (by omega), List.getElem?_set_ne (by omega), List.getElem?_set_self (by simp; omega)]
  · rw [List.getElem?_set_ne (by omega), List.getElem?_set_ne (by omega), List.getElem?_set_self (by simp; omega)]
  · rw [List.getElem?_set_ne (by omega), List.getElem?_set_self (by simp; omega)]
  · rw [List.getElem?_set_self (by simp; omega)]

def NewMis (xs : List Mi) (w : World) (e : Ending) (w' : World) : Prop :=
  ∃ g, e = .returned (.slice (some ⟨g, 0, none⟩) xs.length xs.length) ∧ OwnMis w.heap.size w' g xs.length xs ∧ Below w.heap.size w w'

set_option maxHeartbeats 1000000 in
theorem toMinsS_any (w : World) (v : Value) (xs : List Mi) (h : MisAt w v xs) (hm : xs.length ≤ 1099511627776) :
    Calls Tryd.prog 112 #[v] w (NewMis xs w) := by
  obtain ⟨i0, hi, hz0, hz1, hz2⟩ := info_parts info_mi
  obtain ⟨a, cap, rfl, hc⟩ := h
  obtain ⟨n, hn⟩ : ∃ n, n = xs.length := ⟨_, rfl⟩
  rw [← hn] at hm ⊢
  have Hc := Lib.hid hc
  have Hl := Lib.hid hn
  clear hc hn
  go_enter Tryd.func112, Tryd.ntmps112
  go_wp2_with (refine wpList_make_full _ rfl _ _ 103 rfl w.heap.size 124 i0 _ 5 Tryd.underlying103 hi hz0 hz1 .i64 .i64 n n n (by rfl) (by rfl) rfl rfl (by rw [hz2]; omega) (by unfold maxLen; omega) (Nat.le_refl _) ?_; intro w1 hown hg; have HOWN := Lib.hid hown; have HB := Lib.hid ((Below.refl w.heap.size w).grown hg (Nat.le_refl _) (fun k hk => by cases hk)); clear hown hg)
  go_loopw [4] (fun i wr => ∃ k ys, k ≤ n ∧ i = .int .i64 k ∧ wr.ownsRow w.heap.size 124 5 (.slice (some ⟨w.heap.size, 0, none⟩) n n) n ys ∧ Hid (∀ i x, i < k → xs[i]? = some x → MiIn ys i x) ∧ Below w.heap.size w wr) (fun i _ => n - (intOf i).toNat)
  case atStart => exact ⟨0, _, Nat.zero_le _, rfl, HOWN.out, fun i x hi => by omega, HB.out⟩
  case round =>
    obtain ⟨k, ys, hk, rfl, hown, hys, hB⟩ := hrel
    obtain ⟨wo, rfl⟩ : ∃ wo : World, wo = wr := ⟨_, rfl⟩
    by_cases hlt : k < n
    · have hkl : k < xs.length := by rw [← Hl.out]; exact hlt
      obtain ⟨x, hx⟩ : ∃ x, x = xs[k] := ⟨_, rfl⟩
      have hxk : xs[k]? = some x := by rw [hx]; exact List.getElem?_eq_getElem hkl
      obtain ⟨b, off, rfl, c0, c1, c2, c3, c4⟩ := Hc.out k x hxk
      have hbl : b < w.heap.size := World.block_lt_of_cell? w ⟨b, off + k * 5, none⟩ c0
      rw [← hB.cell (p := ⟨b, off + k * 5, none⟩) hbl] at c0
      rw [← hB.cell (p := ⟨b, off + k * 5 + 1, none⟩) hbl] at c1
      rw [← hB.cell (p := ⟨b, off + k * 5 + 2, none⟩) hbl] at c2
      rw [← hB.cell (p := ⟨b, off + k * 5 + 3, none⟩) hbl] at c3
      rw [← hB.cell (p := ⟨b, off + k * 5 + 4, none⟩) hbl] at c4
      have HB' := Lib.hid hB; have HOW := Lib.hid hown; have HXK := Lib.hid hxk
      clear hB hown hx hxk
      go_wp2_with (fail)
      refine (toMi _ x).mono ?_
      rintro e w2 ⟨rfl, hb⟩
      have hsz := HB'.out.size
      have hB2 := HB'.out.trans (hb.mono hsz)
      have hO2 := ownsRow_below HOW.out hb
      have hlen : ys.length = n * 5 := hO2.1
      obtain ⟨⟨y0, d0⟩, ⟨y1, d1⟩, ⟨y2, d2⟩, ⟨y3, d3⟩, ⟨y4, d4⟩, f0, f1, f2, f3, f4⟩ := own5 hO2 k hlt
      have HB2 := Lib.hid hB2; have HO2 := Lib.hid hO2; have HLEN := Lib.hid hlen
      clear hb hB2 hO2 c0 c1 c2 c3 c4 hlen
      unfold Mi.val
      go_wp2_with (fail)
      go_roundw
      case rel =>
        refine ⟨k + 1, _, by omega, by go_num, stored5 HO2.out k _ _ _ _ _, ?_, below5 HB2.out (Nat.le_refl _) k _ _ _ _ _⟩
        show ∀ i y, _
        intro i y hi hy
        by_cases hik : i = k
        · subst hik
          rw [HXK.out] at hy
          injection hy with hy
          subst hy
          exact set5_at _ (by rw [HLEN.out]; omega)
        · exact set5_other (hys.out i y (by omega) hy) hik
      case measure => simp [intOf]; omega
    · obtain rfl : k = n := by omega
      have HO := Lib.hid hown; have HB' := Lib.hid hB
      clear hown hB
      go_wp2_with (fail)
      go_ret
      refine ⟨w.heap.size, by rw [← Hl.out]; rfl, ⟨ys, by rw [← Hl.out]; exact HO.out, fun i x hi => hys.out i x ?_ hi⟩, HB'.out⟩
      rcases Nat.lt_or_ge i xs.length with h | h
      · rw [Hl.out]; exact h
      · rw [List.getElem?_eq_none h] at hi; cases hi

set_option maxHeartbeats 1000000 in
theorem eqMinsS_same (w : World) (v v2 : Value) (xs : List Mi) (h : MisAt w v xs) (h2 : MisAt w v2 xs) (hm : xs.length ≤ 1099511627776) :
    Calls Tryd.prog 113 #[v, v2] w (Yes w) := by
  obtain ⟨a, cap, rfl, hc⟩ := h
  obtain ⟨a2, cap2, rfl, hc2⟩ := h2
  obtain ⟨n, hn⟩ : ∃ n, n = xs.length := ⟨_, rfl⟩
  rw [← hn] at hm ⊢
  have Hc := Lib.hid hc
  have Hc2 := Lib.hid hc2
  have Hl := Lib.hid hn
  clear hc hc2 hn
  go_enter Tryd.func113, Tryd.ntmps113
  go_wp2
  go_loopw [5] (fun i wr => ∃ k, k ≤ n ∧ i = .int .i64 k ∧ Below w.heap.size w wr) (fun i _ => n - (intOf i).toNat)
  case atStart => exact ⟨0, Nat.zero_le _, rfl, Below.refl _ _⟩
  case round =>
    obtain ⟨k, hk, rfl, hB⟩ := hrel
    obtain ⟨wo, rfl⟩ : ∃ wo : World, wo = wr := ⟨_, rfl⟩
    by_cases hlt : k < n
    · have hkl : k < xs.length := by rw [← Hl.out]; exact hlt
      obtain ⟨x, hx⟩ : ∃ x, x = xs[k] := ⟨_, rfl⟩
      have hxk : xs[k]? = some x := by rw [hx]; exact List.getElem?_eq_getElem hkl
      obtain ⟨b, off, rfl, c0, c1, c2, c3, c4⟩ := Hc.out k x hxk
      have hbl : b < w.heap.size := World.block_lt_of_cell? w ⟨b, off + k * 5, none⟩ c0
      rw [← hB.cell (p := ⟨b, off + k * 5, none⟩) hbl] at c0
      rw [← hB.cell (p := ⟨b, off + k * 5 + 1, none⟩) hbl] at c1
      rw [← hB.cell (p := ⟨b, off + k * 5 + 2, none⟩) hbl] at c2
      rw [← hB.cell (p := ⟨b, off + k * 5 + 3, none⟩) hbl] at c3
      rw [← hB.cell (p := ⟨b, off + k * 5 + 4, none⟩) hbl] at c4
      obtain ⟨b2, off2, rfl, d0, d1, d2, d3, d4⟩ := Hc2.out k x hxk
      have hbl2 : b2 < w.heap.size := World.block_lt_of_cell? w ⟨b2, off2 + k * 5, none⟩ d0
      rw [← hB.cell (p := ⟨b2, off2 + k * 5, none⟩) hbl2] at d0
      rw [← hB.cell (p := ⟨b2, off2 + k * 5 + 1, none⟩) hbl2] at d1
      rw [← hB.cell (p := ⟨b2, off2 + k * 5 + 2, none⟩) hbl2] at d2
      rw [← hB.cell (p := ⟨b2, off2 + k * 5 + 3, none⟩) hbl2] at d3
      rw [← hB.cell (p := ⟨b2, off2 + k * 5 + 4, none⟩) hbl2] at d4
      have k0 : (0 : Int) ≤ k := by omega
      have k1 : (k : Int) < n := by omega
      have HB := Lib.hid hB
      clear hB hx hxk
      go_wp2_with (fail)
      go_still_tail 8, (by kernel_rfl)
      change wpList _ _ _ _ _ wo.drew
      have hdw := HB.out.drew
      have HD := Lib.hid hdw
      clear hdw
      generalize wo.drew = w2 at *
      go_wp2_with (fail)
      refine (eqMins_same w2 x.op x.a x.b x.c x.n).mono ?_
      rintro e w3 ⟨rfl, hb⟩
      have HB3 := Lib.hid (HD.out.trans (hb.mono HD.out.size))
      clear hb
      go_wp2_with (fail)
      go_roundw
      case rel => exact ⟨k + 1, by omega, by go_num, HB3.out⟩
      case measure => simp [intOf]; omega
    · obtain rfl : k = n := by omega
      have HB := Lib.hid hB
      clear hB
      go_wp2_with (fail)
      go_ret
      exact ⟨rfl, HB.out⟩

end Go.Proofs.YtbdbmmdnidonjaaDoor
