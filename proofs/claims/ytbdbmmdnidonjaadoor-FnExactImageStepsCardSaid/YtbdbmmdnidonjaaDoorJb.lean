/- Instructions of a machine: copied, compared. No conditions. Functions of a machine: copied, compared. No conditions but on how many there are. Programs of a machine: copied, compared, measured. -/
import Derived.Test.YtbdbmmdnidonjaaDoorJa
import Derived.StillTailTactics
import Derived.Deep.RegionHeld3
set_option linter.unusedVariables false
set_option linter.unusedSimpArgs false
set_option maxRecDepth 100000
namespace Go.Proofs.YtbdbmmdnidonjaaDoor
open Go.RowKit

structure Mi where
  op : Int
  a : Int
  b : Int
  c : Int
  n : Int

def Mi.cells (x : Mi) : List Value := [.int .i64 x.op, .int .i64 x.a, .int .i64 x.b, .int .i64 x.c, .int .i64 x.n]
def Mi.val (x : Mi) : Value := .agg #[.int .i64 x.op, .int .i64 x.a, .int .i64 x.b, .int .i64 x.c, .int .i64 x.n]

set_option maxHeartbeats 1000000 in
theorem toMins_any (w : World) (op a b c n : Int) :
    Calls Tryd.prog 136 #[.agg #[.int .i64 op, .int .i64 a, .int .i64 b, .int .i64 c, .int .i64 n]] w fun e w' => e = .returned (.agg #[.int .i64 op, .int .i64 a, .int .i64 b, .int .i64 c, .int .i64 n]) ∧ Below w.heap.size w w' := by
  go_enter Tryd.func136, Tryd.ntmps136
  go_wp2
  refine bodyPost_ret (v := .agg #[.int .i64 op, .int .i64 a, .int .i64 b, .int .i64 c, .int .i64 n]) (by simp [results, Tryd.results136, go_sem]) rfl ⟨rfl, ?_⟩
  repeat' (first | exact Below.refl _ _ | (refine Below.setCell ?_ ?_ _) | (refine Below.alloc ?_ ?_ _))
  all_goals (first | omega | (simp; done) | (simp; omega))


theorem toMi (w : World) (x : Mi) : Calls Tryd.prog 136 #[x.val] w fun e w' => e = .returned x.val ∧ Below w.heap.size w w' := toMins_any w x.op x.a x.b x.c x.n

set_option maxHeartbeats 1000000 in
theorem eqMins_same (w : World) (op a b c n : Int) :
    Calls Tryd.prog 137 #[.agg #[.int .i64 op, .int .i64 a, .int .i64 b, .int .i64 c, .int .i64 n], .agg #[.int .i64 op, .int .i64 a, .int .i64 b, .int .i64 c, .int .i64 n]] w (Yes w) := by
  go_enter Tryd.func137, Tryd.ntmps137
  go_wp2
  go_ret
  refine ⟨rfl, ?_⟩
  repeat' (first | exact Below.refl _ _ | (refine Below.setCell ?_ ?_ _) | (refine Below.alloc ?_ ?_ _))
  all_goals (first | omega | (simp; done) | (simp; omega))

theorem info_mi : (Tryd.prog.info? 124).map (fun i => (i.zero, i.size, i.bytes)) = some (some (.agg #[.int .i64 0, .int .i64 0, .int .i64 0, .int .i64 0, .int .i64 0]), 5, 40) := by kernel_rfl

/-- the slice v reads as these instructions -/
def MisAt (w : World) (v : Value) (xs : List Mi) : Prop :=
  ∃ a cap, v = .slice a xs.length cap ∧ ∀ i x, xs[i]? = some x → ∃ b off, a = some ⟨b, off, none⟩ ∧ w.cell? ⟨b, off + i * 5, none⟩ = some (.int .i64 x.op) ∧ w.cell? ⟨b, off + i * 5 + 1, none⟩ = some (.int .i64 x.a) ∧ w.cell? ⟨b, off + i * 5 + 2, none⟩ = some (.int .i64 x.b) ∧ w.cell? ⟨b, off + i * 5 + 3, none⟩ = some (.int .i64 x.c) ∧ w.cell? ⟨b, off + i * 5 + 4, none⟩ = some (.int .i64 x.n)

/-- instruction x stands at place i of a row of cells -/
def MiIn (ys : List Value) (i : Nat) (x : Mi) : Prop :=
  ys[i * 5]? = some (.int .i64 x.op) ∧ ys[i * 5 + 1]? = some (.int .i64 x.a) ∧ ys[i * 5 + 2]? = some (.int .i64 x.b) ∧ ys[i * 5 + 3]? = some (.int .i64 x.c) ∧ ys[i * 5 + 4]? = some (.int .i64 x.n)

/-- v is a slice of the call's own, not nil, with these instructions -/
def OwnMis (B : Nat) (w : World) (g cap : Nat) (xs : List Mi) : Prop :=
  ∃ ys, w.ownsRow B 124 5 (.slice (some ⟨g, 0, none⟩) xs.length cap) xs.length ys ∧ ∀ i x, xs[i]? = some x → MiIn ys i x

theorem OwnMis.at {B : Nat} {w : World} {g cap : Nat} {xs : List Mi} (h : OwnMis B w g cap xs) : MisAt w (.slice (some ⟨g, 0, none⟩) xs.length cap) xs := by
  obtain ⟨ys, ho, hx⟩ := h
  refine ⟨_, _, rfl, fun i x hi => ⟨g, 0, rfl, ?_⟩⟩
  have hil : i < xs.length := by
    rcases Nat.lt_or_ge i xs.length with h | h
    · exact h
    · rw [List.getElem?_eq_none h] at hi; cases hi
  obtain ⟨h0, h1, h2, h3, h4⟩ := hx i x hi
  simp only [Nat.zero_add]
  rw [ho.cellAt (i * 5) (by omega), ho.cellAt (i * 5 + 1) (by omega), ho.cellAt (i * 5 + 2) (by omega), ho.cellAt (i * 5 + 3) (by omega), ho.cellAt (i * 5 + 4) (by omega)]
  exact ⟨h0, h1, h2, h3, h4⟩
theorem OwnMis.below {B : Nat} {w w' : World} {g cap : Nat} {xs : List Mi} (h : OwnMis B w g cap xs) (hb : Below w.heap.size w w') : OwnMis B w' g cap xs := by
  obtain ⟨ys, ho, hx⟩ := h
  exact ⟨ys, ownsRow_below ho hb, hx⟩
theorem MisAt.below {w w' : World} {v : Value} {xs : List Mi} (h : MisAt w v xs) (hb : Below w.heap.size w w') : MisAt w' v xs := by
  obtain ⟨a, cap, hv, hc⟩ := h
  refine ⟨a, cap, hv, fun i x hi => ?_⟩
  obtain ⟨b, off, ha, c0, c1, c2, c3, c4⟩ := hc i x hi
  have hbl : b < w.heap.size := World.block_lt_of_cell? w ⟨b, off + i * 5, none⟩ c0
  refine ⟨b, off, ha, ?_, ?_, ?_, ?_, ?_⟩
  · rw [hb.cell (p := ⟨b, off + i * 5, none⟩) hbl]; exact c0
  · rw [hb.cell (p := ⟨b, off + i * 5 + 1, none⟩) hbl]; exact c1
  · rw [hb.cell (p := ⟨b, off + i * 5 + 2, none⟩) hbl]; exact c2
  · rw [hb.cell (p := ⟨b, off + i * 5 + 3, none⟩) hbl]; exact c3
  · rw [hb.cell (p := ⟨b, off + i * 5 + 4, none⟩) hbl]; exact c4

theorem own5 {w : World} {B : Nat} {e : TypeId} {g n cap : Nat} {ys : List Value} (h : w.ownsRow B e 5 (.slice (some ⟨g, 0, none⟩) n cap) n ys) (k : Nat) (hk : k < n) :
    (∃ y, w.cell? ⟨g, k * 5, none⟩ = some y) ∧ (∃ y, w.cell? ⟨g, k * 5 + 1, none⟩ = some y) ∧ (∃ y, w.cell? ⟨g, k * 5 + 2, none⟩ = some y) ∧ (∃ y, w.cell? ⟨g, k * 5 + 3, none⟩ = some y) ∧ (∃ y, w.cell? ⟨g, k * 5 + 4, none⟩ = some y) ∧
    w.frozen? ⟨g, k * 5, none⟩ = false ∧ w.frozen? ⟨g, k * 5 + 1, none⟩ = false ∧ w.frozen? ⟨g, k * 5 + 2, none⟩ = false ∧ w.frozen? ⟨g, k * 5 + 3, none⟩ = false ∧ w.frozen? ⟨g, k * 5 + 4, none⟩ = false := by
  have hlen : ys.length = n * 5 := h.1
  have at' : ∀ j, j < n * 5 → ∃ y, w.cell? ⟨g, j, none⟩ = some y := fun j hj => by
    rw [h.cellAt j hj, List.getElem?_eq_getElem (by omega)]
    exact ⟨_, rfl⟩
  exact ⟨at' _ (by omega), at' _ (by omega), at' _ (by omega), at' _ (by omega), at' _ (by omega), h.frozenAt _, h.frozenAt _, h.frozenAt _, h.frozenAt _, h.frozenAt _⟩

def set5 (ys : List Value) (k : Nat) (u0 u1 u2 u3 u4 : Value) : List Value := ((((ys.set (k * 5) u0).set (k * 5 + 1) u1).set (k * 5 + 2) u2).set (k * 5 + 3) u3).set (k * 5 + 4) u4
theorem stored5 {w : World} {B : Nat} {e : TypeId} {g n cap : Nat} {ys : List Value} (h : w.ownsRow B e 5 (.slice (some ⟨g, 0, none⟩) n cap) n ys) (k : Nat) (u0 u1 u2 u3 u4 : Value) :
    (((((w.setCell ⟨g, k * 5, none⟩ u0).setCell ⟨g, k * 5 + 1, none⟩ u1).setCell ⟨g, k * 5 + 2, none⟩ u2).setCell ⟨g, k * 5 + 3, none⟩ u3).setCell ⟨g, k * 5 + 4, none⟩ u4).ownsRow B e 5 (.slice (some ⟨g, 0, none⟩) n cap) n (set5 ys k u0 u1 u2 u3 u4) :=
  (((((h.stored _ u0).1.stored _ u1).1.stored _ u2).1.stored _ u3).1.stored _ u4).1
theorem below5 {w a : World} {B g : Nat} (h : Below B a w) (hg : B ≤ g) (k : Nat) (u0 u1 u2 u3 u4 : Value) :
    Below B a (((((w.setCell ⟨g, k * 5, none⟩ u0).setCell ⟨g, k * 5 + 1, none⟩ u1).setCell ⟨g, k * 5 + 2, none⟩ u2).setCell ⟨g, k * 5 + 3, none⟩ u3).setCell ⟨g, k * 5 + 4, none⟩ u4) :=
  ((((h.setCell (p := ⟨g, k * 5, none⟩) hg _).setCell (p := ⟨g, k * 5 + 1, none⟩) hg _).setCell (p := ⟨g, k * 5 + 2, none⟩) hg _).setCell (p := ⟨g, k * 5 + 3, none⟩) hg _).setCell (p := ⟨g, k * 5 + 4, none⟩) hg _
theorem set5_other {ys : List Value} {k i : Nat} {x : Mi} {u0 u1 u2 u3 u4 : Value} (h : MiIn ys i x) (hik : i ≠ k) : MiIn (set5 ys k u0 u1 u2 u3 u4) i x := by
  obtain ⟨h0, h1, h2, h3, h4⟩ := h
  unfold set5
  refine ⟨?_, ?_, ?_, ?_, ?_⟩
  all_goals
    rw [List.getElem?_set_ne (by omega), List.getElem?_set_ne (by omega), List.getElem?_set_ne (by omega), List.getElem?_set_ne (by omega), List.getElem?_set_ne (by omega)]
    assumption
theorem set5_at {ys : List Value} {k : Nat} (x : Mi) (h : k * 5 + 4 < ys.length) : MiIn (set5 ys k (.int .i64 x.op) (.int .i64 x.a) (.int .i64 x.b) (.int .i64 x.c) (.int .i64 x.n)) k x := by
  unfold set5
  refine ⟨?_, ?_, ?_, ?_, ?_⟩
  · rw [List.getElem?_set_ne (by omega), List.getElem?_set_ne (by omega), List.getElem?_set_ne (by omega), List.getElem?_set_ne (by omega), List.getElem?_set_self (by omega)]
  · rw [List.getElem?_set_ne (by omega), List.getElem?_set_ne (by omega), List.getElem?_set_ne (by omega), List.getElem?_set_self (by simp; omega)]
  · rw [List.getElem?_set_ne (by omega), List.getElem?_set_ne (by omega), List.getElem?_set_self (by simp; omega)]
  · rw [List.getElem?_set_ne (by omega), List.getElem?_set_self (by simp; omega)]
  · rw [List.getElem?_set_self (by simp; omega)]

def NewMis (xs : List Mi) (w : World) (e : Ending) (w' : World) : Prop :=
  ∃ g, e = .returned (.slice (some ⟨g, 0, none⟩) xs.length xs.length) ∧ OwnMis w.heap.size w' g xs.length xs ∧ Below w.heap.size w w'

set_option maxHeartbeats 1000000 in
theorem toMinsS_any (w : World) (v : Value) (xs : List Mi) (h : MisAt w v xs) (hm : xs.length ≤ 1099511627776) :
    Calls Tryd.prog 112 #[v] w (NewMis xs w) := by
  obtain ⟨i0, hi, hz0, hz1, hz2⟩ := info_parts info_mi
  obtain ⟨a, cap, rfl, hc⟩ := h
  obtain ⟨n, hn⟩ : ∃ n, n = xs.length := ⟨_, rfl⟩
  rw [← hn] at hm ⊢
  have Hc := Lib.hid hc
  have Hl := Lib.hid hn
  clear hc hn
  go_enter Tryd.func112, Tryd.ntmps112
  go_wp2_with (refine wpList_make_full _ rfl _ _ 103 rfl w.heap.size 124 i0 _ 5 Tryd.underlying103 hi hz0 hz1 .i64 .i64 n n n (by rfl) (by rfl) rfl rfl (by rw [hz2]; omega) (by unfold maxLen; omega) (Nat.le_refl _) ?_; intro w1 hown hg; have HOWN := Lib.hid hown; have HB := Lib.hid ((Below.refl w.heap.size w).grown hg (Nat.le_refl _) (fun k hk => by cases hk)); clear hown hg)
  go_loopw [4] (fun i wr => ∃ k ys, k ≤ n ∧ i = .int .i64 k ∧ wr.ownsRow w.heap.size 124 5 (.slice (some ⟨w.heap.size, 0, none⟩) n n) n ys ∧ Hid (∀ i x, i < k → xs[i]? = some x → MiIn ys i x) ∧ Below w.heap.size w wr) (fun i _ => n - (intOf i).toNat)
  case atStart => exact ⟨0, _, Nat.zero_le _, rfl, HOWN.out, fun i x hi => by omega, HB.out⟩
  case round =>
    obtain ⟨k, ys, hk, rfl, hown, hys, hB⟩ := hrel
    obtain ⟨wo, rfl⟩ : ∃ wo : World, wo = wr := ⟨_, rfl⟩
    by_cases hlt : k < n
    · have hkl : k < xs.length := by rw [← Hl.out]; exact hlt
      obtain ⟨x, hx⟩ : ∃ x, x = xs[k] := ⟨_, rfl⟩
      have hxk : xs[k]? = some x := by rw [hx]; exact List.getElem?_eq_getElem hkl
      obtain ⟨b, off, rfl, c0, c1, c2, c3, c4⟩ := Hc.out k x hxk
      have hbl : b < w.heap.size := World.block_lt_of_cell? w ⟨b, off + k * 5, none⟩ c0
      rw [← hB.cell (p := ⟨b, off + k * 5, none⟩) hbl] at c0
      rw [← hB.cell (p := ⟨b, off + k * 5 + 1, none⟩) hbl] at c1
      rw [← hB.cell (p := ⟨b, off + k * 5 + 2, none⟩) hbl] at c2
      rw [← hB.cell (p := ⟨b, off + k * 5 + 3, none⟩) hbl] at c3
      rw [← hB.cell (p := ⟨b, off + k * 5 + 4, none⟩) hbl] at c4
      have HB' := Lib.hid hB; have HOW := Lib.hid hown; have HXK := Lib.hid hxk
      clear hB hown hx hxk
      go_wp2_with (fail)
      refine (toMi _ x).mono ?_
      rintro e w2 ⟨rfl, hb⟩
      have hsz := HB'.out.size
      have hB2 := HB'.out.trans (hb.mono hsz)
      have hO2 := ownsRow_below HOW.out hb
      have hlen : ys.length = n * 5 := hO2.1
      obtain ⟨⟨y0, d0⟩, ⟨y1, d1⟩, ⟨y2, d2⟩, ⟨y3, d3⟩, ⟨y4, d4⟩, f0, f1, f2, f3, f4⟩ := own5 hO2 k hlt
      have HB2 := Lib.hid hB2; have HO2 := Lib.hid hO2; have HLEN := Lib.hid hlen
      clear hb hB2 hO2 c0 c1 c2 c3 c4 hlen
      unfold Mi.val
      go_wp2_with (fail)
      go_roundw
      case rel =>
        refine ⟨k + 1, _, by omega, by go_num, stored5 HO2.out k _ _ _ _ _, ?_, below5 HB2.out (Nat.le_refl _) k _ _ _ _ _⟩
        show ∀ i y, _
        intro i y hi hy
        by_cases hik : i = k
        · subst hik
          rw [HXK.out] at hy
          injection hy with hy
          subst hy
          exact set5_at _ (by rw [HLEN.out]; omega)
        · exact set5_other (hys.out i y (by omega) hy) hik
      case measure => simp [intOf]; omega
    · obtain rfl : k = n := by omega
      have HO := Lib.hid hown; have HB' := Lib.hid hB
      clear hown hB
      go_wp2_with (fail)
      go_ret
      refine ⟨w.heap.size, by rw [← Hl.out]; rfl, ⟨ys, by rw [← Hl.out]; exact HO.out, fun i x hi => hys.out i x ?_ hi⟩, HB'.out⟩
      rcases Nat.lt_or_ge i xs.length with h | h
      · rw [Hl.out]; exact h
      · rw [List.getElem?_eq_none h] at hi; cases hi

set_option maxHeartbeats 1000000 in
theorem eqMinsS_same (w : World) (v v2 : Value) (xs : List Mi) (h : MisAt w v xs) (h2 : MisAt w v2 xs) (hm : xs.length ≤ 1099511627776) :
    Calls Tryd.prog 113 #[v, v2] w (Yes w) := by
  obtain ⟨a, cap, rfl, hc⟩ := h
  obtain ⟨a2, cap2, rfl, hc2⟩ := h2
  obtain ⟨n, hn⟩ : ∃ n, n = xs.length := ⟨_, rfl⟩
  rw [← hn] at hm ⊢
  have Hc := Lib.hid hc
  have Hc2 := Lib.hid hc2
  have Hl := Lib.hid hn
  clear hc hc2 hn
  go_enter Tryd.func113, Tryd.ntmps113
  go_wp2
  go_loopw [5] (fun i wr => ∃ k, k ≤ n ∧ i = .int .i64 k ∧ Below w.heap.size w wr) (fun i _ => n - (intOf i).toNat)
  case atStart => exact ⟨0, Nat.zero_le _, rfl, Below.refl _ _⟩
  case round =>
    obtain ⟨k, hk, rfl, hB⟩ := hrel
    obtain ⟨wo, rfl⟩ : ∃ wo : World, wo = wr := ⟨_, rfl⟩
    by_cases hlt : k < n
    · have hkl : k < xs.length := by rw [← Hl.out]; exact hlt
      obtain ⟨x, hx⟩ : ∃ x, x = xs[k] := ⟨_, rfl⟩
      have hxk : xs[k]? = some x := by rw [hx]; exact List.getElem?_eq_getElem hkl
      obtain ⟨b, off, rfl, c0, c1, c2, c3, c4⟩ := Hc.out k x hxk
      have hbl : b < w.heap.size := World.block_lt_of_cell? w ⟨b, off + k * 5, none⟩ c0
      rw [← hB.cell (p := ⟨b, off + k * 5, none⟩) hbl] at c0
      rw [← hB.cell (p := ⟨b, off + k * 5 + 1, none⟩) hbl] at c1
      rw [← hB.cell (p := ⟨b, off + k * 5 + 2, none⟩) hbl] at c2
      rw [← hB.cell (p := ⟨b, off + k * 5 + 3, none⟩) hbl] at c3
      rw [← hB.cell (p := ⟨b, off + k * 5 + 4, none⟩) hbl] at c4
      obtain ⟨b2, off2, rfl, d0, d1, d2, d3, d4⟩ := Hc2.out k x hxk
      have hbl2 : b2 < w.heap.size := World.block_lt_of_cell? w ⟨b2, off2 + k * 5, none⟩ d0
      rw [← hB.cell (p := ⟨b2, off2 + k * 5, none⟩) hbl2] at d0
      rw [← hB.cell (p := ⟨b2, off2 + k * 5 + 1, none⟩) hbl2] at d1
      rw [← hB.cell (p := ⟨b2, off2 + k * 5 + 2, none⟩) hbl2] at d2
      rw [← hB.cell (p := ⟨b2, off2 + k * 5 + 3, none⟩) hbl2] at d3
      rw [← hB.cell (p := ⟨b2, off2 + k * 5 + 4, none⟩) hbl2] at d4
      have k0 : (0 : Int) ≤ k := by omega
      have k1 : (k : Int) < n := by omega
      have HB := Lib.hid hB
      clear hB hx hxk
      go_wp2_with (fail)
      go_still_tail 8, (by kernel_rfl)
      change wpList _ _ _ _ _ wo.drew
      have hdw := HB.out.drew
      have HD := Lib.hid hdw
      clear hdw
      generalize wo.drew = w2 at *
      go_wp2_with (fail)
      refine (eqMins_same w2 x.op x.a x.b x.c x.n).mono ?_
      rintro e w3 ⟨rfl, hb⟩
      have HB3 := Lib.hid (HD.out.trans (hb.mono HD.out.size))
      clear hb
      go_wp2_with (fail)
      go_roundw
      case rel => exact ⟨k + 1, by omega, by go_num, HB3.out⟩
      case measure => simp [intOf]; omega
    · obtain rfl : k = n := by omega
      have HB := Lib.hid hB
      clear hB
      go_wp2_with (fail)
      go_ret
      exact ⟨rfl, HB.out⟩

end Go.Proofs.YtbdbmmdnidonjaaDoor

set_option maxRecDepth 100000
namespace Go.Proofs.YtbdbmmdnidonjaaDoor
open Go.RowKit

structure Mf where
  params : Int
  slots : Int
  ins : List Mi

theorem info_mf : (Tryd.prog.info? 105).map (fun i => (i.zero, i.size, i.bytes)) = some (some (.agg #[.int .i64 0, .int .i64 0, .slice none 0 0]), 3, 40) := by kernel_rfl

/-- the slice v reads as these functions -/
def MfsAt (w : World) (v : Value) (fs : List Mf) : Prop :=
  ∃ a cap, v = .slice a fs.length cap ∧ ∀ i f, fs[i]? = some f → ∃ b off iv, a = some ⟨b, off, none⟩ ∧ w.cell? ⟨b, off + i * 3, none⟩ = some (.int .i64 f.params) ∧ w.cell? ⟨b, off + i * 3 + 1, none⟩ = some (.int .i64 f.slots) ∧ w.cell? ⟨b, off + i * 3 + 2, none⟩ = some iv ∧ MisAt w iv f.ins

theorem MfsAt.below {w w' : World} {v : Value} {fs : List Mf} (h : MfsAt w v fs) (hb : Below w.heap.size w w') : MfsAt w' v fs := by
  obtain ⟨a, cap, hv, hc⟩ := h
  refine ⟨a, cap, hv, fun i x hi => ?_⟩
  obtain ⟨b, off, iv, ha, c0, c1, c2, hm⟩ := hc i x hi
  have hbl : b < w.heap.size := World.block_lt_of_cell? w ⟨b, off + i * 3, none⟩ c0
  refine ⟨b, off, iv, ha, ?_, ?_, ?_, hm.below hb⟩
  · rw [hb.cell (p := ⟨b, off + i * 3, none⟩) hbl]; exact c0
  · rw [hb.cell (p := ⟨b, off + i * 3 + 1, none⟩) hbl]; exact c1
  · rw [hb.cell (p := ⟨b, off + i * 3 + 2, none⟩) hbl]; exact c2

/-- sizes that no walk minds -/
def MfsLe (fs : List Mf) : Prop := fs.length ≤ 1048576 ∧ ∀ f ∈ fs, f.ins.length ≤ 1048576

/-- function f stands at place i of a row of cells; its instructions in a row of the call's own, not block g -/
def MfIn (B : Nat) (w : World) (g : Nat) (ys : List Value) (i : Nat) (f : Mf) : Prop :=
  ys[i * 3]? = some (.int .i64 f.params) ∧ ys[i * 3 + 1]? = some (.int .i64 f.slots) ∧ ∃ gi, gi ≠ g ∧ ys[i * 3 + 2]? = some (.slice (some ⟨gi, 0, none⟩) f.ins.length f.ins.length) ∧ OwnMis B w gi f.ins.length f.ins

def OwnMfs (B : Nat) (w : World) (g cap : Nat) (fs : List Mf) : Prop :=
  ∃ ys, w.ownsRow B 105 3 (.slice (some ⟨g, 0, none⟩) fs.length cap) fs.length ys ∧ ∀ i f, fs[i]? = some f → MfIn B w g ys i f

theorem idx_lt {α : Type} {l : List α} {i : Nat} {x : α} (h : l[i]? = some x) : i < l.length := by
  rcases Nat.lt_or_ge i l.length with h' | h'
  · exact h'
  · rw [List.getElem?_eq_none h'] at h; cases h

theorem OwnMfs.at {B : Nat} {w : World} {g cap : Nat} {fs : List Mf} (h : OwnMfs B w g cap fs) : MfsAt w (.slice (some ⟨g, 0, none⟩) fs.length cap) fs := by
  obtain ⟨ys, ho, hx⟩ := h
  refine ⟨_, _, rfl, fun i f hi => ?_⟩
  have hil := idx_lt hi
  obtain ⟨h0, h1, gi, _, h2, hm⟩ := hx i f hi
  refine ⟨g, 0, _, rfl, ?_, ?_, ?_, hm.at⟩
  · rw [Nat.zero_add, ho.cellAt (i * 3) (by omega)]; exact h0
  · rw [Nat.zero_add, ho.cellAt (i * 3 + 1) (by omega)]; exact h1
  · rw [Nat.zero_add, ho.cellAt (i * 3 + 2) (by omega)]; exact h2
theorem OwnMfs.below {B : Nat} {w w' : World} {g cap : Nat} {fs : List Mf} (h : OwnMfs B w g cap fs) (hb : Below w.heap.size w w') : OwnMfs B w' g cap fs := by
  obtain ⟨ys, ho, hx⟩ := h
  refine ⟨ys, ownsRow_below ho hb, fun i f hi => ?_⟩
  obtain ⟨h0, h1, gi, hg, h2, hm⟩ := hx i f hi
  exact ⟨h0, h1, gi, hg, h2, hm.below hb⟩

/-- a row stands where its block stands -/
theorem ownsRow_block {w w' : World} {B : Nat} {e : TypeId} {size : Nat} {g n cap : Nat} {xs : List Value} (h : w.ownsRow B e size (.slice (some ⟨g, 0, none⟩) n cap) n xs) (hg : w'.heap[g]? = w.heap[g]?) : w'.ownsRow B e size (.slice (some ⟨g, 0, none⟩) n cap) n xs := by
  obtain ⟨h1, h2⟩ := h
  refine ⟨h1, ?_⟩
  rcases h2 with h2 | ⟨g', cap', cur, hv, hg', hh, r⟩
  · exact .inl h2
  · have e : g' = g := by
      injection hv with hv _ _
      injection hv with hv
      injection hv with hv
      exact hv.symm
    subst e
    exact .inr ⟨g', cap', cur, hv, hg', by rw [hg]; exact hh, r⟩
theorem OwnMis.block {B : Nat} {w w' : World} {g cap : Nat} {xs : List Mi} (h : OwnMis B w g cap xs) (hg : w'.heap[g]? = w.heap[g]?) : OwnMis B w' g cap xs := by
  obtain ⟨ys, ho, hx⟩ := h
  exact ⟨ys, ownsRow_block ho hg, hx⟩
theorem OwnMis.lt {B : Nat} {w : World} {g cap : Nat} {xs : List Mi} (h : OwnMis B w g cap xs) : g < w.heap.size ∧ B ≤ g := by
  obtain ⟨ys, ho, _⟩ := h
  have := ownsRow_lt ho
  exact ⟨this.1, this.2.1⟩
theorem OwnMis.mono {B B' : Nat} {w : World} {g cap : Nat} {xs : List Mi} (h : OwnMis B w g cap xs) (hB : B' ≤ B) : OwnMis B' w g cap xs := by
  obtain ⟨ys, ho, hx⟩ := h
  exact ⟨ys, ownsRow_mono ho hB, hx⟩

theorem bcell {W w1 : World} (hb : Below W.heap.size W w1) : (∀ b o, b < W.heap.size → w1.cell? ⟨b, o, none⟩ = W.cell? ⟨b, o, none⟩) ∧ (∀ b o, b < W.heap.size → w1.frozen? ⟨b, o, none⟩ = W.frozen? ⟨b, o, none⟩) :=
  ⟨fun b o h => hb.cell (p := ⟨b, o, none⟩) h, fun b o h => hb.frozen (p := ⟨b, o, none⟩) h⟩

theorem below1 (w : World) (o1 : Obj) : Below w.heap.size w (w.alloc o1) := (Below.refl _ _).alloc (Nat.le_refl _) _
theorem below2 (w : World) (o1 o2 : Obj) : Below w.heap.size w ((w.alloc o1).alloc o2) := (below1 w o1).alloc (by simp) _
theorem below3 (w : World) (o1 o2 o3 : Obj) : Below w.heap.size w (((w.alloc o1).alloc o2).alloc o3) := (below2 w o1 o2).alloc (by simp; omega) _

def NewMf (f : Mf) (w : World) (e : Ending) (w' : World) : Prop :=
  ∃ g, e = .returned (.agg #[.int .i64 f.params, .int .i64 f.slots, .slice (some ⟨g, 0, none⟩) f.ins.length f.ins.length]) ∧ OwnMis w.heap.size w' g f.ins.length f.ins ∧ Below w.heap.size w w'

set_option maxHeartbeats 1000000 in
theorem toMfn_any (w : World) (p s : Int) (iv : Value) (xs : List Mi) (h : MisAt w iv xs) (hm : xs.length ≤ 1048576) :
    Calls Tryd.prog 83 #[.agg #[.int .i64 p, .int .i64 s, iv]] w (NewMf ⟨p, s, xs⟩ w) := by
  have HI := Lib.hid (fun w' (hb : Below w.heap.size w w') => toMinsS_any w' iv xs (h.below hb) (by omega))
  obtain ⟨a, cap, rfl, _⟩ := h
  go_enter Tryd.func83, Tryd.ntmps83
  go_wp2_with (fail)
  refine (HI.out _ (below3 _ _ _ _)).mono ?_
  rintro e w1 ⟨g, rfl, hO, hb⟩
  obtain ⟨hc, hf⟩ := bcell hb
  have hsz : w.heap.size + 3 ≤ w1.heap.size := by have := hb.size; simp at this; omega
  have HB := Lib.hid ((below3 w _ _ _).trans (hb.mono (by simp; omega)))
  have HO := Lib.hid (hO.mono (show w.heap.size ≤ _ by simp; omega))
  have hgl := hO.lt
  simp at hgl
  clear hb hO
  go_wp2_with (fail)
  refine bodyPost_ret (v := .agg #[.int .i64 p, .int .i64 s, .slice (some ⟨g, 0, none⟩) xs.length xs.length]) (by simp [results, Tryd.results83, go_sem, hc]) rfl ⟨g, rfl, ?_, ?_⟩
  · refine HO.out.block ?_
    repeat rw [Below.heap_setCell _ _ _ _ (by simp; omega)]
  · repeat' (first | exact HB.out | (refine Below.setCell ?_ ?_ _))
    all_goals (first | omega | (simp; done) | (simp; omega))

/-- a row of three-cell elements -/
theorem own3 {w : World} {B : Nat} {e : TypeId} {g n cap : Nat} {ys : List Value} (h : w.ownsRow B e 3 (.slice (some ⟨g, 0, none⟩) n cap) n ys) (k : Nat) (hk : k < n) :
    (∃ y, w.cell? ⟨g, k * 3, none⟩ = some y) ∧ (∃ y, w.cell? ⟨g, k * 3 + 1, none⟩ = some y) ∧ (∃ y, w.cell? ⟨g, k * 3 + 2, none⟩ = some y) ∧
    w.frozen? ⟨g, k * 3, none⟩ = false ∧ w.frozen? ⟨g, k * 3 + 1, none⟩ = false ∧ w.frozen? ⟨g, k * 3 + 2, none⟩ = false := by
  have hlen : ys.length = n * 3 := h.1
  have at' : ∀ j, j < n * 3 → ∃ y, w.cell? ⟨g, j, none⟩ = some y := fun j hj => by
    rw [h.cellAt j hj, List.getElem?_eq_getElem (by omega)]
    exact ⟨_, rfl⟩
  exact ⟨at' _ (by omega), at' _ (by omega), at' _ (by omega), h.frozenAt _, h.frozenAt _, h.frozenAt _⟩
def set3 (ys : List Value) (k : Nat) (u0 u1 u2 : Value) : List Value := ((ys.set (k * 3) u0).set (k * 3 + 1) u1).set (k * 3 + 2) u2
theorem stored3 {w : World} {B : Nat} {e : TypeId} {g n cap : Nat} {ys : List Value} (h : w.ownsRow B e 3 (.slice (some ⟨g, 0, none⟩) n cap) n ys) (k : Nat) (u0 u1 u2 : Value) :
    (((w.setCell ⟨g, k * 3, none⟩ u0).setCell ⟨g, k * 3 + 1, none⟩ u1).setCell ⟨g, k * 3 + 2, none⟩ u2).ownsRow B e 3 (.slice (some ⟨g, 0, none⟩) n cap) n (set3 ys k u0 u1 u2) :=
  (((h.stored _ u0).1.stored _ u1).1.stored _ u2).1
theorem below_3 {w a : World} {B g : Nat} (h : Below B a w) (hg : B ≤ g) (k : Nat) (u0 u1 u2 : Value) :
    Below B a (((w.setCell ⟨g, k * 3, none⟩ u0).setCell ⟨g, k * 3 + 1, none⟩ u1).setCell ⟨g, k * 3 + 2, none⟩ u2) :=
  ((h.setCell (p := ⟨g, k * 3, none⟩) hg _).setCell (p := ⟨g, k * 3 + 1, none⟩) hg _).setCell (p := ⟨g, k * 3 + 2, none⟩) hg _
theorem heap_3 (w : World) (g k q : Nat) (u0 u1 u2 : Value) (h : q ≠ g) :
    (((w.setCell ⟨g, k * 3, none⟩ u0).setCell ⟨g, k * 3 + 1, none⟩ u1).setCell ⟨g, k * 3 + 2, none⟩ u2).heap[q]? = w.heap[q]? := by
  rw [Below.heap_setCell _ _ _ _ h, Below.heap_setCell _ _ _ _ h, Below.heap_setCell _ _ _ _ h]
theorem set3_other {B : Nat} {w w' : World} {g : Nat} {ys : List Value} {k i : Nat} {f : Mf} {u0 u1 u2 : Value} (h : MfIn B w g ys i f) (hik : i ≠ k) (hw : ∀ q, q ≠ g → w'.heap[q]? = w.heap[q]?) : MfIn B w' g (set3 ys k u0 u1 u2) i f := by
  obtain ⟨h0, h1, gi, hgi, h2, hm⟩ := h
  unfold set3
  refine ⟨?_, ?_, gi, hgi, ?_, hm.block (hw gi hgi)⟩
  all_goals
    rw [List.getElem?_set_ne (by omega), List.getElem?_set_ne (by omega), List.getElem?_set_ne (by omega)]
    assumption
theorem set3_at {B : Nat} {w' : World} {g : Nat} {ys : List Value} {k : Nat} (f : Mf) (gi : Nat) (hgi : gi ≠ g) (hm : OwnMis B w' gi f.ins.length f.ins) (h : k * 3 + 2 < ys.length) :
    MfIn B w' g (set3 ys k (.int .i64 f.params) (.int .i64 f.slots) (.slice (some ⟨gi, 0, none⟩) f.ins.length f.ins.length)) k f := by
  unfold set3
  refine ⟨?_, ?_, gi, hgi, ?_, hm⟩
  · rw [List.getElem?_set_ne (by omega), List.getElem?_set_ne (by omega), List.getElem?_set_self (by omega)]
  · rw [List.getElem?_set_ne (by omega), List.getElem?_set_self (by simp; omega)]
  · rw [List.getElem?_set_self (by simp; omega)]

def NewMfs (fs : List Mf) (w : World) (e : Ending) (w' : World) : Prop :=
  ∃ g, e = .returned (.slice (some ⟨g, 0, none⟩) fs.length fs.length) ∧ OwnMfs w.heap.size w' g fs.length fs ∧ Below w.heap.size w w'

set_option maxHeartbeats 1000000 in
theorem toMfnS_any (w : World) (v : Value) (fs : List Mf) (h : MfsAt w v fs) (hm : MfsLe fs) :
    Calls Tryd.prog 55 #[v] w (NewMfs fs w) := by
  obtain ⟨i0, hi, hz0, hz1, hz2⟩ := info_parts info_mf
  obtain ⟨a, cap, rfl, hc⟩ := h
  obtain ⟨n, hn⟩ : ∃ n, n = fs.length := ⟨_, rfl⟩
  have hnm : n ≤ 1048576 := by have := hm.1; omega
  rw [← hn]
  have Hc := Lib.hid hc
  have Hl := Lib.hid hn
  have HM := Lib.hid hm
  clear hc hn hm
  go_enter Tryd.func55, Tryd.ntmps55
  go_wp2_with (refine wpList_make_full _ rfl _ _ 23 rfl w.heap.size 105 i0 _ 3 Tryd.underlying23 hi hz0 hz1 .i64 .i64 n n n (by rfl) (by rfl) rfl rfl (by rw [hz2]; omega) (by unfold maxLen; omega) (Nat.le_refl _) ?_; intro w1 hown hg; have HOWN := Lib.hid hown; have HB := Lib.hid ((Below.refl w.heap.size w).grown hg (Nat.le_refl _) (fun k hk => by cases hk)); clear hown hg)
  go_loopw [4] (fun i wr => ∃ k ys, k ≤ n ∧ i = .int .i64 k ∧ wr.ownsRow w.heap.size 105 3 (.slice (some ⟨w.heap.size, 0, none⟩) n n) n ys ∧ Hid (∀ i f, i < k → fs[i]? = some f → MfIn w.heap.size wr w.heap.size ys i f) ∧ Below w.heap.size w wr) (fun i _ => n - (intOf i).toNat)
  case atStart => exact ⟨0, _, Nat.zero_le _, rfl, HOWN.out, fun i x hi => by omega, HB.out⟩
  case round =>
    obtain ⟨k, ys, hk, rfl, hown, hys, hB⟩ := hrel
    obtain ⟨wo, rfl⟩ : ∃ wo : World, wo = wr := ⟨_, rfl⟩
    by_cases hlt : k < n
    · have hkl : k < fs.length := by rw [← Hl.out]; exact hlt
      obtain ⟨f, hf⟩ : ∃ f, f = fs[k] := ⟨_, rfl⟩
      have hfk : fs[k]? = some f := by rw [hf]; exact List.getElem?_eq_getElem hkl
      have hfm : f ∈ fs := List.mem_of_getElem? hfk
      obtain ⟨b, off, iv, rfl, c0, c1, c2, hmi⟩ := Hc.out k f hfk
      have hbl : b < w.heap.size := World.block_lt_of_cell? w ⟨b, off + k * 3, none⟩ c0
      rw [← hB.cell (p := ⟨b, off + k * 3, none⟩) hbl] at c0
      rw [← hB.cell (p := ⟨b, off + k * 3 + 1, none⟩) hbl] at c1
      rw [← hB.cell (p := ⟨b, off + k * 3 + 2, none⟩) hbl] at c2
      have HI := Lib.hid (toMfn_any wo f.params f.slots iv f.ins (hmi.below hB) (HM.out.2 f hfm))
      have HB' := Lib.hid hB; have HOW := Lib.hid hown; have HFK := Lib.hid hfk
      have hg0 := (ownsRow_lt hown).1
      clear hB hown hf hfk hmi hfm
      go_wp2_with (fail)
      refine HI.out.mono ?_
      rintro e w2 ⟨gi, rfl, hgi, hb⟩
      simp only [] at hgi ⊢
      have hsz := HB'.out.size
      have hB2 := HB'.out.trans (hb.mono hsz)
      have hO2 := ownsRow_below HOW.out hb
      obtain ⟨⟨y0, d0⟩, ⟨y1, d1⟩, ⟨y2, d2⟩, f0, f1, f2⟩ := own3 hO2 k hlt
      have hgl := hgi.lt
      have hys2 : Hid (∀ i f, i < k → fs[i]? = some f → MfIn w.heap.size w2 w.heap.size ys i f) := by
        show ∀ i f, _
        intro i f' h1 h2
        obtain ⟨a0, a1, gj, hgj, a2, hmj⟩ := hys.out i f' h1 h2
        exact ⟨a0, a1, gj, hgj, a2, hmj.below hb⟩
      have HB2 := Lib.hid hB2; have HO2 := Lib.hid hO2; have HGI := Lib.hid (hgi.mono hsz)
      clear hb hB2 hO2 c0 c1 c2 hgi hys HI
      go_wp2_with (fail)
      go_roundw
      case rel =>
        refine ⟨k + 1, _, by omega, by go_num, stored3 HO2.out k _ _ _, ?_, below_3 HB2.out (Nat.le_refl _) k _ _ _⟩
        show ∀ i y, _
        intro i y hi hy
        by_cases hik : i = k
        · subst hik
          rw [HFK.out] at hy
          injection hy with hy
          subst hy
          exact set3_at _ gi (by omega) (HGI.out.block (heap_3 _ _ _ _ _ _ _ (by omega))) (by have := HO2.out.1; omega)
        · exact set3_other (hys2.out i y (by omega) hy) hik (fun q hq => heap_3 _ _ _ _ _ _ _ hq)
      case measure => simp [intOf]; omega
    · obtain rfl : k = n := by omega
      have HO := Lib.hid hown; have HB' := Lib.hid hB
      clear hown hB
      go_wp2_with (fail)
      go_ret
      refine ⟨w.heap.size, by rw [← Hl.out]; rfl, ⟨ys, by rw [← Hl.out]; exact HO.out, fun i x hi => hys.out i x (by rw [Hl.out]; exact idx_lt hi) hi⟩, HB'.out⟩

set_option maxHeartbeats 1000000 in
theorem eqMfn_same (w : World) (p s : Int) (iv iv2 : Value) (xs : List Mi) (h : MisAt w iv xs) (h2 : MisAt w iv2 xs) (hm : xs.length ≤ 1048576) :
    Calls Tryd.prog 84 #[.agg #[.int .i64 p, .int .i64 s, iv], .agg #[.int .i64 p, .int .i64 s, iv2]] w (Yes w) := by
  have HI := Lib.hid (fun w' (hb : Below w.heap.size w w') => eqMinsS_same w' iv iv2 xs (h.below hb) (h2.below hb) (by omega))
  obtain ⟨a, cap, rfl, _⟩ := h
  obtain ⟨a2, cap2, rfl, _⟩ := h2
  go_enter Tryd.func84, Tryd.ntmps84
  go_wp2_with (fail)
  refine (HI.out _ (below2 _ _ _)).mono ?_
  rintro e w1 ⟨rfl, hb⟩
  have HB := Lib.hid ((below2 w _ _).trans (hb.mono (by simp; omega)))
  clear hb
  go_wp2_with (fail)
  go_ret
  exact ⟨rfl, HB.out⟩

set_option maxHeartbeats 1000000 in
theorem eqMfnS_same (w : World) (v v2 : Value) (fs : List Mf) (h : MfsAt w v fs) (h2 : MfsAt w v2 fs) (hm : MfsLe fs) :
    Calls Tryd.prog 56 #[v, v2] w (Yes w) := by
  obtain ⟨a, cap, rfl, hc⟩ := h
  obtain ⟨a2, cap2, rfl, hc2⟩ := h2
  obtain ⟨n, hn⟩ : ∃ n, n = fs.length := ⟨_, rfl⟩
  have hnm : n ≤ 1048576 := by have := hm.1; omega
  rw [← hn]
  have Hc := Lib.hid hc
  have Hc2 := Lib.hid hc2
  have Hl := Lib.hid hn
  have HM := Lib.hid hm
  clear hc hc2 hn hm
  go_enter Tryd.func56, Tryd.ntmps56
  go_wp2
  go_loopw [5] (fun i wr => ∃ k, k ≤ n ∧ i = .int .i64 k ∧ Below w.heap.size w wr) (fun i _ => n - (intOf i).toNat)
  case atStart => exact ⟨0, Nat.zero_le _, rfl, Below.refl _ _⟩
  case round =>
    obtain ⟨k, hk, rfl, hB⟩ := hrel
    obtain ⟨wo, rfl⟩ : ∃ wo : World, wo = wr := ⟨_, rfl⟩
    by_cases hlt : k < n
    · have hkl : k < fs.length := by rw [← Hl.out]; exact hlt
      obtain ⟨f, hf⟩ : ∃ f, f = fs[k] := ⟨_, rfl⟩
      have hfk : fs[k]? = some f := by rw [hf]; exact List.getElem?_eq_getElem hkl
      have hfm : f ∈ fs := List.mem_of_getElem? hfk
      obtain ⟨b, off, iv, rfl, c0, c1, c2, hmi⟩ := Hc.out k f hfk
      have hbl : b < w.heap.size := World.block_lt_of_cell? w ⟨b, off + k * 3, none⟩ c0
      rw [← hB.cell (p := ⟨b, off + k * 3, none⟩) hbl] at c0
      rw [← hB.cell (p := ⟨b, off + k * 3 + 1, none⟩) hbl] at c1
      rw [← hB.cell (p := ⟨b, off + k * 3 + 2, none⟩) hbl] at c2
      obtain ⟨b2, off2, iv2, rfl, d0, d1, d2, hmi2⟩ := Hc2.out k f hfk
      have hbl2 : b2 < w.heap.size := World.block_lt_of_cell? w ⟨b2, off2 + k * 3, none⟩ d0
      rw [← hB.cell (p := ⟨b2, off2 + k * 3, none⟩) hbl2] at d0
      rw [← hB.cell (p := ⟨b2, off2 + k * 3 + 1, none⟩) hbl2] at d1
      rw [← hB.cell (p := ⟨b2, off2 + k * 3 + 2, none⟩) hbl2] at d2
      have k0 : (0 : Int) ≤ k := by omega
      have k1 : (k : Int) < n := by omega
      have HI := Lib.hid (fun w' (hb : Below w.heap.size w w') => eqMfn_same w' f.params f.slots iv iv2 f.ins (hmi.below hb) (hmi2.below hb) (HM.out.2 f hfm))
      have HB := Lib.hid hB
      clear hB hf hfk hmi hmi2 hfm
      go_wp2_with (fail)
      go_still_tail 8, (by kernel_rfl)
      change wpList _ _ _ _ _ wo.drew
      have hdw := HB.out.drew
      have HD := Lib.hid hdw
      clear hdw
      generalize wo.drew = w2 at *
      go_wp2_with (fail)
      refine (HI.out w2 HD.out).mono ?_
      rintro e w3 ⟨rfl, hb⟩
      have HB3 := Lib.hid (HD.out.trans (hb.mono HD.out.size))
      clear hb
      go_wp2_with (fail)
      go_roundw
      case rel => exact ⟨k + 1, by omega, by go_num, HB3.out⟩
      case measure => simp [intOf]; omega
    · obtain rfl : k = n := by omega
      have HB := Lib.hid hB
      clear hB
      go_wp2_with (fail)
      go_ret
      exact ⟨rfl, HB.out⟩

end Go.Proofs.YtbdbmmdnidonjaaDoor

set_option maxRecDepth 100000
namespace Go.Proofs.YtbdbmmdnidonjaaDoor
open Go.RowKit

def NewMach (fs : List Mf) (w : World) (e : Ending) (w' : World) : Prop :=
  ∃ g, e = .returned (.agg #[.slice (some ⟨g, 0, none⟩) fs.length fs.length]) ∧ OwnMfs w.heap.size w' g fs.length fs ∧ Below w.heap.size w w'

theorem OwnMfs.mono {B B' : Nat} {w : World} {g cap : Nat} {fs : List Mf} (h : OwnMfs B w g cap fs) (hB : B' ≤ B) : OwnMfs B' w g cap fs := by
  obtain ⟨ys, ho, hx⟩ := h
  refine ⟨ys, ownsRow_mono ho hB, fun i f hi => ?_⟩
  obtain ⟨h0, h1, gi, hg, h2, hm⟩ := hx i f hi
  exact ⟨h0, h1, gi, hg, h2, hm.mono hB⟩
/-- what the call owns from B on stands while what is from B on stands -/
theorem OwnMfs.blocks {B : Nat} {w w' : World} {g cap : Nat} {fs : List Mf} (h : OwnMfs B w g cap fs) (hg : ∀ q, B ≤ q → q < w.heap.size → w'.heap[q]? = w.heap[q]?) : OwnMfs B w' g cap fs := by
  obtain ⟨ys, ho, hx⟩ := h
  have hl := ownsRow_lt ho
  refine ⟨ys, ownsRow_block ho (hg g hl.2.1 hl.1), fun i f hi => ?_⟩
  obtain ⟨h0, h1, gi, hgi, h2, hm⟩ := hx i f hi
  have hlm := hm.lt
  exact ⟨h0, h1, gi, hgi, h2, hm.block (hg gi hlm.2 hlm.1)⟩

set_option maxHeartbeats 1000000 in
theorem toMach_any (w : World) (v : Value) (fs : List Mf) (h : MfsAt w v fs) (hm : MfsLe fs) :
    Calls Tryd.prog 18 #[.agg #[v]] w (NewMach fs w) := by
  have HI := Lib.hid (fun w' (hb : Below w.heap.size w w') => toMfnS_any w' v fs (h.below hb) hm)
  obtain ⟨a, cap, rfl, _⟩ := h
  obtain ⟨n, hn⟩ : ∃ n, n = fs.length := ⟨_, rfl⟩
  unfold NewMach
  rw [← hn] at HI ⊢
  unfold NewMfs at HI
  rw [← hn] at HI
  clear hn
  go_enter Tryd.func18, Tryd.ntmps18
  go_wp2_with (fail)
  refine (HI.out _ (below3 _ _ _ _)).mono ?_
  rintro e w1 ⟨g, rfl, hO, hb⟩
  obtain ⟨hc, hf⟩ := bcell hb
  have hsz : w.heap.size + 3 ≤ w1.heap.size := by have := hb.size; simp at this; omega
  have HB := Lib.hid ((below3 w _ _ _).trans (hb.mono (by simp; omega)))
  have HO := Lib.hid hO
  clear hb hO
  go_wp2_with (fail)
  refine bodyPost_ret (v := .agg #[.slice (some ⟨g, 0, none⟩) n n]) (by simp [results, Tryd.results18, go_sem, hc]) rfl ⟨g, rfl, ?_, ?_⟩
  · refine OwnMfs.mono (HO.out.blocks (fun q hq1 hq2 => ?_)) (by simp; omega)
    simp at hq1
    repeat rw [Below.heap_setCell _ _ _ _ (by simp; omega)]
  · repeat' (first | exact HB.out | (refine Below.setCell ?_ ?_ _))
    all_goals (first | omega | (simp; done) | (simp; omega))

set_option maxHeartbeats 1000000 in
theorem eqMach_same (w : World) (v v2 : Value) (fs : List Mf) (h : MfsAt w v fs) (h2 : MfsAt w v2 fs) (hm : MfsLe fs) :
    Calls Tryd.prog 20 #[.agg #[v], .agg #[v2]] w (Yes w) := by
  have HI := Lib.hid (fun w' (hb : Below w.heap.size w w') => eqMfnS_same w' v v2 fs (h.below hb) (h2.below hb) hm)
  obtain ⟨a, cap, rfl, _⟩ := h
  obtain ⟨a2, cap2, rfl, _⟩ := h2
  go_enter Tryd.func20, Tryd.ntmps20
  go_wp2_with (fail)
  refine (HI.out _ (below2 _ _ _)).mono ?_
  rintro e w1 ⟨rfl, hb⟩
  have HB := Lib.hid ((below2 w _ _).trans (hb.mono (by simp; omega)))
  clear hb
  go_wp2_with (fail)
  go_ret
  exact ⟨rfl, HB.out⟩

/-- the sizes of functions, as szMach counts them -/
def sumIns : List Mf → Int
  | [] => 0
  | f :: fs => f.ins.length + sumIns fs
theorem sumIns_nonneg : ∀ fs, 0 ≤ sumIns fs
  | [] => by simp [sumIns]
  | f :: fs => by have := sumIns_nonneg fs; unfold sumIns; omega

set_option maxHeartbeats 1000000 in
theorem szMinsS_any (w : World) (a : Option Addr) (n cap : Nat) (left : Int) (h0 : 0 ≤ left) (h1 : left ≤ 1048576) (hn : n ≤ 9223372036854775807) :
    Calls Tryd.prog 111 #[.slice a n cap, .int .i64 left] w fun e w' => e = .returned (.int .i64 (if left < n then -1 else left - n)) ∧ w = w' := by
  by_cases h : left < n
  · rw [if_pos h]
    go_enter Tryd.func111, Tryd.ntmps111
    go_wp2
    go_ret
    exact ⟨rfl, rfl⟩
  · rw [if_neg h]
    go_enter Tryd.func111, Tryd.ntmps111
    go_wp2
    go_ret
    exact ⟨rfl, rfl⟩

set_option maxHeartbeats 1000000 in
theorem szMfn_any (w : World) (p s : Int) (a : Option Addr) (n cap : Nat) (left : Int) (h0 : 0 ≤ left) (h1 : left ≤ 1048576) (hn : n ≤ 9223372036854775807) :
    Calls Tryd.prog 82 #[.agg #[.int .i64 p, .int .i64 s, .slice a n cap], .int .i64 left] w fun e w' => e = .returned (.int .i64 (if left < n then -1 else left - n)) ∧ Below w.heap.size w w' := by
  by_cases h : left < n
  · have HS := Lib.hid (fun w' => szMinsS_any w' a n cap left h0 h1 hn)
    rw [if_pos h] at HS ⊢
    go_enter Tryd.func82, Tryd.ntmps82
    go_wp2_with (go_at_call 111; refine (HS.out _).mono ?_; rintro e w1 ⟨rfl, rfl⟩)
    go_ret
    exact ⟨rfl, below1 _ _⟩
  · have HS := Lib.hid (fun w' => szMinsS_any w' a n cap left h0 h1 hn)
    rw [if_neg h] at HS ⊢
    have h2 : 0 ≤ left - n := by omega
    obtain ⟨q, hq⟩ : ∃ q, q = left - n := ⟨_, rfl⟩
    rw [← hq] at HS h2 ⊢
    clear hq
    go_enter Tryd.func82, Tryd.ntmps82
    go_wp2_with (go_at_call 111; refine (HS.out _).mono ?_; rintro e w1 ⟨rfl, rfl⟩)
    go_ret
    exact ⟨rfl, below1 _ _⟩

/-- what szMach comes to: -1 where the sizes pass the bound -/
def SzPost (fs : List Mf) (left : Int) (w : World) (e : Ending) (w' : World) : Prop :=
  ∃ r, e = .returned (.int .i64 r) ∧ (r = -1 ∨ (0 ≤ r ∧ fs.length + sumIns fs ≤ left)) ∧ Below w.heap.size w w'

theorem sumIns_append : ∀ (a b : List Mf), sumIns (a ++ b) = sumIns a + sumIns b
  | [], b => by simp [sumIns]
  | f :: a, b => by
    show (f.ins.length : Int) + sumIns (a ++ b) = ((f.ins.length : Int) + sumIns a) + sumIns b
    rw [sumIns_append a b]; omega
theorem take_snocF (fs : List Mf) (k : Nat) (f : Mf) (h : fs[k]? = some f) : sumIns (fs.take (k + 1)) = sumIns (fs.take k) + f.ins.length := by
  have hk := idx_lt h
  rw [List.take_succ_eq_append_getElem hk, sumIns_append]
  rw [List.getElem?_eq_getElem hk] at h
  injection h with h
  rw [h]
  simp [sumIns]

set_option maxHeartbeats 1000000 in
theorem szMfnS_any (w : World) (v : Value) (fs : List Mf) (left : Int) (h : MfsAt w v fs) (h0 : 0 ≤ left) (h1 : left ≤ 1048576) (hn : fs.length ≤ 9223372036854775807) (hni : ∀ f ∈ fs, f.ins.length ≤ 9223372036854775807) :
    Calls Tryd.prog 54 #[v, .int .i64 left] w (SzPost fs left w) := by
  obtain ⟨a, cap, rfl, hc⟩ := h
  obtain ⟨n, hl⟩ : ∃ n, n = fs.length := ⟨_, rfl⟩
  rw [← hl] at hn ⊢
  have Hc := Lib.hid hc
  have Hl := Lib.hid hl
  have HNI := Lib.hid hni
  clear hc hl hni
  by_cases hbig : left < n
  · go_enter Tryd.func54, Tryd.ntmps54
    go_wp2
    go_ret
    exact ⟨-1, rfl, .inl rfl, Below.refl _ _⟩
  go_enter Tryd.func54, Tryd.ntmps54
  go_wp2
  go_loopw [1, 5] (fun l i wr => ∃ (k : Nat) (q : Int), k ≤ n ∧ i = .int .i64 k ∧ l = .int .i64 q ∧ 0 ≤ q ∧ q ≤ 1048576 ∧ Hid (n + sumIns (fs.take k) + q = left) ∧ Below w.heap.size w wr) (fun _ i _ => n - (intOf i).toNat)
  case atStart => exact ⟨0, left - n, Nat.zero_le _, rfl, rfl, by omega, by omega, by show _ = _; simp [sumIns]; omega, Below.refl _ _⟩
  case round =>
    obtain ⟨k, q, hk, rfl, rfl, hq0, hq1, hs, hB⟩ := hrel
    obtain ⟨wo, rfl⟩ : ∃ wo : World, wo = wr := ⟨_, rfl⟩
    have HB := Lib.hid hB
    by_cases hlt : k < n
    · have hkl : k < fs.length := by rw [← Hl.out]; exact hlt
      obtain ⟨f, hf⟩ : ∃ f, f = fs[k] := ⟨_, rfl⟩
      have hfk : fs[k]? = some f := by rw [hf]; exact List.getElem?_eq_getElem hkl
      have hfm : f ∈ fs := List.mem_of_getElem? hfk
      obtain ⟨b, off, iv, rfl, c0, c1, c2, hmi⟩ := Hc.out k f hfk
      obtain ⟨ai, capi, rfl, _⟩ := hmi
      have hbl : b < w.heap.size := World.block_lt_of_cell? w ⟨b, off + k * 3, none⟩ c0
      rw [← hB.cell (p := ⟨b, off + k * 3, none⟩) hbl] at c0
      rw [← hB.cell (p := ⟨b, off + k * 3 + 1, none⟩) hbl] at c1
      rw [← hB.cell (p := ⟨b, off + k * 3 + 2, none⟩) hbl] at c2
      have HS := Lib.hid (szMfn_any wo f.params f.slots ai f.ins.length capi q hq0 hq1 (HNI.out f hfm))
      have HT := Lib.hid (take_snocF fs k f hfk)
      obtain ⟨r, hr⟩ : ∃ r, r = if q < (f.ins.length : Int) then -1 else q - f.ins.length := ⟨_, rfl⟩
      rw [← hr] at HS
      have HR := Lib.hid hr
      clear hB hf hfk hfm hr
      by_cases hlq : q < (f.ins.length : Int)
      · have hre : r = -1 := by rw [HR.out, if_pos hlq]
        subst hre
        go_wp2_with (fail)
        refine HS.out.mono ?_
        rintro e w2 ⟨rfl, hb⟩
        have HB2 := Lib.hid (HB.out.trans (hb.mono HB.out.size))
        clear hb
        go_wp2_with (fail)
        go_ret
        exact ⟨-1, rfl, .inl rfl, HB2.out⟩
      · have hre : r = q - f.ins.length := by rw [HR.out, if_neg hlq]
        have hr0 : 0 ≤ r := by omega
        have hr1 : r ≤ 1048576 := by omega
        have HRE := Lib.hid hre
        clear hre
        go_wp2_with (fail)
        refine HS.out.mono ?_
        rintro e w2 ⟨rfl, hb⟩
        have HB2 := Lib.hid (HB.out.trans (hb.mono HB.out.size))
        clear hb
        go_wp2_with (fail)
        go_roundw
        case rel => exact ⟨k + 1, r, by omega, by go_num, rfl, hr0, hr1, by show _ = _; rw [HT.out, HRE.out]; have := hs.out; omega, HB2.out⟩
        case measure => simp [intOf]; omega
    · obtain rfl : k = n := by omega
      have hs' := hs.out
      rw [List.take_of_length_le (by rw [← Hl.out]; exact Nat.le_refl _), Hl.out] at hs'
      have HS := Lib.hid hs'
      clear hB hs'
      go_wp2_with (fail)
      go_ret
      exact ⟨q, rfl, .inr ⟨hq0, by have := HS.out; omega⟩, HB.out⟩

set_option maxHeartbeats 1000000 in
theorem szMach_any (w : World) (v : Value) (fs : List Mf) (left : Int) (h : MfsAt w v fs) (h0 : 0 ≤ left) (h1 : left ≤ 1048576) (hn : fs.length ≤ 9223372036854775807) (hni : ∀ f ∈ fs, f.ins.length ≤ 9223372036854775807) :
    Calls Tryd.prog 17 #[.agg #[v], .int .i64 left] w (SzPost fs left w) := by
  have HS := Lib.hid (fun w' (hb : Below w.heap.size w w') => szMfnS_any w' v fs left (h.below hb) h0 h1 hn hni)
  obtain ⟨a, cap, rfl, _⟩ := h
  go_enter Tryd.func17, Tryd.ntmps17
  go_wp2_with (fail)
  refine (HS.out _ (below1 _ _)).mono ?_
  rintro e w1 ⟨r, rfl, hr, hb⟩
  have HB := Lib.hid ((below1 w _).trans (hb.mono (by simp)))
  clear hb
  rcases hr with rfl | ⟨hr0, hr1⟩
  · go_wp2_with (fail)
    go_ret
    exact ⟨-1, rfl, .inl rfl, HB.out⟩
  · have HR := Lib.hid hr1
    clear hr1
    go_wp2_with (fail)
    go_ret
    exact ⟨r, rfl, .inr ⟨hr0, HR.out⟩, HB.out⟩

theorem mem_sum : ∀ (fs : List Mf) (f : Mf), f ∈ fs → (f.ins.length : Int) ≤ sumIns fs
  | g :: fs, f, h => by
    unfold sumIns
    rcases List.mem_cons.1 h with rfl | h
    · have := sumIns_nonneg fs; omega
    · have := mem_sum fs f h; omega
theorem mfsLe_of {fs : List Mf} {left : Int} (h : (fs.length : Int) + sumIns fs ≤ left) (h1 : left ≤ 1048576) : MfsLe fs := by
  have hs := sumIns_nonneg fs
  refine ⟨by omega, fun f hf => ?_⟩
  have := mem_sum fs f hf
  omega

end Go.Proofs.YtbdbmmdnidonjaaDoor
