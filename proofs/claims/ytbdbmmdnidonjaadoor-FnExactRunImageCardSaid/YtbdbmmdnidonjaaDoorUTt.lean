/- Rows of rows of numbers: what the laws' eqIntSS, markIntSS, heldIntSS, markByteS do with them. -/
import Derived.Test.YtbdbmmdnidonjaaDoorUJn
import Derived.Test.YtbdbmmdnidonjaaDoorUJx
import Derived.Test.YtbdbmmdnidonjaaDoorUJm
set_option linter.unusedVariables false
set_option linter.unusedSimpArgs false
set_option maxRecDepth 100000
namespace Go.Proofs.YtbdbmmdnidonjaaDoor
open Go.RowKit
/-- bytes of the call's own are marked: nothing else is touched -/
def MkbP (g n k : Nat) (w : World) (e : Ending) (w' : World) : Prop := e = .returned (.int .i64 ((k + n : Nat) : Int)) ∧ Only [g] w w'
set_option maxHeartbeats 1000000 in
theorem markByteS_any (w : World) (B g n cap k : Nat) (xs : List Value) (h : w.ownsRow B 5 1 (.slice (some ⟨g, 0, none⟩) n cap) n xs) (hk : k + n ≤ 1152921504606846976) :
  Calls Tryd.prog 38 #[.slice (some ⟨g, 0, none⟩) n cap, .int .i64 k] w (MkbP g n k w) := by
 have HO := Lib.hid h
 clear h
 go_enter Tryd.func38, Tryd.ntmps38
 go_wp2
 go_loopw [1, 5] (fun q i wr => ∃ (j : Nat) (ys : List Value), j ≤ n ∧ i = .int .i64 j ∧ q = .int .i64 ((k + j : Nat) : Int) ∧ wr.ownsRow B 5 1 (.slice (some ⟨g, 0, none⟩) n cap) n ys ∧ Only [g] w wr) (fun _ i _ => n - (intOf i).toNat)
 case atStart => exact ⟨0, xs, Nat.zero_le _, rfl, rfl, HO.out, Only.refl _ _⟩
 case round =>
  obtain ⟨j, ys, hj, rfl, rfl, hown, hB⟩ := hrel
  obtain ⟨wo, rfl⟩ : ∃ wo : World, wo = wr := ⟨_, rfl⟩
  by_cases hlt : j < n
  ·have hlen : ys.length = n := by have := hown.1; omega
   have hfz := hown.frozenAt j
   have hck := hown.cellAt j (by omega)
   rw [List.getElem?_eq_getElem (by omega)] at hck
   have HST := Lib.hid (fun u => hown.stored j u)
   have HB' := Lib.hid (fun u => hB.setCell (p := ⟨g, j, none⟩) (List.mem_singleton.2 rfl) u)
   clear hown hB
   have hcast : ((k + j : Nat) : Int) = (k : Int) + j := by omega
   go_wp2
   go_roundw
   case rel =>
    exact ⟨j + 1, _, by omega, by go_num, by congr 1, (HST.out _).1, HB'.out _⟩
   case measure => simp [intOf]; omega
  ·obtain rfl : j = n := by omega
   have HB' := Lib.hid hB
   clear hown hB
   go_wp2
   go_ret
   exact ⟨rfl, HB'.out⟩
/-- a new copy of bytes, as a row of the call's own -/
theorem toBytesO {w : World} {v : Value} {b : List Nat} (h : CsAt w v b) (hm : b.length ≤ 1099511627776) : Calls Tryd.prog 32 #[v] w fun e w' => ∃ g, e = .returned (.slice (some ⟨g, 0, none⟩) b.length b.length) ∧ w'.ownsRow w.heap.size 5 1 (.slice (some ⟨g, 0, none⟩) b.length b.length) b.length (u8s b) ∧ CsC w' (.slice (some ⟨g, 0, none⟩) b.length b.length) b ∧ Below w.heap.size w w' := by
 have h' := h
 obtain ⟨a, cap, rfl, hs, hc⟩ := h
 refine (toByteS_any w a cap _ b rfl hm hc).mono ?_
 rintro e w' ⟨g, rfl, ho, hb⟩
 refine ⟨g, rfl, ho, ⟨⟨_, _, rfl, hs, fun i hi => ⟨g, 0, rfl, ?_⟩⟩, _, _, rfl, Nat.le_refl _⟩, hb⟩
 have := ho.cellAt i (by omega)
 rw [Nat.zero_add, this]
 simp [u8s, byteN, List.getD_eq_getElem?_getD, hi]
def r4 (g : Nat) : Value := .slice (some ⟨g, 0, none⟩) 4 4
/-- rows of four in a row of the call's own, each in a block for itself -/
structure TabG (B : Nat) (w : World) (v : Value) (rows : List (List Value)) (gs : List Nat) : Prop where
 len : gs.length = rows.length
 row : w.ownsRow B 26 1 v rows.length (gs.map r4)
 nodup : gs.Nodup
 apart : ∀ g ∈ gs, v.ownBlock ≠ some g
 inner : ∀ (i g : Nat) (r : List Value), gs[i]? = some g → rows[i]? = some r → w.ownsRow B 3 1 (r4 g) 4 r
def TabV (B : Nat) (w : World) (v : Value) (rows : List (List Value)) : Prop := ∃ gs : List Nat, TabG B w v rows gs
theorem TabV.mono {B B' : Nat} {w : World} {v : Value} {rows : List (List Value)} (h : TabV B w v rows) (hB : B' ≤ B) : TabV B' w v rows := by
 obtain ⟨gs, h1, h2, h3, h4, h5⟩ := h
 exact ⟨gs, h1, ownsRow_mono h2 hB, h3, h4, fun i g r hg hr => ownsRow_mono (h5 i g r hg hr) hB⟩
theorem TabV.keep {B : Nat} {w w' : World} {v : Value} {rows : List (List Value)} (h : TabV B w v rows) (hb : ∀ k, B ≤ k → k < w.heap.size → w'.heap[k]? = w.heap[k]?) : TabV B w' v rows := by
 obtain ⟨gs, h1, h2, h3, h4, h5⟩ := h
 exact ⟨gs, h1, row_keep h2 (Nat.le_refl _) hb, h3, h4, fun i g r hg hr => row_keep (h5 i g r hg hr) (Nat.le_refl _) hb⟩
theorem TabV.below {B : Nat} {w w' : World} {v : Value} {rows : List (List Value)} (h : TabV B w v rows) (hb : Below w.heap.size w w') : TabV B w' v rows := h.keep fun k _ hk => hb.block k hk
theorem TabV.form {B : Nat} {w : World} {v : Value} {rows : List (List Value)} (h : TabV B w v rows) : ∃ a c, v = .slice a rows.length c := by
 obtain ⟨gs, h1, h2, _⟩ := h
 rcases h2.2 with ⟨rfl, h0⟩ | ⟨g, cap, cur, rfl, _⟩
 ·exact ⟨none, 0, by rw [h0]⟩
 ·exact ⟨_, _, rfl⟩
theorem TabV.nil (B : Nat) (w : World) : TabV B w (.slice none 0 0) [] := ⟨[], rfl, World.ownsRow_nil _ _ _ _, List.nodup_nil, by simp, by simp⟩
theorem r4_block (g : Nat) : (r4 g).ownBlock = some g := rfl
theorem TabG.app {B : Nat} {wo wa w' : World} {v v' : Value} {rows : List (List Value)} {gs : List Nat} {g : Nat} {r : List Value} (h : TabG B wo v rows gs) (hb : Below wo.heap.size wo wa) (hgw : wo.heap.size ≤ g)
  (hr : wa.ownsRow B 3 1 (r4 g) 4 r) (ho : w'.ownsRow B 26 1 v' (rows.length + 1) (gs.map r4 ++ [r4 g])) (hg : wa.grownBy w' v.ownBlock) (hat : v'.ownBlock = v.ownBlock ∨ v'.ownBlock = some wa.heap.size) : TabV B w' v' (rows ++ [r]) := by
 obtain ⟨h1, h2, h3, h4, h5⟩ := h
 have hin : ∀ q ∈ gs, q < wo.heap.size := fun q hq => by
  obtain ⟨i, hi⟩ := List.getElem?_of_mem hq
  obtain ⟨x, hx⟩ : ∃ x, rows[i]? = some x := ⟨_, List.getElem?_eq_getElem (by rw [← h1]; exact idx_lt hi)⟩
  exact (World.ownsRow.lt (h5 i q x hi hx) q rfl).2
 have hgl : g < wa.heap.size := (World.ownsRow.lt hr g rfl).2
 have hs := hb.size
 have hv : ∀ q, v.ownBlock = some q → q < wo.heap.size := fun q hq => (World.ownsRow.lt h2 q hq).2
 have hkeep : ∀ {q x}, v.ownBlock ≠ some q → wa.ownsRow B 3 1 (r4 q) 4 x → w'.ownsRow B 3 1 (r4 q) 4 x := fun {q x} hq hx => by
  refine ownsRow_same hx (fun k hk => hg.block k (World.ownsRow.lt hx k hk).2 (fun e => ?_))
  rw [r4_block] at hk; injection hk with hk
  exact hq (by rw [hk]; exact e.symm)
 refine ⟨gs ++ [g], by simp [h1], by rw [List.length_append, List.map_append]; exact ho, ?_, fun q hq => ?_, fun i q x hq hx => ?_⟩
 ·refine List.nodup_append.2 ⟨h3, by simp, fun a ha b hb => ?_⟩
  rw [List.mem_singleton] at hb
  have := hin a ha
  omega
 ·have hlq : q < wa.heap.size := by
   rcases List.mem_append.1 hq with h | h
   ·have := hin q h; omega
   ·rw [List.mem_singleton.1 h]; exact hgl
  have hnq : v.ownBlock ≠ some q := by
   rcases List.mem_append.1 hq with h | h
   ·exact h4 q h
   ·rw [List.mem_singleton.1 h]; intro e; have := hv g e; omega
  rcases hat with h | h
  ·rw [h]; exact hnq
  ·rw [h]; intro e; injection e with e; omega
 ·have hi2 : i < gs.length ∨ i = gs.length := by have := idx_lt hq; simp at this; omega
  rcases hi2 with hi | hi
  ·rw [List.getElem?_append_left hi] at hq
   rw [List.getElem?_append_left (by omega)] at hx
   exact hkeep (h4 q (List.mem_of_getElem? hq)) (ownsRow_below (h5 i q x hq hx) hb)
  ·rw [List.getElem?_append_right (by omega)] at hq
   rw [List.getElem?_append_right (by omega)] at hx
   simp only [hi, Nat.sub_self, h1, List.getElem?_cons_zero, Option.some.injEq] at hq hx
   subst hq hx
   exact hkeep (fun e => by have := hv _ e; omega) hr
/-- readable rows of numbers -/
def RowsAt (w : World) (v : Value) (zss : List (List Int)) : Prop :=
 ∃ a cap, v = .slice a zss.length cap ∧ ∀ i zs, zss[i]? = some zs → ∃ b off iv, a = some ⟨b, off, none⟩ ∧ w.cell? ⟨b, off + i, none⟩ = some iv ∧ IntsAt w iv zs
theorem RowsAt.below {w w' : World} {v : Value} {zss : List (List Int)} (h : RowsAt w v zss) (hb : Below w.heap.size w w') : RowsAt w' v zss := by
 obtain ⟨a, cap, hv, hc⟩ := h
 refine ⟨a, cap, hv, fun i zs hi => ?_⟩
 obtain ⟨b, off, iv, ha, c0, h1⟩ := hc i zs hi
 exact ⟨b, off, iv, ha, cellB hb c0, h1.below hb⟩
theorem intsAt4 {B : Nat} {w : World} {g : Nat} {zs : List Int} (h : w.ownsRow B 3 1 (r4 g) 4 (ints zs)) (hz : zs.length = 4) : IntsAt w (r4 g) zs :=
 ⟨_, 4, by unfold r4; rw [hz], fun i hi => ⟨g, 0, rfl, by
  rw [Nat.zero_add, World.ownsRow.cellAt h i (by omega)]
  simp [ints, List.getD_eq_getElem?_getD, hi]⟩⟩
theorem TabV.read {B : Nat} {w : World} {v : Value} {zss : List (List Int)} (h : TabV B w v (zss.map ints)) (hz : ∀ zs ∈ zss, zs.length = 4) : RowsAt w v zss := by
 obtain ⟨a, c, rfl⟩ := h.form
 obtain ⟨gs, h1, h2, h3, h4, h5⟩ := h
 rw [List.length_map] at h1 h2
 refine ⟨a, c, by rw [List.length_map], fun i zs hi => ?_⟩
 have hil := idx_lt hi
 obtain ⟨g, hg⟩ : ∃ g, gs[i]? = some g := ⟨_, List.getElem?_eq_getElem (by omega)⟩
 rcases h2.2 with ⟨h0, h0'⟩ | ⟨q, cap, cur, hv, _⟩
 ·omega
 ·injection hv with e1 e2 e3
  subst e1 e3
  refine ⟨q, 0, r4 g, rfl, ?_, intsAt4 (h5 i g _ hg (by rw [List.getElem?_map, hi]; rfl)) (hz zs (List.mem_of_getElem? hi))⟩
  rw [Nat.zero_add, h2.cellAt i (by omega), List.getElem?_map, hg]; rfl
end Go.Proofs.YtbdbmmdnidonjaaDoor
