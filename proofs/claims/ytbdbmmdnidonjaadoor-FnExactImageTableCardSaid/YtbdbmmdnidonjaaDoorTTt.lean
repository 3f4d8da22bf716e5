/- Rows of rows of numbers: what the laws' eqIntSS, markIntSS, heldIntSS, markByteS do with them. -/
import Derived.Test.YtbdbmmdnidonjaaDoorTJn
import Derived.Test.YtbdbmmdnidonjaaDoorTJx
import Derived.Test.YtbdbmmdnidonjaaDoorTJm
set_option linter.unusedVariables false
set_option linter.unusedSimpArgs false
set_option maxRecDepth 100000
namespace Go.Proofs.YtbdbmmdnidonjaaDoor
open Go.RowKit
/-- bytes of the call's own are marked: nothing else is touched -/
def MkbP (g n k : Nat) (w : World) (e : Ending) (w' : World) : Prop := e = .returned (.int .i64 ((k + n : Nat) : Int)) ∧ Only [g] w w'
set_option maxHeartbeats 1000000 in
theorem markByteS_any (w : World) (B g n cap k : Nat) (xs : List Value) (h : w.ownsRow B 5 1 (.slice (some ⟨g, 0, none⟩) n cap) n xs) (hk : k + n ≤ 1152921504606846976) :
    Calls Tryd.prog 38 #[.slice (some ⟨g, 0, none⟩) n cap, .int .i64 k] w (MkbP g n k w) := by
  have HO := Lib.hid h
  clear h
  go_enter Tryd.func38, Tryd.ntmps38
  go_wp2
  go_loopw [1, 5] (fun q i wr => ∃ (j : Nat) (ys : List Value), j ≤ n ∧ i = .int .i64 j ∧ q = .int .i64 ((k + j : Nat) : Int) ∧ wr.ownsRow B 5 1 (.slice (some ⟨g, 0, none⟩) n cap) n ys ∧ Only [g] w wr) (fun _ i _ => n - (intOf i).toNat)
  case atStart => exact ⟨0, xs, Nat.zero_le _, rfl, rfl, HO.out, Only.refl _ _⟩
  case round =>
    obtain ⟨j, ys, hj, rfl, rfl, hown, hB⟩ := hrel
    obtain ⟨wo, rfl⟩ : ∃ wo : World, wo = wr := ⟨_, rfl⟩
    by_cases hlt : j < n
    · have hlen : ys.length = n := by have := hown.1; omega
      have hfz := hown.frozenAt j
      have hck := hown.cellAt j (by omega)
      rw [List.getElem?_eq_getElem (by omega)] at hck
      have HST := Lib.hid (fun u => hown.stored j u)
      have HB' := Lib.hid (fun u => hB.setCell (p := ⟨g, j, none⟩) (List.mem_singleton.2 rfl) u)
      clear hown hB
      have hcast : ((k + j : Nat) : Int) = (k : Int) + j := by omega
      go_wp2
      go_roundw
      case rel =>
        exact ⟨j + 1, _, by omega, by go_num, by congr 1, (HST.out _).1, HB'.out _⟩
      case measure => simp [intOf]; omega
    · obtain rfl : j = n := by omega
      have HB' := Lib.hid hB
      clear hown hB
      go_wp2
      go_ret
      exact ⟨rfl, HB'.out⟩
/-- a new copy of bytes, as a row of the call's own -/
theorem toBytesO {w : World} {v : Value} {b : List Nat} (h : CsAt w v b) (hm : b.length ≤ 1099511627776) : Calls Tryd.prog 32 #[v] w fun e w' => ∃ g, e = .returned (.slice (some ⟨g, 0, none⟩) b.length b.length) ∧ w'.ownsRow w.heap.size 5 1 (.slice (some ⟨g, 0, none⟩) b.length b.length) b.length (u8s b) ∧ CsC w' (.slice (some ⟨g, 0, none⟩) b.length b.length) b ∧ Below w.heap.size w w' := by
  have h' := h
  obtain ⟨a, cap, rfl, hs, hc⟩ := h
  refine (toByteS_any w a cap _ b rfl hm hc).mono ?_
  rintro e w' ⟨g, rfl, ho, hb⟩
  refine ⟨g, rfl, ho, ⟨⟨_, _, rfl, hs, fun i hi => ⟨g, 0, rfl, ?_⟩⟩, _, _, rfl, Nat.le_refl _⟩, hb⟩
  have := ho.cellAt i (by omega)
  rw [Nat.zero_add, this]
  simp [u8s, byteN, List.getD_eq_getElem?_getD, hi]
def r4 (g : Nat) : Value := .slice (some ⟨g, 0, none⟩) 4 4
theorem nodup_idx {xs : List Nat} (h : xs.Nodup) {i j x : Nat} (hi : xs[i]? = some x) (hj : xs[j]? = some x) : i = j := by
  have a1 := idx_lt hi; have a2 := idx_lt hj
  rw [List.getElem?_eq_getElem a1] at hi; rw [List.getElem?_eq_getElem a2] at hj
  injection hi with hi; injection hj with hj
  have hp := List.pairwise_iff_getElem.1 h
  rcases Nat.lt_trichotomy i j with hl | hl | hl
  · exact absurd (hi.trans hj.symm) (hp i j a1 a2 hl)
  · exact hl
  · exact absurd (hj.trans hi.symm) (hp j i a2 a1 hl)
/-- rows of four in a row of the call's own, each in a block for itself -/
structure TabG (B : Nat) (w : World) (v : Value) (rows : List (List Value)) (gs : List Nat) : Prop where
  len : gs.length = rows.length
  row : w.ownsRow B 26 1 v rows.length (gs.map r4)
  nodup : gs.Nodup
  apart : ∀ g ∈ gs, v.ownBlock ≠ some g
  inner : ∀ (i g : Nat) (r : List Value), gs[i]? = some g → rows[i]? = some r → w.ownsRow B 3 1 (r4 g) 4 r
def TabV (B : Nat) (w : World) (v : Value) (rows : List (List Value)) : Prop := ∃ gs : List Nat, TabG B w v rows gs
theorem TabV.mono {B B' : Nat} {w : World} {v : Value} {rows : List (List Value)} (h : TabV B w v rows) (hB : B' ≤ B) : TabV B' w v rows := by
  obtain ⟨gs, h1, h2, h3, h4, h5⟩ := h
  exact ⟨gs, h1, ownsRow_mono h2 hB, h3, h4, fun i g r hg hr => ownsRow_mono (h5 i g r hg hr) hB⟩
theorem TabV.keep {B : Nat} {w w' : World} {v : Value} {rows : List (List Value)} (h : TabV B w v rows) (hb : ∀ k, B ≤ k → k < w.heap.size → w'.heap[k]? = w.heap[k]?) : TabV B w' v rows := by
  obtain ⟨gs, h1, h2, h3, h4, h5⟩ := h
  exact ⟨gs, h1, row_keep h2 (Nat.le_refl _) hb, h3, h4, fun i g r hg hr => row_keep (h5 i g r hg hr) (Nat.le_refl _) hb⟩
theorem TabV.below {B : Nat} {w w' : World} {v : Value} {rows : List (List Value)} (h : TabV B w v rows) (hb : Below w.heap.size w w') : TabV B w' v rows := h.keep fun k _ hk => hb.block k hk
theorem TabV.form {B : Nat} {w : World} {v : Value} {rows : List (List Value)} (h : TabV B w v rows) : ∃ a c, v = .slice a rows.length c := by
  obtain ⟨gs, h1, h2, _⟩ := h
  rcases h2.2 with ⟨rfl, h0⟩ | ⟨g, cap, cur, rfl, _⟩
  · exact ⟨none, 0, by rw [h0]⟩
  · exact ⟨_, _, rfl⟩
theorem TabV.nil (B : Nat) (w : World) : TabV B w (.slice none 0 0) [] := ⟨[], rfl, World.ownsRow_nil _ _ _ _, List.nodup_nil, by simp, by simp⟩
theorem r4_block (g : Nat) : (r4 g).ownBlock = some g := rfl
theorem TabG.app {B : Nat} {wo wa w' : World} {v v' : Value} {rows : List (List Value)} {gs : List Nat} {g : Nat} {r : List Value} (h : TabG B wo v rows gs) (hb : Below wo.heap.size wo wa) (hgw : wo.heap.size ≤ g)
    (hr : wa.ownsRow B 3 1 (r4 g) 4 r) (ho : w'.ownsRow B 26 1 v' (rows.length + 1) (gs.map r4 ++ [r4 g])) (hg : wa.grownBy w' v.ownBlock) (hat : v'.ownBlock = v.ownBlock ∨ v'.ownBlock = some wa.heap.size) : TabV B w' v' (rows ++ [r]) := by
  obtain ⟨h1, h2, h3, h4, h5⟩ := h
  have hin : ∀ q ∈ gs, q < wo.heap.size := fun q hq => by
    obtain ⟨i, hi⟩ := List.getElem?_of_mem hq
    obtain ⟨x, hx⟩ : ∃ x, rows[i]? = some x := ⟨_, List.getElem?_eq_getElem (by rw [← h1]; exact idx_lt hi)⟩
    exact (World.ownsRow.lt (h5 i q x hi hx) q rfl).2
  have hgl : g < wa.heap.size := (World.ownsRow.lt hr g rfl).2
  have hs := hb.size
  have hv : ∀ q, v.ownBlock = some q → q < wo.heap.size := fun q hq => (World.ownsRow.lt h2 q hq).2
  have hkeep : ∀ {q x}, v.ownBlock ≠ some q → wa.ownsRow B 3 1 (r4 q) 4 x → w'.ownsRow B 3 1 (r4 q) 4 x := fun {q x} hq hx => by
    refine ownsRow_same hx (fun k hk => hg.block k (World.ownsRow.lt hx k hk).2 (fun e => ?_))
    rw [r4_block] at hk; injection hk with hk
    exact hq (by rw [hk]; exact e.symm)
  refine ⟨gs ++ [g], by simp [h1], by rw [List.length_append, List.map_append]; exact ho, ?_, fun q hq => ?_, fun i q x hq hx => ?_⟩
  · refine List.nodup_append.2 ⟨h3, by simp, fun a ha b hb => ?_⟩
    rw [List.mem_singleton] at hb
    have := hin a ha
    omega
  · have hlq : q < wa.heap.size := by
      rcases List.mem_append.1 hq with h | h
      · have := hin q h; omega
      · rw [List.mem_singleton.1 h]; exact hgl
    have hnq : v.ownBlock ≠ some q := by
      rcases List.mem_append.1 hq with h | h
      · exact h4 q h
      · rw [List.mem_singleton.1 h]; intro e; have := hv g e; omega
    rcases hat with h | h
    · rw [h]; exact hnq
    · rw [h]; intro e; injection e with e; omega
  · have hi2 : i < gs.length ∨ i = gs.length := by have := idx_lt hq; simp at this; omega
    rcases hi2 with hi | hi
    · rw [List.getElem?_append_left hi] at hq
      rw [List.getElem?_append_left (by omega)] at hx
      exact hkeep (h4 q (List.mem_of_getElem? hq)) (ownsRow_below (h5 i q x hq hx) hb)
    · rw [List.getElem?_append_right (by omega)] at hq
      rw [List.getElem?_append_right (by omega)] at hx
      simp only [hi, Nat.sub_self, h1, List.getElem?_cons_zero, Option.some.injEq] at hq hx
      subst hq hx
      exact hkeep (fun e => by have := hv _ e; omega) hr
/-- readable rows of numbers -/
def RowsAt (w : World) (v : Value) (zss : List (List Int)) : Prop :=
  ∃ a cap, v = .slice a zss.length cap ∧ ∀ i zs, zss[i]? = some zs → ∃ b off iv, a = some ⟨b, off, none⟩ ∧ w.cell? ⟨b, off + i, none⟩ = some iv ∧ IntsAt w iv zs
theorem RowsAt.below {w w' : World} {v : Value} {zss : List (List Int)} (h : RowsAt w v zss) (hb : Below w.heap.size w w') : RowsAt w' v zss := by
  obtain ⟨a, cap, hv, hc⟩ := h
  refine ⟨a, cap, hv, fun i zs hi => ?_⟩
  obtain ⟨b, off, iv, ha, c0, h1⟩ := hc i zs hi
  exact ⟨b, off, iv, ha, cellB hb c0, h1.below hb⟩
theorem intsAt4 {B : Nat} {w : World} {g : Nat} {zs : List Int} (h : w.ownsRow B 3 1 (r4 g) 4 (ints zs)) (hz : zs.length = 4) : IntsAt w (r4 g) zs :=
  ⟨_, 4, by unfold r4; rw [hz], fun i hi => ⟨g, 0, rfl, by
    rw [Nat.zero_add, World.ownsRow.cellAt h i (by omega)]
    simp [ints, List.getD_eq_getElem?_getD, hi]⟩⟩
theorem TabV.read {B : Nat} {w : World} {v : Value} {zss : List (List Int)} (h : TabV B w v (zss.map ints)) (hz : ∀ zs ∈ zss, zs.length = 4) : RowsAt w v zss := by
  obtain ⟨a, c, rfl⟩ := h.form
  obtain ⟨gs, h1, h2, h3, h4, h5⟩ := h
  rw [List.length_map] at h1 h2
  refine ⟨a, c, by rw [List.length_map], fun i zs hi => ?_⟩
  have hil := idx_lt hi
  obtain ⟨g, hg⟩ : ∃ g, gs[i]? = some g := ⟨_, List.getElem?_eq_getElem (by omega)⟩
  rcases h2.2 with ⟨h0, h0'⟩ | ⟨q, cap, cur, hv, _⟩
  · omega
  · injection hv with e1 e2 e3
    subst e1 e3
    refine ⟨q, 0, r4 g, rfl, ?_, intsAt4 (h5 i g _ hg (by rw [List.getElem?_map, hi]; rfl)) (hz zs (List.mem_of_getElem? hi))⟩
    rw [Nat.zero_add, h2.cellAt i (by omega), List.getElem?_map, hg]; rfl
set_option maxHeartbeats 1000000 in
theorem eqIntSS_same (w : World) (v v2 : Value) (zss : List (List Int)) (h : RowsAt w v zss) (h2 : RowsAt w v2 zss) (hm : zss.length ≤ 1048576) (hz : ∀ zs ∈ zss, zs.length = 4) :
    Calls Tryd.prog 37 #[v, v2] w (Yes w) := by
  obtain ⟨a, cap, rfl, hc⟩ := h
  obtain ⟨a2, cap2, rfl, hc2⟩ := h2
  have HC := Lib.hid hc; have HC2 := Lib.hid hc2
  have HZ := Lib.hid hz
  obtain ⟨n, hn⟩ : ∃ n, n = zss.length := ⟨_, rfl⟩
  have HN := Lib.hid hn
  rw [← hn] at hm ⊢
  obtain ⟨Q, hQ⟩ : ∃ Q, Q = Yes w := ⟨_, rfl⟩
  have HQ : Hid (∀ w', Below w.heap.size w w' → Q (.returned (.bool true)) w') := Lib.hid (fun w' h2 => by rw [hQ]; exact ⟨rfl, h2⟩)
  rw [← hQ]
  clear hc hc2 hn hQ hz
  go_enter Tryd.func37, Tryd.ntmps37
  have e0 : ((n : Int) != (n : Int)) = false := by simp
  go_wp2_with (fail)
  go_loopw [5] (fun i wr => ∃ j : Nat, j ≤ n ∧ i = .int .i64 j ∧ Hid (Below w.heap.size w wr)) (fun i _ => n - (intOf i).toNat)
  case atStart => exact ⟨0, Nat.zero_le _, rfl, Lib.hid (Below.refl _ _)⟩
  case round =>
    obtain ⟨j, hj, rfl, HB⟩ := hrel
    obtain ⟨wo, rfl⟩ : ∃ wo : World, wo = wr := ⟨_, rfl⟩
    by_cases hlt : j < n
    · have k0 : (0 : Int) ≤ j := by omega
      have k1 : (j : Int) < n := by omega
      obtain ⟨zs, hzs⟩ : ∃ zs, zss[j]? = some zs := ⟨_, List.getElem?_eq_getElem (by rw [← HN.out]; exact hlt)⟩
      obtain ⟨b, off, iv, rfl, c0, h1⟩ := HC.out j zs hzs
      obtain ⟨b2, off2, iv2, rfl, c2, h2⟩ := HC2.out j zs hzs
      have hl := HZ.out zs (List.mem_of_getElem? hzs)
      have t0 := cellB HB.out c0
      have t2 := cellB HB.out c2
      have t3 : wo.drew.cell? ⟨b, off + j, none⟩ = some iv := t0
      have t4 : wo.drew.cell? ⟨b2, off2 + j, none⟩ = some iv2 := t2
      have HD : Hid (Below w.heap.size w wo.drew) := Lib.hid HB.out.drew
      have HI1 := Lib.hid (h1.below HD.out)
      have HI2 := Lib.hid (h2.below HD.out)
      obtain ⟨ia, ic, rfl, _⟩ := h1
      obtain ⟨ib, id, rfl, _⟩ := h2
      have HL := Lib.hid hl
      rw [hl] at t0 t2 t3 t4 HI1 HI2
      clear c0 c2 hzs HB hl
      go_wp2_with (fail)
      go_still_tail 8, (by kernel_rfl)
      change wpList _ _ _ _ _ wo.drew
      generalize wo.drew = wd at *
      go_wp2_with (fail)
      go_at_call 21
      refine (eqInts HI1.out HI2.out (by rw [HL.out]; omega)).mono ?_
      rintro e w6 ⟨rfl, hb⟩
      have HB6 := Lib.hid (HD.out.trans (hb.mono HD.out.size))
      clear hb t0 t2 t3 t4 HI1 HI2 HD
      go_wp2_with (fail)
      go_roundw
      case rel => exact ⟨j + 1, by omega, by go_num, HB6⟩
      case measure => simp [intOf]; omega
    · obtain rfl : n = j := by omega
      go_wp2_with (fail)
      first | go_ret | skip
      exact HQ.out _ HB.out
def markedRows (k n : Nat) : List (List Int) := (List.range n).map fun i => iota (k + 4 * i) 4
theorem markedRows_len (k n : Nat) : (markedRows k n).length = n := by simp [markedRows]
theorem markedRows_at {k n i : Nat} (h : i < n) : (markedRows k n)[i]? = some (iota (k + 4 * i) 4) := by simp [markedRows, h]
theorem markedRows_four {k n : Nat} : ∀ zs ∈ markedRows k n, zs.length = 4 := fun zs h => by
  obtain ⟨i, hi⟩ := List.getElem?_of_mem h
  have hl := idx_lt hi
  rw [markedRows_len] at hl
  rw [markedRows_at hl] at hi
  injection hi with hi
  rw [← hi, iota_length]
def MkssP (B : Nat) (v : Value) (n k : Nat) (w : World) (e : Ending) (w' : World) : Prop :=
  e = .returned (.int .i64 ((k + 4 * n : Nat) : Int)) ∧ TabV B w' v ((markedRows k n).map ints) ∧ Below B w w'
set_option maxHeartbeats 2000000 in
theorem markIntSS_any (w : World) (B : Nat) (v : Value) (n k : Nat) (rows : List (List Value)) (hn : n = rows.length) (h : TabV B w v rows) (hB : B ≤ w.heap.size) (hm : n ≤ 1048576) (hk : k ≤ 1099511627776) :
    Calls Tryd.prog 39 #[v, .int .i64 k] w (MkssP B v n k w) := by
  obtain ⟨a, cap, rfl⟩ := h.form
  obtain ⟨gs, h1, h2, h3, h4, h5⟩ := h
  have HG1 := Lib.hid h1; have HG3 := Lib.hid h3; have HG4 := Lib.hid h4
  have HN := Lib.hid hn
  have HOUT := Lib.hid h2
  have H5 := Lib.hid h5
  have hB0 := Lib.hid hB
  rw [← hn] at HOUT HG1 HG4 ⊢
  obtain ⟨Q, hQ⟩ : ∃ Q, Q = MkssP B (.slice a n cap) n k w := ⟨_, rfl⟩
  have HQ : Hid (∀ w', TabV B w' (.slice a n cap) ((markedRows k n).map ints) → Below B w w' → Q (.returned (.int .i64 ((k + 4 * n : Nat) : Int))) w') := Lib.hid (fun w' h1 h2 => by rw [hQ]; exact ⟨rfl, h1, h2⟩)
  rw [← hQ]
  clear h1 h2 h3 h4 h5 hn hQ hB
  go_enter Tryd.func39, Tryd.ntmps39
  go_wp2_with (fail)
  go_loopw [1, 5] (fun q i wr => ∃ j : Nat, j ≤ n ∧ i = .int .i64 j ∧ q = .int .i64 ((k + 4 * j : Nat) : Int) ∧ Hid (wr.ownsRow B 26 1 (.slice a n cap) n (gs.map r4)) ∧ Hid (∀ i g, gs[i]? = some g → (i < j → wr.ownsRow B 3 1 (r4 g) 4 (ints (iota (k + 4 * i) 4))) ∧ (j ≤ i → ∃ r, wr.ownsRow B 3 1 (r4 g) 4 r)) ∧ Hid (Below B w wr)) (fun _ i _ => n - (intOf i).toNat)
  case atStart => exact ⟨0, Nat.zero_le _, rfl, rfl, HOUT, Lib.hid (fun i g hi => ⟨fun h => by omega, fun _ => by
    obtain ⟨r, hr⟩ : ∃ r, rows[i]? = some r := ⟨_, List.getElem?_eq_getElem (by rw [← HN.out, ← HG1.out]; exact idx_lt hi)⟩
    exact ⟨r, H5.out i g r hi hr⟩⟩), Lib.hid (Below.refl _ _)⟩
  case round =>
    obtain ⟨j, hj, rfl, rfl, HO, HR, HB⟩ := hrel
    obtain ⟨wo, rfl⟩ : ∃ wo : World, wo = wr := ⟨_, rfl⟩
    by_cases hlt : j < n
    · have k0 : (0 : Int) ≤ j := by omega
      have k1 : (j : Int) < n := by omega
      obtain ⟨g, hg⟩ : ∃ g, gs[j]? = some g := ⟨_, List.getElem?_eq_getElem (by rw [HG1.out]; exact hlt)⟩
      rcases HO.out.2 with ⟨h0, h0'⟩ | ⟨q, cp, cur, hv, _⟩
      · omega
      injection hv with e1 e2 e3
      subst e1 e3
      have hc := HO.out.cellAt j (by omega)
      rw [List.getElem?_map, hg] at hc
      simp only [Option.map_some] at hc
      obtain ⟨r, hr⟩ := (HR.out j g hg).2 (Nat.le_refl _)
      have HMK := Lib.hid (markIntS_only wo B (r4 g) 4 (k + 4 * j) r hr (by omega))
      have HGJ := Lib.hid hg
      have hne : (Value.slice (some ⟨q, 0, none⟩) n cap).ownBlock ≠ some g := HG4.out g (List.mem_of_getElem? hg)
      have HNE := Lib.hid hne
      have hcast : ((k + 4 * j : Nat) : Int) = (k : Int) + 4 * j := by omega
      have hbo : B ≤ g := (ownsRow_lt hr).2.1
      have hsz := HB.out.size
      unfold r4 at HMK
      unfold r4 at hc
      have t0 : wo.cell? ⟨q, j, none⟩ = some (.slice (some ⟨g, 0, none⟩) 4 4) := by simpa using hc
      clear hc hr hg hne
      go_wp2_with (fail)
      go_at_call 28
      refine (HMK.out).mono ?_
      rintro e w6 ⟨rfl, ho, hon⟩
      have hon : Only [g] wo w6 := hon
      have HO6 := Lib.hid (ownsRow_same HO.out (fun k hk => hon.block k (World.ownsRow.lt HO.out k hk).2 (fun hm => HNE.out (by rw [List.mem_singleton.1 hm] at hk; exact hk))))
      have HB6 := Lib.hid (Only.below HB.out hon (by have := hB0.out; omega) (fun b hb => by rw [List.mem_singleton.1 hb]; exact hbo))
      have HR6 : Hid (∀ i g, gs[i]? = some g → (i < j + 1 → w6.ownsRow B 3 1 (r4 g) 4 (ints (iota (k + 4 * i) 4))) ∧ (j + 1 ≤ i → ∃ r, w6.ownsRow B 3 1 (r4 g) 4 r)) := Lib.hid (fun i g2 hg2 => by
        have keep : ∀ r, i ≠ j → wo.ownsRow B 3 1 (r4 g2) 4 r → w6.ownsRow B 3 1 (r4 g2) 4 r := fun r hij hr => by
          refine ownsRow_same hr (fun k hk => hon.block k (World.ownsRow.lt hr k hk).2 (fun hm => hij ?_))
          rw [r4_block] at hk
          injection hk with hk
          have e2 : g2 = g := by rw [hk]; exact List.mem_singleton.1 hm
          subst e2
          exact nodup_idx HG3.out hg2 HGJ.out
        refine ⟨fun hi => ?_, fun hi => ?_⟩
        · by_cases hij : i = j
          · subst hij
            rw [HGJ.out] at hg2; injection hg2 with hg2; subst hg2
            exact ho
          · exact keep _ hij ((HR.out i g2 hg2).1 (by omega))
        · obtain ⟨r, hr⟩ := (HR.out i g2 hg2).2 (by omega)
          exact ⟨r, keep _ (by omega) hr⟩)
      have hc2 : ((k + 4 * j + 4 : Nat) : Int) = ((k + 4 * (j + 1) : Nat) : Int) := by omega
      clear ho hon HMK t0
      go_wp2_with (fail)
      go_roundw
      case rel => exact ⟨j + 1, by omega, by go_num, by congr 1, HO6, HR6, HB6⟩
      case measure => simp [intOf]; omega
    · obtain rfl : n = j := by omega
      go_wp2_with (fail)
      first | go_ret | skip
      refine HQ.out _ ⟨gs, by rw [List.length_map, markedRows_len]; exact HG1.out, ?_, HG3.out, HG4.out, fun i g r hg hr => ?_⟩ HB.out
      · rw [List.length_map, markedRows_len]; exact HO.out
      · have hi : i < n := by rw [← HG1.out]; exact idx_lt hg
        rw [List.getElem?_map, markedRows_at hi] at hr
        injection hr with hr; subst hr
        exact (HR.out i g hg).1 hi
set_option maxHeartbeats 1000000 in
theorem heldIntSS_any (w : World) (v : Value) (n k : Nat) (h : RowsAt w v (markedRows k n)) (hm : n ≤ 1048576) (hk : k ≤ 1048576) :
    Calls Tryd.prog 40 #[v, .int .i64 k] w fun e w' => e = .returned (.int .i64 ((k + 4 * n : Nat) : Int)) ∧ w = w' := by
  obtain ⟨a, cap, rfl, hc⟩ := h
  have HC := Lib.hid hc
  rw [markedRows_len]
  clear hc
  go_enter Tryd.func40, Tryd.ntmps40
  go_wp2_with (fail)
  go_loopw [1, 5] (fun q i wr => ∃ j : Nat, j ≤ n ∧ i = .int .i64 j ∧ q = .int .i64 ((k + 4 * j : Nat) : Int) ∧ w = wr) (fun _ i _ => n - (intOf i).toNat)
  case atStart => exact ⟨0, Nat.zero_le _, rfl, rfl, by first | rfl | trivial⟩
  case round =>
    obtain ⟨j, hj, rfl, rfl, rfl⟩ := hrel
    by_cases hlt : j < n
    · have k0 : (0 : Int) ≤ j := by omega
      have k1 : (j : Int) < n := by omega
      obtain ⟨b, off, iv, rfl, c0, h1⟩ := HC.out j _ (markedRows_at hlt)
      have HI := Lib.hid h1
      have hcast : ((k + 4 * j : Nat) : Int) = (k : Int) + 4 * j := by omega
      obtain ⟨ia, ic, rfl, _⟩ := h1
      rw [iota_length] at HI c0
      go_wp2_with (fail)
      go_at_call 45
      refine (heldIntS_any w _ 4 (k + 4 * j) HI.out (by omega)).mono ?_
      rintro e _ ⟨rfl, rfl⟩
      have hc2 : ((k + 4 * j + 4 : Nat) : Int) = ((k + 4 * (j + 1) : Nat) : Int) := by omega
      have h0 : (0 : Int) ≤ ((k + 4 * j + 4 : Nat) : Int) := by omega
      clear HI
      go_wp2_with (fail)
      go_roundw
      case rel => exact ⟨j + 1, by omega, by go_num, by congr 1, by first | rfl | trivial⟩
      case measure => simp [intOf]; omega
    · obtain rfl : n = j := by omega
      go_wp2_with (fail)
      first | go_ret | skip
      exact ⟨rfl, rfl⟩
end Go.Proofs.YtbdbmmdnidonjaaDoor
