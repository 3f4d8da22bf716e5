/- ImageTable on both sides: the heads of an image's functions. Premises: the magic bytes and the table of forms read as laid. -/
import Derived.Test.YtbdbmmdnidonjaaDoorUTt
import Derived.Test.YtbdbmmdnidonjaaDoorUJx
import Derived.Test.YtbdbmmdnidonjaaDoorUJd
import Derived.Deep.AppendLies
set_option linter.unusedVariables false
set_option linter.unusedSimpArgs false
set_option maxRecDepth 100000
namespace Go.Proofs.YtbdbmmdnidonjaaDoor
open Go.RowKit
theorem info_ints : (Tryd.prog.info? 26).map (fun i => (i.zero, i.size, i.bytes)) = some (some (.slice none 0 0), 1, 24) := by kernel_rfl
def secRow (s : Sec) : List Int := [s.par, s.slo, s.beg, s.siz]
def secRows (l : List Sec) : List (List Int) := l.map secRow
theorem secRows_len (l : List Sec) : (secRows l).length = l.length := by simp [secRows]
theorem secRows_snoc (l : List Sec) (s : Sec) : (secRows (l ++ [s])).map ints = (secRows l).map ints ++ [ints (secRow s)] := by simp [secRows]
def TabP (b : List Nat) (l : List Sec) (w : World) (e : Ending) (w' : World) : Prop := ∃ v, e = .returned v ∧ TabV w.heap.size w' v ((secRows l).map ints) ∧ Below w.heap.size w w'
theorem secF_next {b : List Nat} {m k : Nat} {l0 l : List Sec} {p q : Nat} (h : secF b k = some (l0, p)) (hm : secF b m = some (l, q)) (hk : k < m) : p + 4 ≤ b.length ∧ p + 4 + (secAt b p).siz ≤ b.length ∧ secF b (k + 1) = some (l0 ++ [secAt b p], p + 4 + (secAt b p).siz) := by
 cases h1 : secF b (k + 1) with
 |none => rw [secF_none h1 m (by omega)] at hm; cases hm
 |some r =>
  unfold secF at h1
  rw [h] at h1
  simp only [] at h1
  split at h1
  ·cases h1
  split at h1
  ·cases h1
  injection h1 with h1
  rw [← h1]
  exact ⟨by omega, by omega, rfl⟩
set_option maxHeartbeats 4000000 in
theorem table_any (w : World) (v : Value) (b : List Nat) (l : List Sec) (h : CsC w v b) (hle : b.length ≤ 1048576) (h3 : 3 ≤ b.length) (hs : secF b (byteN b 2) = some (l, b.length)) :
  Calls Tryd.prog 67 #[v] w (TabP b l w) := by
 obtain ⟨i0, hi, hz0, hz1, hz2⟩ := info_parts info_ints
 obtain ⟨⟨a, cap, rfl, hsm, hc⟩, _⟩ := h
 obtain ⟨L, hL⟩ : ∃ L, L = b.length := ⟨_, rfl⟩
 have HC : Hid (∀ i, i < L → ∃ g off, a = some ⟨g, off, none⟩ ∧ w.cell? ⟨g, off + i, none⟩ = some (.int .u8 ((byteN b i : Nat) : Int))) := Lib.hid (by rw [hL]; exact hc)
 have HSM := Lib.hid (fun i => byteN_lt hsm i)
 have HSF := Lib.hid hs
 obtain ⟨m, hm⟩ : ∃ m, m = byteN b 2 := ⟨_, rfl⟩
 have hm6 : m < 256 := by rw [hm]; exact HSM.out 2
 rw [← hm] at HSF
 have HSECS := Lib.hid (fun k l0 p (h : secF b k = some (l0, p)) (hk : k < m) => secF_next h HSF.out hk)
 have HSL := Lib.hid (fun k l0 p (h : secF b k = some (l0, p)) => secF_len h)
 rw [← hL] at HSECS HSL hle h3 ⊢
 obtain ⟨Q, hQ⟩ : ∃ Q, Q = TabP b l w := ⟨_, rfl⟩
 have HQ : Hid (∀ v w', TabV w.heap.size w' v ((secRows l).map ints) → Below w.heap.size w w' → Q (.returned v) w') := Lib.hid (fun v w' h1 h2 => by rw [hQ]; exact ⟨v, rfl, h1, h2⟩)
 rw [← hQ]
 obtain ⟨g, off, rfl, c2⟩ := HC.out 2 (by omega)
 rw [← hm] at c2
 have hL0 : (L : Int) ≤ 1048576 := by omega
 have hL3 : (3 : Int) ≤ L := by omega
 have hglt := World.block_lt_of_cell? _ _ c2
 have HM := Lib.hid hm
 have C2 := Lib.hid c2
 clear hsm hc hL hs hm hQ c2
 go_enter Tryd.func67, Tryd.ntmps67
 go_wp2_with (fail)
 generalize hwb : w.alloc _ = w1
 have hb1 : Below w.heap.size w w1 := by rw [← hwb]; exact below1 _ _
 have hn1 : w1.ownsRow w.heap.size 26 1 (.slice (some ⟨w.heap.size, 0, none⟩) 0 0) 0 [] := by rw [← hwb]; exact ownLit0 w _ _ rfl (Nat.le_refl _)
 have HN1 := Lib.hid hn1
 have HB1 := Lib.hid hb1
 clear hwb hb1 hn1
 go_loopw [3, 4, 5] (fun ov av kv wr => ∃ (l0 : List Sec) (p k : Nat) (oa : Option Addr) (oc : Nat), ov = .slice oa k oc ∧ av = .int .i64 (p : Int) ∧ kv = .int .i64 (k : Int) ∧ k ≤ m ∧ Hid (l0.length = k) ∧ Hid (secF b k = some (l0, p)) ∧ Hid (TabV w.heap.size wr ov ((secRows l0).map ints)) ∧ Hid (Below w.heap.size w wr)) (fun _ _ kv _ => m - (intOf kv).toNat)
 case atStart => exact ⟨[], 3, 0, _, _, rfl, rfl, rfl, Nat.zero_le _, Lib.hid rfl, Lib.hid rfl, Lib.hid ⟨[], rfl, HN1.out, List.nodup_nil, by simp, by simp⟩, HB1⟩
 case round =>
  obtain ⟨l0, p, k, oa, oc, rfl, rfl, rfl, hkm, HL0, HSK, HT, HB⟩ := hrel
  obtain ⟨wo, rfl⟩ : ∃ wo : World, wo = wr := ⟨_, rfl⟩
  have t2 := cellB HB.out C2.out
  have hsz := HB.out.size
  by_cases hgo : k < m
  ·have k0 : (0 : Int) ≤ k := by omega
   have k1 : (k : Int) < m := by omega
   obtain ⟨q1, q2, q3⟩ := HSECS.out k l0 p HSK.out hgo
   have hp3 := (HSL.out k l0 p HSK.out).2.1
   obtain ⟨_, _, e0, c0⟩ := HC.out p (by omega)
   injection e0 with e0; injection e0 with e0 e0'; subst e0 e0'
   obtain ⟨_, _, e1, c1⟩ := HC.out (p + 1) (by omega)
   injection e1 with e1; injection e1 with e1 e1'; subst e1 e1'
   obtain ⟨_, _, e2, c2⟩ := HC.out (p + 2) (by omega)
   injection e2 with e2; injection e2 with e2 e2'; subst e2 e2'
   obtain ⟨_, _, e3, c3⟩ := HC.out (p + 3) (by omega)
   injection e3 with e3; injection e3 with e3 e3'; subst e3 e3'
   have hsec : secAt b p = ⟨byteN b p, byteN b (p + 1), p + 4, byteN b (p + 2) + 256 * byteN b (p + 3)⟩ := rfl
   have b0 := HSM.out p; have b1 := HSM.out (p + 1); have b2 := HSM.out (p + 2); have b3 := HSM.out (p + 3)
   obtain ⟨y0, hy0⟩ : ∃ y, y = byteN b p := ⟨_, rfl⟩
   obtain ⟨y1, hy1⟩ : ∃ y, y = byteN b (p + 1) := ⟨_, rfl⟩
   obtain ⟨y2, hy2⟩ : ∃ y, y = byteN b (p + 2) := ⟨_, rfl⟩
   obtain ⟨y3, hy3⟩ : ∃ y, y = byteN b (p + 3) := ⟨_, rfl⟩
   rw [hsec] at q2 q3
   simp only [← hy0, ← hy1, ← hy2, ← hy3] at c0 c1 c2 c3 b0 b1 b2 b3 q2 q3
   have HS1 := Lib.hid q3
   obtain ⟨N, hN⟩ : ∃ N, N = y2 + 256 * y3 := ⟨_, rfl⟩
   have hN2 : (y2 : Int) + 256 * y3 = N := by omega
   rw [← hN] at q2 HS1
   have d0 := cellB HB.out c0; have d1 := cellB HB.out c1; have d2 := cellB HB.out c2; have d3 := cellB HB.out c3
   have s2 : IntKind.i64.wrap ((p : Int) + 2) = (p : Int) + 2 := IntWalk.i64_in _ (by omega)
   have s3 : IntKind.i64.wrap ((p : Int) + 3) = (p : Int) + 3 := IntWalk.i64_in _ (by omega)
   have s1 : IntKind.i64.wrap ((p : Int) + 1) = (p : Int) + 1 := IntWalk.i64_in _ (by omega)
   have s4 : IntKind.i64.wrap ((p : Int) + 4) = (p : Int) + 4 := IntWalk.i64_in _ (by omega)
   have s5 : IntKind.i64.wrap (256 * (y3 : Int)) = 256 * (y3 : Int) := IntWalk.i64_in _ (by omega)
   have s6 : IntKind.i64.wrap ((y2 : Int) + 256 * (y3 : Int)) = N := by rw [IntWalk.i64_in _ (by omega)]; exact hN2
   have s7 : IntKind.i64.wrap ((p : Int) + 4 + N) = (p : Int) + 4 + N := IntWalk.i64_in _ (by omega)
   have v0 : IntKind.i64.wrap (y0 : Int) = y0 := IntWalk.i64_in _ (by omega)
   have v1 : IntKind.i64.wrap (y1 : Int) = y1 := IntWalk.i64_in _ (by omega)
   have v2 : IntKind.i64.wrap (y2 : Int) = y2 := IntWalk.i64_in _ (by omega)
   have v3 : IntKind.i64.wrap (y3 : Int) = y3 := IntWalk.i64_in _ (by omega)
   have l0' : (p : Int) < L := by omega
   have l1 : (p : Int) + 1 < L := by omega
   have l2 : (p : Int) + 2 < L := by omega
   have l3 : (p : Int) + 3 < L := by omega
   have i1 : ((p : Int) + 1).toNat = p + 1 := by omega
   have i2 : ((p : Int) + 2).toNat = p + 2 := by omega
   have i3 : ((p : Int) + 3).toNat = p + 3 := by omega
   have n0 : (0 : Int) ≤ (p : Int) := by omega
   have n1 : (0 : Int) ≤ (p : Int) + 1 := by omega
   have n2 : (0 : Int) ≤ (p : Int) + 2 := by omega
   have n3 : (0 : Int) ≤ (p : Int) + 3 := by omega
   clear hy0 hy1 hy2 hy3 c0 c1 c2 c3 hsec q3 hN
   have y2' : ∀ n, (wo.drewN n).cell? ⟨g, off + (p + 2), none⟩ = some (.int .u8 (y2 : Int)) := fun _ => d2
   have y3' : ∀ n, (wo.drewN n).cell? ⟨g, off + (p + 3), none⟩ = some (.int .u8 (y3 : Int)) := fun _ => d3
   have y0' : ∀ n, (wo.drewN n).cell? ⟨g, off + p, none⟩ = some (.int .u8 (y0 : Int)) := fun _ => d0
   have y1' : ∀ n, (wo.drewN n).cell? ⟨g, off + (p + 1), none⟩ = some (.int .u8 (y1 : Int)) := fun _ => d1
   have HKQ : Hid (∀ n, Below w.heap.size w (wo.drewN n)) := Lib.hid (fun n => belowDrewN HB.out n)
   have HTQ : Hid (∀ n, TabV w.heap.size (wo.drewN n) (.slice oa k oc) ((secRows l0).map ints)) := Lib.hid (fun n => HT.out.keep (fun _ _ _ => rfl))
   clear d0 d1 d2 d3 HB HT
   go_wp2_with (fail)
   go_quiet (fail)
   have t0 := y0' nq; have t1 := y1' nq
   have HKX := Lib.hid (HKQ.out nq); have HTX := Lib.hid (HTQ.out nq)
   clear y0' y1' y2' y3' HKQ HTQ hsz
   generalize wo.drewN nq = wq at *
   have t0' : wq.drew.cell? ⟨g, off + p, none⟩ = some (.int .u8 (y0 : Int)) := t0
   have t1' : wq.drew.cell? ⟨g, off + (p + 1), none⟩ = some (.int .u8 (y1 : Int)) := t1
   go_wp2_with (fail)
   refine wp_region_tree (fun W => W.cell? ⟨g, off + p, none⟩ = some (.int .u8 (y0 : Int)) ∧ W.cell? ⟨g, off + (p + 1), none⟩ = some (.int .u8 (y1 : Int))) [(0, false), (1, false), (2, false), (3, false), (4, true), (5, false), (6, false), (7, false), (8, false), (9, false), (10, true), (11, false), (12, false), (13, false), (14, false)] (.alt 15 (.alt 16 (.alt 17 (.alt 18 .fin .none) .none) .none) .none) 15 (by kernel_rfl) (by kernel_rfl) (fun d v c a w h => by cases d <;> exact h) (⟨t0', t1'⟩) ?_
   simp only [pickO, List.map_cons, List.map_nil, List.getD_cons_zero, List.getD_cons_succ]
   refine heldO_stepY (v := ?_) rfl ?_ ?_
   rotate_left
   ·intro W
    go_simp
    try rfl
   simp only [Act.put, List.setIfInBounds_toArray, List.set_cons_zero, List.set_cons_succ]
   refine heldO_stepY (v := ?_) rfl ?_ ?_
   rotate_left
   ·intro W
    go_simp
    try rfl
   simp only [Act.put, List.setIfInBounds_toArray, List.set_cons_zero, List.set_cons_succ]
   refine heldO_stepY (v := ?_) rfl ?_ ?_
   rotate_left
   ·intro W
    go_simp
    try rfl
   simp only [Act.put, List.setIfInBounds_toArray, List.set_cons_zero, List.set_cons_succ]
   refine heldO_stepY (v := ?_) rfl ?_ ?_
   rotate_left
   ·intro W
    go_simp
    try rfl
   simp only [Act.put, List.setIfInBounds_toArray, List.set_cons_zero, List.set_cons_succ]
   refine heldO_step (v := ?_) rfl ?_ ?_
   rotate_left
   ·intro W hS
    obtain ⟨k0, k1⟩ := hS
    go_simp
    try rfl
   simp only [Act.put, List.setIfInBounds_toArray, List.set_cons_zero, List.set_cons_succ]
   refine heldO_stepY (v := ?_) rfl ?_ ?_
   rotate_left
   ·intro W
    go_simp
    try rfl
   simp only [Act.put, List.setIfInBounds_toArray, List.set_cons_zero, List.set_cons_succ]
   refine heldO_stepY (v := ?_) rfl ?_ ?_
   rotate_left
   ·intro W
    go_simp
    try rfl
   simp only [Act.put, List.setIfInBounds_toArray, List.set_cons_zero, List.set_cons_succ]
   refine heldO_stepY (v := ?_) rfl ?_ ?_
   rotate_left
   ·intro W
    go_simp
    try rfl
   simp only [Act.put, List.setIfInBounds_toArray, List.set_cons_zero, List.set_cons_succ]
   refine heldO_stepY (v := ?_) rfl ?_ ?_
   rotate_left
   ·intro W
    go_simp
    try rfl
   simp only [Act.put, List.setIfInBounds_toArray, List.set_cons_zero, List.set_cons_succ]
   refine heldO_stepY (v := ?_) rfl ?_ ?_
   rotate_left
   ·intro W
    go_simp
    try rfl
   simp only [Act.put, List.setIfInBounds_toArray, List.set_cons_zero, List.set_cons_succ]
   refine heldO_step (v := ?_) rfl ?_ ?_
   rotate_left
   ·intro W hS
    obtain ⟨k0, k1⟩ := hS
    go_simp
    try rfl
   simp only [Act.put, List.setIfInBounds_toArray, List.set_cons_zero, List.set_cons_succ]
   refine heldO_stepY (v := ?_) rfl ?_ ?_
   rotate_left
   ·intro W
    go_simp
    try rfl
   simp only [Act.put, List.setIfInBounds_toArray, List.set_cons_zero, List.set_cons_succ]
   refine heldO_stepY (v := ?_) rfl ?_ ?_
   rotate_left
   ·intro W
    go_simp
    try rfl
   simp only [Act.put, List.setIfInBounds_toArray, List.set_cons_zero, List.set_cons_succ]
   refine heldO_stepY (v := ?_) rfl ?_ ?_
   rotate_left
   ·intro W
    go_simp
    try rfl
   simp only [Act.put, List.setIfInBounds_toArray, List.set_cons_zero, List.set_cons_succ]
   refine heldO_stepY (v := ?_) rfl ?_ ?_
   rotate_left
   ·intro W
    go_simp
    try rfl
   simp only [Act.put, List.setIfInBounds_toArray, List.set_cons_zero, List.set_cons_succ]
   refine heldO_nil ?_
   have HKD : Hid (Below w.heap.size w wq.drew) := Lib.hid HKX.out.drew
   obtain ⟨gs, hG⟩ : TabV w.heap.size wq.drew (.slice oa k oc) ((secRows l0).map ints) := HTX.out.keep (fun _ _ _ => rfl)
   have HG := Lib.hid hG
   have hlen : ((secRows l0).map ints).length = k := by rw [List.length_map, secRows_len]; exact HL0.out
   have HR : Hid (wq.drew.ownsRow w.heap.size 26 1 (.slice oa k oc) k (gs.map r4)) := Lib.hid (by have := hG.row; rw [hlen] at this; exact this)
   have HLN := Lib.hid hlen
   clear HKX HTX t0 t1 t0' t1' hG hlen s1 s2 s3 s4 s5 s6 v0 v1 v2 v3 l0' l1 l2 l3 i1 i2 i3 n0 n1 n2 n3 hN2 b0 b1 b2 b3 hL3 hp3 q1
   generalize wq.drew = wd at *
   have hsz := HKD.out.size
   refine treeO_alt rfl rfl ?_ treeO_none
   intro K hK
   go_simp
   refine hK _ _ (fun h => absurd h (by decide)) ?_
   clear hK K
   refine treeO_alt rfl rfl ?_ treeO_none
   intro K hK
   go_simp
   refine hK _ _ (fun h => absurd h (by decide)) ?_
   clear hK K
   refine treeO_alt rfl rfl ?_ treeO_none
   intro K hK
   refine lies_wp rfl ?_
   refine step_append_lies (E := False) _ rfl _ _ 53 (by rfl) w.heap.size 26 i0 (.slice none 0 0) 1 24 Tryd.underlying53 hi hz0 hz1 hz2 rfl (by decide) _ k (gs.map r4) (by rfl) ((HR.out.alloc _).alloc _) ⟨wd.heap.size + 1, 0, none⟩ 1 1 [r4 wd.heap.size] (by rfl) rfl (World.news_of_block (cs := #[r4 wd.heap.size]) (t := 26) (fr := (0, 0)) (by have h := heap_alloc_new (wd.alloc (.cells #[.int .i64 (y0 : Int), .int .i64 (y1 : Int), .int .i64 ((p : Int) + 4), .int .i64 (N : Int)] 3)) (.cells #[r4 wd.heap.size] 26); rw [show (wd.alloc (.cells #[.int .i64 (y0 : Int), .int .i64 (y1 : Int), .int .i64 ((p : Int) + 4), .int .i64 (N : Int)] 3)).heap.size = wd.heap.size + 1 by simp] at h; exact h)) (by simp [r4, Value.oneCell']) (by decide) (by unfold maxLen; omega) (by omega) (by simp; omega) _ rfl ?_
   intro g9 c9 w9 ho9 hg9 hat9 _
   have HO9 := Lib.hid ho9; have HG9 := Lib.hid hg9
   have HA9 : Hid ((Value.slice (some ⟨g9, 0, none⟩) (k + 1) c9).ownBlock = (Value.slice oa k oc).ownBlock ∨ (Value.slice (some ⟨g9, 0, none⟩) (k + 1) c9).ownBlock = some ((wd.alloc (.cells #[.int .i64 (y0 : Int), .int .i64 (y1 : Int), .int .i64 ((p : Int) + 4), .int .i64 (N : Int)] 3)).alloc (.cells #[r4 wd.heap.size] 26)).heap.size) := Lib.hid (by
    rcases hat9 with h | h
    ·exact .inl h.symm
    ·exact .inr (by rw [h]; rfl))
   refine hK _ _ (fun h => absurd h (by decide)) ?_
   clear hK K ho9 hg9 hat9
   refine treeO_alt rfl rfl ?_ treeO_none
   intro K hK
   go_simp
   refine hK _ _ (fun h => absurd h (by decide)) ?_
   clear hK K
   refine treeO_fin ?_
   go_wp2_with (fail)
   go_roundw
   case rel =>
    refine ⟨l0 ++ [⟨y0, y1, p + 4, N⟩], p + 4 + N, k + 1, _, _, rfl, by go_num, by go_num, by omega, Lib.hid (by rw [List.length_append, HL0.out]; rfl), HS1, Lib.hid ?_, Lib.hid ?_⟩
    ·rw [secRows_snoc]
     have hb2 : Below wd.heap.size wd ((wd.alloc (.cells #[.int .i64 (y0 : Int), .int .i64 (y1 : Int), .int .i64 ((p : Int) + 4), .int .i64 (N : Int)] 3)).alloc (.cells #[r4 wd.heap.size] 26)) := (below1 _ _).alloc (by simp) _
     have hr : ((wd.alloc (.cells #[.int .i64 (y0 : Int), .int .i64 (y1 : Int), .int .i64 ((p : Int) + 4), .int .i64 (N : Int)] 3)).alloc (.cells #[r4 wd.heap.size] 26)).ownsRow w.heap.size 3 1 (r4 wd.heap.size) 4 (ints (secRow ⟨y0, y1, p + 4, N⟩)) := (World.ownsRow_lit wd _ 4 hsz (by decide) rfl).alloc _
     exact HG.out.app hb2 (Nat.le_refl _) hr (by rw [HLN.out]; exact HO9.out) HG9.out HA9.out
    ·exact ((HKD.out.alloc hsz _).alloc (by simp; omega) _).grown HG9.out (by simp; omega) (fun q hq => ownBlock_of HR.out q hq)
   case measure => simp [intOf]; omega
  ·obtain rfl : m = k := by omega
   have HE := Lib.hid HSF.out
   go_wp2_with (fail)
   first | go_ret | skip
   have hll : l0 = l := by have h1 := HSK.out; rw [HSF.out] at h1; injection h1 with h1; injection h1 with h1; exact h1.symm
   subst hll
   exact HQ.out _ _ HT.out HB.out
end Go.Proofs.YtbdbmmdnidonjaaDoor
