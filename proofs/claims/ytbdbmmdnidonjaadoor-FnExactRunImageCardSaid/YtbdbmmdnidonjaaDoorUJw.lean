/- Where the functions of an image lie, on impl's side: bytes.HasPrefix, sections. The bytes of a program, on impl's side: ImageOf. -/
import Derived.Test.YtbdbmmdnidonjaaDoorUJv
import Derived.Test.YtbdbmmdnidonjaaDoorUJd
set_option linter.unusedVariables false
set_option linter.unusedSimpArgs false
set_option maxRecDepth 100000
namespace Go.Proofs.YtbdbmmdnidonjaaDoor
open Go.RowKit
/-- the two bytes ahead of an image, in their variable -/
def Magic (w : World) : Prop := ∃ mb mo mc, w.cell? ⟨0, 0, none⟩ = some (.slice (some ⟨mb, mo, none⟩) 2 mc) ∧ w.cell? ⟨mb, mo, none⟩ = some (.int .u8 87) ∧ w.cell? ⟨mb, mo + 1, none⟩ = some (.int .u8 119)
theorem Magic.below {w w' : World} (h : Magic w) (hb : Below w.heap.size w w') : Magic w' := by
 obtain ⟨mb, mo, mc, h1, h2, h3⟩ := h
 exact ⟨mb, mo, mc, cellB hb h1, cellB hb h2, cellB hb h3⟩
theorem magic_cs {w : World} {mb mo mc : Nat} (h2 : w.cell? ⟨mb, mo, none⟩ = some (.int .u8 87)) (h3 : w.cell? ⟨mb, mo + 1, none⟩ = some (.int .u8 119)) : CsAt w (.slice (some ⟨mb, mo, none⟩) 2 mc) [87, 119] := by
 refine ⟨_, _, rfl, by decide, fun i hi => ⟨mb, mo, rfl, ?_⟩⟩
 have hi2 : i = 0 ∨ i = 1 := by simp at hi; omega
 rcases hi2 with rfl | rfl
 ·exact h2
 ·exact h3
theorem cut2 {b : List Nat} (h : 2 ≤ b.length) : decide (cutN b 0 2 = [87, 119]) = ((byteN b 0 == 87) && (byteN b 1 == 119)) := by
 have : cutN b 0 2 = [byteN b 0, byteN b 1] := by
  apply List.ext_getElem
  ·rw [cutN_len (by omega)]; rfl
  ·intro i h1 h2
   have hi : i = 0 ∨ i = 1 := by simp at h2; omega
   have key := cutN_byte b 0 2 i (by omega)
   unfold byteN at key
   rw [List.getD_eq_getElem?_getD, List.getElem?_eq_getElem h1] at key
   simp only [Option.getD_some] at key
   rw [key]
   rcases hi with rfl | rfl <;> simp [byteN]
 rw [this, Bool.eq_iff_iff]
 simp
set_option maxHeartbeats 1000000 in
theorem prefix_any (w : World) (v : Value) (b : List Nat) (mb mo mc : Nat) (h : CsC w v b) (h2 : w.cell? ⟨mb, mo, none⟩ = some (.int .u8 87)) (h3 : w.cell? ⟨mb, mo + 1, none⟩ = some (.int .u8 119)) (hle : b.length ≤ 1048576) :
  Calls Tryd.prog 92 #[v, .slice (some ⟨mb, mo, none⟩) 2 mc] w fun e w' => e = .returned (.bool (decide (2 ≤ b.length) && (byteN b 0 == 87) && (byteN b 1 == 119))) ∧ w = w' := by
 have hcs := h
 obtain ⟨a, cap, rfl, hcap⟩ := h.2
 obtain ⟨R, hR⟩ : ∃ R, R = (decide (2 ≤ b.length) && (byteN b 0 == 87) && (byteN b 1 == 119)) := ⟨_, rfl⟩
 rw [← hR]
 by_cases hL : 2 ≤ b.length
 ·have hR2 : R = decide (cutN b 0 2 = [87, 119]) := by rw [hR, cut2 hL]; simp [hL]
  have hsl : ∀ w', (Instr.slice 22 (.slice a b.length cap) none (some (.int .i64 2)) none).run Tryd.prog w' = .ok (.slice a 2 cap) w' := slice_h (n := 2) hL hcap
  obtain ⟨⟨a2, c2, hv, hs, hc⟩, _⟩ := hcs
  injection hv with e1 e2 e3; subst e1 e3
  have hpre : CsAt w (.slice a 2 cap) (cutN b 0 2) := csAt_prefix (at_ := 0) (R := b.length) (fun i hi => by rw [Nat.zero_add]; exact hc i hi) hL (by omega) hs
  have HBQ := Lib.hid (beq_any w _ _ _ _ hpre (magic_cs (mc := mc) h2 h3))
  rw [← hR2] at HBQ
  obtain ⟨L, hLe⟩ : ∃ L, L = b.length := ⟨_, rfl⟩
  rw [← hLe] at hsl hL ⊢
  have g1 : (2 : Int) ≤ L := by omega
  clear hR hR2 hs hc hpre hLe h hcap h2 h3
  go_enter Tryd.func92, Tryd.ntmps92
  go_wp2_with (fail)
  go_at_call 91
  refine HBQ.out.mono ?_
  rintro e _ ⟨rfl, rfl⟩
  go_wp2_with (fail)
  go_ret
  exact ⟨rfl, rfl⟩
 ·have hRf : R = false := by rw [hR]; simp [hL]
  subst hRf
  obtain ⟨L, hLe⟩ : ∃ L, L = b.length := ⟨_, rfl⟩
  rw [← hLe] at hL ⊢
  have g1 : decide ((2 : Int) ≤ L) = false := by simp; omega
  clear hR hcs h hcap hLe
  go_enter Tryd.func92, Tryd.ntmps92
  go_wp2_with (fail)
  go_ret
  exact ⟨rfl, rfl⟩
def secCells (l : List Sec) : List Value := l.flatMap fun s => [.int .i64 (s.par : Int), .int .i64 (s.slo : Int), .int .i64 (s.beg : Int), .int .i64 (s.siz : Int)]
theorem secCells_snoc (l : List Sec) (s : Sec) : secCells (l ++ [s]) = secCells l ++ [.int .i64 (s.par : Int), .int .i64 (s.slo : Int), .int .i64 (s.beg : Int), .int .i64 (s.siz : Int)] := by simp [secCells]
theorem info_sec : (Tryd.prog.info? 87).map (fun i => (i.zero, i.size, i.bytes)) = some (some (.agg #[.int .i64 0, .int .i64 0, .int .i64 0, .int .i64 0]), 4, 32) := by kernel_rfl
def SecP (b : List Nat) (w : World) (e : Ending) (w' : World) : Prop :=
 ∃ (v : Value) (l : List Sec) (ok : Bool), e = .returned (.tuple #[v, .bool ok]) ∧ (ok = true → headN b = true ∧ secF b (byteN b 2) = some (l, b.length) ∧ w'.ownsRow w.heap.size 87 4 v l.length (secCells l)) ∧
  (ok = false → ¬ (headN b = true ∧ ∃ l, secF b (byteN b 2) = some (l, b.length))) ∧ Below w.heap.size w w'
set_option maxHeartbeats 8000000 in
theorem sections_any (w : World) (v : Value) (b : List Nat) (hM : Magic w) (h : CsC w v b) (hle : b.length ≤ 1048576) :
  Calls Tryd.prog 68 #[v] w (SecP b w) := by
 obtain ⟨j0, hj, hw0, hw1, hw2⟩ := info_parts info_sec
 have HCS := Lib.hid h
 obtain ⟨mb, mo, mc, m0, m1, m2⟩ := hM
 have HPX := Lib.hid (prefix_any w v b mb mo mc h m1 m2 hle)
 obtain ⟨a, cap, rfl, hcap⟩ := h.2
 obtain ⟨⟨a2, c2, hv2, hsm, hcc⟩, _⟩ := h
 injection hv2 with e1 e2 e3; subst e1 e3
 obtain ⟨L, hL⟩ : ∃ L, L = b.length := ⟨_, rfl⟩
 have HB6 : Hid (∀ i, byteN b i < 256) := Lib.hid (fun i => byteN_lt hsm i)
 have HC : Hid (∀ i, i < L → ∃ g off, a = some ⟨g, off, none⟩ ∧ w.cell? ⟨g, off + i, none⟩ = some (.int .u8 ((byteN b i : Nat) : Int))) := Lib.hid (by rw [hL]; exact hcc)
 have HNO : Hid (∀ w' v, ¬ (headN b = true ∧ ∃ l, secF b (byteN b 2) = some (l, b.length)) → Below w.heap.size w w' → SecP b w (.returned (.tuple #[v, .bool false])) w') := Lib.hid (fun w' v hd hb => ⟨v, [], false, rfl, (fun h => by cases h), fun _ => hd, hb⟩)
 have HYES : Hid (∀ w' v l, headN b = true → secF b (byteN b 2) = some (l, b.length) → w'.ownsRow w.heap.size 87 4 v l.length (secCells l) → Below w.heap.size w w' → SecP b w (.returned (.tuple #[v, .bool true])) w') := Lib.hid (fun w' v l h1 h2 h3 hb => ⟨v, l, true, rfl, fun _ => ⟨h1, h2, h3⟩, (fun h => by cases h), hb⟩)
 obtain ⟨Q, hQ⟩ : ∃ Q, Q = SecP b w := ⟨_, rfl⟩
 rw [← hQ] at HNO HYES ⊢
 obtain ⟨pr, hpr⟩ : ∃ pr, pr = (decide (2 ≤ b.length) && (byteN b 0 == 87) && (byteN b 1 == 119)) := ⟨_, rfl⟩
 rw [← hpr, ← hL] at HPX
 have HPR := Lib.hid hpr
 have HLN := Lib.hid hL
 rw [← hL] at hle HCS ⊢
 clear hQ hL hsm hcc hcap m1 m2 hpr
 go_enter Tryd.func68, Tryd.ntmps68
 go_wp2_with (fail)
 go_at_call 92
 refine HPX.out.mono ?_
 rintro e _ ⟨rfl, rfl⟩
 clear m0
 cases pr with
 |false =>
  have HX : Hid (¬ (headN b = true ∧ ∃ l, secF b (byteN b 2) = some (l, b.length))) := Lib.hid (fun h => by
   have h1 := h.1
   have h2 := HPR.out
   unfold headN at h1
   simp only [Bool.and_eq_true, decide_eq_true_eq, beq_iff_eq] at h1
   rw [h1.1.2, h1.2] at h2
   have : 2 ≤ b.length := by omega
   simp [this] at h2)
  go_wp2_with (fail)
  refine HNO.out _ _ HX.out ?_
  (repeat' (first | exact Below.refl _ _ | assumption | (refine Below.setCell ?_ ?_ _) | (refine Below.alloc ?_ ?_ _) | (refine belowDrewN ?_ _) | omega | (simp; done) | (simp; omega)))
 |true =>
  by_cases h3 : L < 3
  ·have g1 : (L : Int) < 3 := by omega
   have HX : Hid (¬ (headN b = true ∧ ∃ l, secF b (byteN b 2) = some (l, b.length))) := Lib.hid (fun h => by
    have h1 := h.1
    unfold headN at h1
    simp only [Bool.and_eq_true, decide_eq_true_eq] at h1
    have := HLN.out
    omega)
   clear h3
   go_wp2_with (fail)
   refine HNO.out _ _ HX.out ?_
   (repeat' (first | exact Below.refl _ _ | assumption | (refine Below.setCell ?_ ?_ _) | (refine Below.alloc ?_ ?_ _) | (refine belowDrewN ?_ _) | omega | (simp; done) | (simp; omega)))
  ·have g1 : decide ((L : Int) < 3) = false := by simp; omega
   obtain ⟨g, off, rfl, c0⟩ := HC.out 0 (by omega)
   have hcell : ∀ i, i < L → w.cell? ⟨g, off + i, none⟩ = some (.int .u8 ((byteN b i : Nat) : Int)) := fun i hi => by
    obtain ⟨g', off', he, h1⟩ := HC.out i hi
    injection he with he; injection he with e1 e2 e3; subst e1 e2; exact h1
   have hgl := World.block_lt_of_cell? w _ c0
   simp only at hgl
   have hh : headN b = true := by
    have h2 := HPR.out.symm
    unfold headN
    simp only [Bool.and_eq_true, decide_eq_true_eq] at h2 ⊢
    have := HLN.out
    exact ⟨⟨by omega, h2.1.2⟩, h2.2⟩
   have c2 := hcell 2 (by omega)
   obtain ⟨m, hm⟩ : ∃ m, m = byteN b 2 := ⟨_, rfl⟩
   rw [← hm] at c2
   have hm6 : m < 256 := by rw [hm]; exact HB6.out _
   have HH := Lib.hid hh; have HM := Lib.hid hm; have HCELL := Lib.hid hcell
   have wm : IntKind.i64.wrap (m : Int) = (m : Int) := IntWalk.i64_in _ (by omega)
   have q2 : (2 : Int) < L := by omega
   have HX2 : Hid ((∃ l, secF b m = some (l, L)) → ∃ l, secF b (byteN b 2) = some (l, b.length)) := Lib.hid (by rw [← hm, ← HLN.out]; exact id)
   have HXI : Hid (¬ (∃ l, secF b m = some (l, L)) → ¬ (headN b = true ∧ ∃ l, secF b (byteN b 2) = some (l, b.length))) := Lib.hid (by rw [← hm, ← HLN.out]; exact fun h k => h k.2)
   have HYI : Hid (∀ w' v l, secF b m = some (l, L) → w'.ownsRow w.heap.size 87 4 v l.length (secCells l) → Below w.heap.size w w' → Q (.returned (.tuple #[v, .bool true])) w') := Lib.hid (fun w' v l h1 h2 h3 => HYES.out w' v l HH.out (by rw [← hm, ← HLN.out]; exact h1) h2 h3)
   clear c0 hcell hh hm HC HYES HX2
   go_wp2_with (fail)
   clear c2 g1
   go_loopw [4, 5, 20] (fun ov pv kv wr => ∃ (l : List Sec) (p k : Nat), pv = .int .i64 (p : Int) ∧ kv = .int .i64 (k : Int) ∧ k ≤ m ∧ Hid (secF b k = some (l, p)) ∧ Hid (wr.ownsRow w.heap.size 87 4 ov k (secCells l)) ∧ Hid (Below w.heap.size w wr)) (fun _ _ kv _ => m - (intOf kv).toNat)
   case atStart => exact ⟨[], 3, 0, rfl, rfl, Nat.zero_le _, Lib.hid rfl, Lib.hid (World.ownsRow_nil _ _ _ _), Lib.hid (Below.refl _ _)⟩
   case round =>
    obtain ⟨l, p, k, rfl, rfl, hkm, HSF, HOW, HB⟩ := hrel
    obtain ⟨wo, rfl⟩ : ∃ wo : World, wo = wr := ⟨_, rfl⟩
    obtain ⟨hlk, hp3, hpL, _⟩ := secF_len HSF.out
    have hpL := hpL (by rw [← HLN.out]; omega)
    rw [← HLN.out] at hpL
    have HLK := Lib.hid hlk
    have p0 : (0 : Int) ≤ p := by omega
    have pL : (p : Int) ≤ L := by omega
    have hsz := HB.out.size
    clear hlk
    by_cases hgo : k < m
    ·have k1 : (k : Int) < m := by omega
     by_cases hp4 : L < p + 4
     ·have HX := Lib.hid (HXI.out (fun ⟨l', h'⟩ => by
       have hnone : secF b (k + 1) = none := by
        unfold secF; rw [HSF.out]; simp only []; rw [if_pos (by rw [← HLN.out]; omega)]
       rw [secF_none hnone m (by omega)] at h'; cases h'))
      have g1 : (L : Int) < p + 4 := by omega
      clear hp4
      go_wp2_with (fail)
      refine HNO.out _ _ HX.out ?_
      exact HB.out
     ·have g1 : decide ((L : Int) < p + 4) = false := by simp; omega
      obtain ⟨y0, hy0⟩ : ∃ y, y = byteN b p := ⟨_, rfl⟩
      obtain ⟨y1, hy1⟩ : ∃ y, y = byteN b (p + 1) := ⟨_, rfl⟩
      obtain ⟨y2, hy2⟩ : ∃ y, y = byteN b (p + 2) := ⟨_, rfl⟩
      obtain ⟨y3, hy3⟩ : ∃ y, y = byteN b (p + 3) := ⟨_, rfl⟩
      have z0 : y0 < 256 := by rw [hy0]; exact HB6.out _
      have z1 : y1 < 256 := by rw [hy1]; exact HB6.out _
      have z2 : y2 < 256 := by rw [hy2]; exact HB6.out _
      have z3 : y3 < 256 := by rw [hy3]; exact HB6.out _
      have HSE : Hid (secAt b p = ⟨y0, y1, p + 4, y2 + 256 * y3⟩) := Lib.hid (by unfold secAt; rw [hy0, hy1, hy2, hy3])
      have d0 := cellB HB.out.drew (HCELL.out p (by omega))
      have d1 := cellB HB.out.drew (HCELL.out (p + 1) (by omega))
      have d2 := cellB HB.out.drew (HCELL.out (p + 2) (by omega))
      have d3 := cellB HB.out.drew (HCELL.out (p + 3) (by omega))
      rw [← hy0] at d0; rw [← hy1] at d1; rw [← hy2] at d2; rw [← hy3] at d3
      obtain ⟨n, hn⟩ : ∃ n, n = y2 + 256 * y3 := ⟨_, rfl⟩
      have HN := Lib.hid hn
      have s0 : IntKind.i64.wrap (256 * (y3 : Int)) = 256 * (y3 : Int) := IntWalk.i64_in _ (by omega)
      have s1 : IntKind.i64.wrap ((y2 : Int) + 256 * (y3 : Int)) = (n : Int) := by rw [IntWalk.i64_in _ (by omega)]; omega
      have s2 : IntKind.i64.wrap ((p : Int) + 1) = (p : Int) + 1 := IntWalk.i64_in _ (by omega)
      have s3 : IntKind.i64.wrap ((p : Int) + 2) = (p : Int) + 2 := IntWalk.i64_in _ (by omega)
      have s4 : IntKind.i64.wrap ((p : Int) + 3) = (p : Int) + 3 := IntWalk.i64_in _ (by omega)
      have s5 : IntKind.i64.wrap ((p : Int) + 4) = (p : Int) + 4 := IntWalk.i64_in _ (by omega)
      have v0 : IntKind.i64.wrap (y0 : Int) = (y0 : Int) := IntWalk.i64_in _ (by omega)
      have v1 : IntKind.i64.wrap (y1 : Int) = (y1 : Int) := IntWalk.i64_in _ (by omega)
      have v2 : IntKind.i64.wrap (y2 : Int) = (y2 : Int) := IntWalk.i64_in _ (by omega)
      have v3 : IntKind.i64.wrap (y3 : Int) = (y3 : Int) := IntWalk.i64_in _ (by omega)
      have i1 : ((p : Int) + 1).toNat = p + 1 := by omega
      have i2 : ((p : Int) + 2).toNat = p + 2 := by omega
      have i3 : ((p : Int) + 3).toNat = p + 3 := by omega
      have j1 : (0 : Int) ≤ (p : Int) + 1 := by omega
      have j2 : (0 : Int) ≤ (p : Int) + 2 := by omega
      have j3 : (0 : Int) ≤ (p : Int) + 3 := by omega
      have l0 : (p : Int) < L := by omega
      have l1 : (p : Int) + 1 < L := by omega
      have l2 : (p : Int) + 2 < L := by omega
      have l3 : (p : Int) + 3 < L := by omega
      have hn1 : (n : Int) ≤ 65535 := by omega
      have hgo2 : g < wo.heap.size := by omega
      clear hy0 hy1 hy2 hy3 hn
      go_wp2_with (fail)
      refine wp_region_tree (fun W => W.cell? ⟨g, off + p, none⟩ = some (.int .u8 (y0 : Int)) ∧ W.cell? ⟨g, off + (p + 1), none⟩ = some (.int .u8 (y1 : Int)) ∧ W.cell? ⟨g, off + (p + 2), none⟩ = some (.int .u8 (y2 : Int)) ∧ W.cell? ⟨g, off + (p + 3), none⟩ = some (.int .u8 (y3 : Int))) [(0, false), (1, false), (2, false), (3, true), (4, false), (5, false), (6, false), (7, false), (8, false), (9, true), (10, false), (11, false), (12, false), (13, false), (14, false), (15, false), (16, false), (17, true), (18, false), (19, false), (20, false), (21, false), (22, false), (23, true), (24, false), (25, false), (26, false), (27, false)] (.alt 28 (.alt 29 .fin .none) .none) 29 (by kernel_rfl) (by kernel_rfl) (fun d v c a w h => by cases d <;> exact h) (⟨d0, d1, d2, d3⟩) ?_
      simp only [pickO, List.map_cons, List.map_nil, List.getD_cons_zero, List.getD_cons_succ]
      refine heldO_stepY (v := ?_) rfl ?_ ?_
      rotate_left
      ·intro W
       go_simp
       try rfl
      simp only [Act.put, List.setIfInBounds_toArray, List.set_cons_zero, List.set_cons_succ]
      refine heldO_stepY (v := ?_) rfl ?_ ?_
      rotate_left
      ·intro W
       go_simp
       try rfl
      simp only [Act.put, List.setIfInBounds_toArray, List.set_cons_zero, List.set_cons_succ]
      refine heldO_stepY (v := ?_) rfl ?_ ?_
      rotate_left
      ·intro W
       go_simp
       try rfl
      simp only [Act.put, List.setIfInBounds_toArray, List.set_cons_zero, List.set_cons_succ]
      refine heldO_step (v := ?_) rfl ?_ ?_
      rotate_left
      ·intro W hS
       obtain ⟨k0, k1, k2, k3⟩ := hS
       go_simp
       try rfl
      simp only [Act.put, List.setIfInBounds_toArray, List.set_cons_zero, List.set_cons_succ]
      refine heldO_stepY (v := ?_) rfl ?_ ?_
      rotate_left
      ·intro W
       go_simp
       try rfl
      simp only [Act.put, List.setIfInBounds_toArray, List.set_cons_zero, List.set_cons_succ]
      refine heldO_stepY (v := ?_) rfl ?_ ?_
      rotate_left
      ·intro W
       go_simp
       try rfl
      simp only [Act.put, List.setIfInBounds_toArray, List.set_cons_zero, List.set_cons_succ]
      refine heldO_stepY (v := ?_) rfl ?_ ?_
      rotate_left
      ·intro W
       go_simp
       try rfl
      simp only [Act.put, List.setIfInBounds_toArray, List.set_cons_zero, List.set_cons_succ]
      refine heldO_stepY (v := ?_) rfl ?_ ?_
      rotate_left
      ·intro W
       go_simp
       try rfl
      simp only [Act.put, List.setIfInBounds_toArray, List.set_cons_zero, List.set_cons_succ]
      refine heldO_stepY (v := ?_) rfl ?_ ?_
      rotate_left
      ·intro W
       go_simp
       try rfl
      simp only [Act.put, List.setIfInBounds_toArray, List.set_cons_zero, List.set_cons_succ]
      refine heldO_step (v := ?_) rfl ?_ ?_
      rotate_left
      ·intro W hS
       obtain ⟨k0, k1, k2, k3⟩ := hS
       go_simp
       try rfl
      simp only [Act.put, List.setIfInBounds_toArray, List.set_cons_zero, List.set_cons_succ]
      refine heldO_stepY (v := ?_) rfl ?_ ?_
      rotate_left
      ·intro W
       go_simp
       try rfl
      simp only [Act.put, List.setIfInBounds_toArray, List.set_cons_zero, List.set_cons_succ]
      refine heldO_stepY (v := ?_) rfl ?_ ?_
      rotate_left
      ·intro W
       go_simp
       try rfl
      simp only [Act.put, List.setIfInBounds_toArray, List.set_cons_zero, List.set_cons_succ]
      refine heldO_stepY (v := ?_) rfl ?_ ?_
      rotate_left
      ·intro W
       go_simp
       try rfl
      simp only [Act.put, List.setIfInBounds_toArray, List.set_cons_zero, List.set_cons_succ]
      refine heldO_stepY (v := ?_) rfl ?_ ?_
      rotate_left
      ·intro W
       go_simp
       try rfl
      simp only [Act.put, List.setIfInBounds_toArray, List.set_cons_zero, List.set_cons_succ]
      refine heldO_stepY (v := ?_) rfl ?_ ?_
      rotate_left
      ·intro W
       go_simp
       try rfl
      simp only [Act.put, List.setIfInBounds_toArray, List.set_cons_zero, List.set_cons_succ]
      refine heldO_stepY (v := ?_) rfl ?_ ?_
      rotate_left
      ·intro W
       go_simp
       try rfl
      simp only [Act.put, List.setIfInBounds_toArray, List.set_cons_zero, List.set_cons_succ]
      refine heldO_stepY (v := ?_) rfl ?_ ?_
      rotate_left
      ·intro W
       go_simp
       try rfl
      simp only [Act.put, List.setIfInBounds_toArray, List.set_cons_zero, List.set_cons_succ]
      refine heldO_step (v := ?_) rfl ?_ ?_
      rotate_left
      ·intro W hS
       obtain ⟨k0, k1, k2, k3⟩ := hS
       go_simp
       try rfl
      simp only [Act.put, List.setIfInBounds_toArray, List.set_cons_zero, List.set_cons_succ]
      refine heldO_stepY (v := ?_) rfl ?_ ?_
      rotate_left
      ·intro W
       go_simp
       try rfl
      simp only [Act.put, List.setIfInBounds_toArray, List.set_cons_zero, List.set_cons_succ]
      refine heldO_stepY (v := ?_) rfl ?_ ?_
      rotate_left
      ·intro W
       go_simp
       try rfl
      simp only [Act.put, List.setIfInBounds_toArray, List.set_cons_zero, List.set_cons_succ]
      refine heldO_stepY (v := ?_) rfl ?_ ?_
      rotate_left
      ·intro W
       go_simp
       try rfl
      simp only [Act.put, List.setIfInBounds_toArray, List.set_cons_zero, List.set_cons_succ]
      refine heldO_stepY (v := ?_) rfl ?_ ?_
      rotate_left
      ·intro W
       go_simp
       try rfl
      simp only [Act.put, List.setIfInBounds_toArray, List.set_cons_zero, List.set_cons_succ]
      refine heldO_stepY (v := ?_) rfl ?_ ?_
      rotate_left
      ·intro W
       go_simp
       try rfl
      simp only [Act.put, List.setIfInBounds_toArray, List.set_cons_zero, List.set_cons_succ]
      refine heldO_step (v := ?_) rfl ?_ ?_
      rotate_left
      ·intro W hS
       obtain ⟨k0, k1, k2, k3⟩ := hS
       go_simp
       try rfl
      simp only [Act.put, List.setIfInBounds_toArray, List.set_cons_zero, List.set_cons_succ]
      refine heldO_stepY (v := ?_) rfl ?_ ?_
      rotate_left
      ·intro W
       go_simp
       try rfl
      simp only [Act.put, List.setIfInBounds_toArray, List.set_cons_zero, List.set_cons_succ]
      refine heldO_stepY (v := ?_) rfl ?_ ?_
      rotate_left
      ·intro W
       go_simp
       try rfl
      simp only [Act.put, List.setIfInBounds_toArray, List.set_cons_zero, List.set_cons_succ]
      refine heldO_stepY (v := ?_) rfl ?_ ?_
      rotate_left
      ·intro W
       go_simp
       try rfl
      simp only [Act.put, List.setIfInBounds_toArray, List.set_cons_zero, List.set_cons_succ]
      refine heldO_stepY (v := ?_) rfl ?_ ?_
      rotate_left
      ·intro W
       go_simp
       try rfl
      simp only [Act.put, List.setIfInBounds_toArray, List.set_cons_zero, List.set_cons_succ]
      refine heldO_nil ?_
      refine treeO_alt rfl rfl ?_ treeO_none
      intro K hK
      go_simp
      refine hK _ _ (fun _ => ⟨cellB (below1 wo.drew _) d0, cellB (below1 wo.drew _) d1, cellB (below1 wo.drew _) d2, cellB (below1 wo.drew _) d3⟩) ?_
      clear hK K
      refine treeO_alt rfl rfl ?_ treeO_none
      intro K hK
      go_simp
      refine hK _ _ (fun h => absurd h (by decide)) ?_
      clear hK K
      refine treeO_fin ?_
      have hb99 : Below wo.heap.size wo (wo.alloc (.cells #[.int .i64 (y0 : Int), .int .i64 (y1 : Int), .int .i64 ((p : Int) + 4), .int .i64 (n : Int)] 87)).drew := (below1 _ _).drew
      have hx9 : Blk (wo.alloc (.cells #[.int .i64 (y0 : Int), .int .i64 (y1 : Int), .int .i64 ((p : Int) + 4), .int .i64 (n : Int)] 87)).drew wo.heap.size [.int .i64 (y0 : Int), .int .i64 (y1 : Int), .int .i64 ((p : Int) + 4), .int .i64 (n : Int)] := Blk.new _ _ _
      generalize World.drew (wo.alloc _) = w9 at *
      have HOW9 := Lib.hid (ownsRow_below HOW.out hb99)
      have HB9 := Lib.hid (HB.out.trans (hb99.mono hsz))
      have hs9 := HB9.out.size
      have x0 : w9.cell? ⟨wo.heap.size, 0, none⟩ = some (.int .i64 (y0 : Int)) := by rw [hx9.cell]; rfl
      have x1 : w9.cell? ⟨wo.heap.size, 1, none⟩ = some (.int .i64 (y1 : Int)) := by rw [hx9.cell]; rfl
      have x2 : w9.cell? ⟨wo.heap.size, 2, none⟩ = some (.int .i64 ((p : Int) + 4)) := by rw [hx9.cell]; rfl
      have x3 : w9.cell? ⟨wo.heap.size, 3, none⟩ = some (.int .i64 (n : Int)) := by rw [hx9.cell]; rfl
      have s6 : IntKind.i64.wrap ((p : Int) + 4 + (n : Int)) = (p : Int) + 4 + (n : Int) := IntWalk.i64_in _ (by omega)
      clear hb99 hx9 d0 d1 d2 d3 s0 s1 s2 s3 s4 s5 v0 v1 v2 v3 i1 i2 i3 j1 j2 j3 l0 l1 l2 l3 g1
      have hsec : secF b (k + 1) = if b.length < p + 4 + n then none else some (l ++ [secAt b p], p + 4 + n) := by
       conv => lhs; unfold secF
       rw [HSF.out]; simp only []
       rw [if_neg (by rw [← HLN.out]; omega), HSE.out]
       simp only []
       rw [← HN.out]
      have HSC := Lib.hid hsec
      clear hsec
      by_cases hpn : L < p + 4 + n
      ·have HX := Lib.hid (HXI.out (fun ⟨l', h'⟩ => by
        have hnone : secF b (k + 1) = none := by rw [HSC.out, if_pos (by rw [← HLN.out]; exact hpn)]
        rw [secF_none hnone m (by omega)] at h'; cases h'))
       have g2 : (L : Int) < (p : Int) + 4 + n := by omega
       clear hpn hp4
       go_wp2_with (fail)
       refine HNO.out _ _ HX.out ?_
       exact HB9.out
      ·have g2 : decide ((L : Int) < (p : Int) + 4 + n) = false := by simp; omega
       have HS1 : Hid (secF b (k + 1) = some (l ++ [⟨y0, y1, p + 4, n⟩], p + 4 + n)) := Lib.hid (by rw [HSC.out, if_neg (by rw [← HLN.out]; exact hpn), HSE.out, ← HN.out])
       have hpn2 : p + 4 + n ≤ L := by omega
       clear hpn hp4 HSC
       go_wp2_with (first | (at_builtin; refine wpList_append_own _ rfl _ _ 82 (by rfl) w.heap.size 87 j0 _ 4 32 Tryd.underlying82 hj hw0 hw1 hw2 rfl (by decide) _ k (secCells l) (by rfl) (HOW9.out.alloc _) ⟨w9.heap.size, 0, none⟩ 1 1 [.int .i64 (y0 : Int), .int .i64 (y1 : Int), .int .i64 ((p : Int) + 4), .int .i64 (n : Int)] (by rfl) rfl (World.news_of_block (heap_alloc_new w9 _)) (by simp [Value.oneCell']) (by unfold maxLen; omega) (by omega) (by simp; omega) ?_; intro v7 w7 ho7 hg7 _; have HO7 := Lib.hid ho7; have HB7 := Lib.hid ((HB9.out.alloc hs9 _).grown hg7 (by simp; omega) (fun q hq => ownBlock_of HOW9.out q hq)); clear ho7 hg7) | fail)
       go_roundw
       case rel =>
        refine ⟨l ++ [⟨y0, y1, p + 4, n⟩], p + 4 + n, k + 1, by go_num, by go_num, by omega, HS1, Lib.hid ?_, HB7⟩
        rw [secCells_snoc]; exact HO7.out
       case measure => simp [intOf]; omega
    ·obtain rfl : m = k := by omega
     by_cases hpl : p = L
     ·subst hpl
      have HS2 := HSF
      go_wp2_with (fail)
      refine HYI.out _ _ l HS2.out ?_ HB.out
      rw [HLK.out]; exact HOW.out
     ·have HX := Lib.hid (HXI.out (fun ⟨l', h'⟩ => by
       rw [HSF.out] at h'
       injection h' with h'; injection h' with _ h'
       exact hpl h'))
      have g1 : ((p : Int) == (L : Int)) = false := by simp; omega
      clear hpl
      go_wp2_with (fail)
      refine HNO.out _ _ HX.out ?_
      exact HB.out
end Go.Proofs.YtbdbmmdnidonjaaDoor
set_option maxRecDepth 100000
namespace Go.Proofs.YtbdbmmdnidonjaaDoor
open Go.RowKit
def CloB (bs : List Nat) (w : World) (e : Ending) (w' : World) : Prop :=
 ∃ g c, e = .returned (.slice (some ⟨g, 0, none⟩) bs.length c) ∧ w'.ownsRow w.heap.size 5 1 (.slice (some ⟨g, 0, none⟩) bs.length c) bs.length (u8s bs) ∧ Below w.heap.size w w'
set_option maxHeartbeats 1000000 in
theorem cloneB_any (w : World) (b off n cap : Nat) (bs : List Nat) (hn : bs.length = n) (h0 : 0 < n) (hm : n ≤ 1048576) (hc : ∀ i, i < n → w.cell? ⟨b, off + i, none⟩ = some (.int .u8 ((byteN bs i : Nat) : Int))) :
  Calls Tryd.prog 122 #[.slice (some ⟨b, off, none⟩) n cap] w (CloB bs w) := by
 have qT : ∀ (w : World) (a : Option Addr) (n c n' c' : Nat), (binOp .eql 22 (.slice a n c) (.slice none n' c')).run Tryd.prog w = .ok (.bool a.isNone) w := fun w a n c n' c' => Lib.run_eql_slice_nil w _ _ a n c n' c' Tryd.underlying22
 obtain ⟨i0, hi, hz0, hz1, hz2⟩ := info_parts info_u8
 have HNEWS : Hid (∀ j u, (u8s bs)[j]? = some u → (w.alloc (.cells #[] 5)).cell? ((⟨b, off, none⟩ : Addr).add j) = some u) := by
  apply Lib.hid
  intro j u hu
  have hj : j < bs.length := by
   rcases Nat.lt_or_ge j bs.length with h | h
   ·exact h
   ·rw [List.getElem?_eq_none (by rw [u8s_len]; exact h)] at hu; cases hu
  have h2 := hc j (by omega)
  rw [Arg.add_eq, World.cell?_alloc_past _ _ _ (World.block_lt_of_cell? _ _ h2), h2]
  rw [← hu]
  simp [u8s, byteN, List.getD_eq_getElem?_getD, hj]
 have HN := Lib.hid hn
 have HQ : Hid (∀ g c w', w'.ownsRow w.heap.size 5 1 (.slice (some ⟨g, 0, none⟩) n c) n (u8s bs) → Below w.heap.size w w' → CloB bs w (.returned (.slice (some ⟨g, 0, none⟩) n c)) w') := Lib.hid (fun g c w' h1 h2 => by subst hn; exact ⟨g, c, rfl, h1, h2⟩)
 obtain ⟨Q, hQ⟩ : ∃ Q, Q = CloB bs w := ⟨_, rfl⟩
 rw [← hQ] at HQ ⊢
 clear hc hn hQ
 go_enter Tryd.func122, Tryd.ntmps122
 go_wp2_with (first | (at_builtin; refine wpList_append_lies _ rfl _ _ 22 (by rfl) w.heap.size 5 i0 (.int .u8 0) 1 1 Tryd.underlying22 hi hz0 hz1 hz2 rfl (by decide) _ 0 [] (by rfl) (ownsRow_empty w 5 1) ⟨b, off, none⟩ n cap (u8s bs) (by rfl) (by rw [u8s_len, HN.out]; omega) HNEWS.out (u8s_one bs) h0 (by unfold maxLen; omega) (by omega) (by simp) _ rfl ?_; intro g c w2 hown hg _ _; have HOW := Lib.hid hown; have HB := Lib.hid ((below1 w _).grown hg (by simp) (fun k hk => by simp [Value.ownBlock] at hk; omega)); clear hown hg) | fail)
 have h := HOW.out
 rw [Nat.zero_add, List.nil_append] at h
 try rw [Nat.zero_add]
 exact HQ.out _ _ _ h HB.out
def ImgP (fs : List Mf) (w : World) (e : Ending) (w' : World) : Prop :=
 ∃ (v : Value) (bs : List Nat) (ok : Bool), e = .returned (.tuple #[v, .bool ok]) ∧ (ok = true ↔ ImgOk fs) ∧ (ok = true → bs = encImg fs ∧ w'.ownsRow w.heap.size 5 1 v bs.length (u8s bs)) ∧ Below w.heap.size w w'
set_option maxHeartbeats 8000000 in
theorem image_any (w : World) (fv : Value) (fs : List Mf) (hF : Forms w) (hM : Magic w) (hm : MfsAt w fv fs) (hle : MfsLe fs) (hr : ∀ f ∈ fs, ∀ x ∈ f.ins, -9223372036854775808 ≤ x.n) :
  Calls Tryd.prog 90 #[.agg #[fv]] w (ImgP fs w) := by
 obtain ⟨i0, hi, hz0, hz1, hz2⟩ := info_parts info_u8
 have HMF := Lib.hid hm; have HFO := Lib.hid hF; have HMG := Lib.hid hM; have HLE := Lib.hid hle; have HR_ := Lib.hid hr
 have HNO : Hid (∀ w' v, ¬ ImgOk fs → Below w.heap.size w w' → ImgP fs w (.returned (.tuple #[v, .bool false])) w') := Lib.hid (fun w' v h hb => ⟨v, [], false, rfl, ⟨(fun h => by cases h), fun k => absurd k h⟩, (fun h => by cases h), hb⟩)
 have HYES : Hid (∀ w' v bs, ImgOk fs → bs = encImg fs → w'.ownsRow w.heap.size 5 1 v bs.length (u8s bs) → Below w.heap.size w w' → ImgP fs w (.returned (.tuple #[v, .bool true])) w') := Lib.hid (fun w' v bs h h2 h3 hb => ⟨v, bs, true, rfl, ⟨fun _ => h, fun _ => rfl⟩, fun _ => ⟨h2, h3⟩, hb⟩)
 obtain ⟨Q, hQ⟩ : ∃ Q, Q = ImgP fs w := ⟨_, rfl⟩
 rw [← hQ] at HNO HYES ⊢
 obtain ⟨fa, fc, rfl, hfc⟩ := hm
 obtain ⟨n, hn⟩ : ∃ n, n = fs.length := ⟨_, rfl⟩
 rw [← hn] at HMF ⊢
 have HN := Lib.hid hn
 have HFC : Hid (∀ (i : Nat) (f : Mf), fs[i]? = some f → ∃ b off iv, fa = some ⟨b, off, none⟩ ∧ w.cell? ⟨b, off + i * 3, none⟩ = some (.int .i64 f.params) ∧ w.cell? ⟨b, off + i * 3 + 1, none⟩ = some (.int .i64 f.slots) ∧ w.cell? ⟨b, off + i * 3 + 2, none⟩ = some iv ∧ MisAt w iv f.ins) := Lib.hid (fun i f h => hfc i f h)
 clear hQ hF hM hle hr hfc hn
 go_enter Tryd.func90, Tryd.ntmps90
 go_wp2_with (fail)
 generalize hw1 : w.alloc _ = w1
 have hx1 : Blk w1 w.heap.size [.slice fa n fc] := by rw [← hw1]; exact Blk.new _ _ _
 have hb1 : Below w.heap.size w w1 := by rw [← hw1]; exact below1 _ _
 have HX1 := Lib.hid hx1; have HB1 := Lib.hid hb1
 have q0 := hx1.cell1
 clear hw1 hx1 hb1
 have HVA := Lib.hid (machValid_any w1 (.slice fa n fc) fs (HFO.out.below HB1.out) (HMF.out.below HB1.out) HLE.out)
 go_wp2_with (fail)
 go_at_call 74
 refine HVA.out.mono ?_
 rintro e w5 ⟨ok, rfl, hok, hb5⟩
 have HB5 := Lib.hid (HB1.out.trans (hb5.mono HB1.out.size))
 have HX5 := Lib.hid (HX1.out.below hb5)
 have HOK := Lib.hid hok
 clear hok hb5 q0 HVA HX1 HB1
 cases ok with
 |false =>
  have HX : Hid (¬ ImgOk fs) := Lib.hid (fun h => by have := HOK.out.2 h.1; cases this)
  go_wp2_with (fail)
  exact HNO.out _ _ HX.out HB5.out
 |true =>
  have hmo : MachOk fs := HOK.out.1 rfl
  have hn4 : 1 ≤ n ∧ n ≤ 4 := by rw [HN.out]; exact hmo.1
  have HMO := Lib.hid hmo
  obtain ⟨mb, mo, mc, m0, m1, m2⟩ := HMG.out.below HB5.out
  have HCL := Lib.hid (fun w' (h : Below w5.heap.size w5 w') => cloneB_any w' mb mo 2 mc [87, 119] rfl (by decide) (by decide) (fun i hi => by
   have hi2 : i = 0 ∨ i = 1 := by omega
   rcases hi2 with rfl | rfl
   ·exact cellB h m1
   ·exact cellB h m2))
  have y0 := HX5.out.cell1
  have wn : IntKind.u8.wrap (n : Int) = (n : Int) := u8_small n (by omega)
  clear hmo m1 m2
  go_wp2_with (fail)
  go_cut [4] from 12 to 19 (fun ov wy => Hid (wy.ownsRow w5.heap.size 5 1 ov 3 (u8s [87, 119, n])) ∧ Hid (Below w5.heap.size w5 wy))
  case first =>
   refine wp_region_tree (fun W => W.cell? ⟨0, 0, none⟩ = some (.slice (some ⟨mb, mo, none⟩) 2 mc) ∧ W.cell? ⟨w.heap.size, 0, none⟩ = some (.slice fa n fc)) [(0, true), (2, false), (3, true), (4, false), (5, false)] (.alt 1 (.alt 6 (.alt 7 (.alt 8 .fin .none) .none) .none) (.alt 6 (.alt 1 (.alt 7 (.alt 8 .fin .none) .none) .none) .none)) 7 (by kernel_rfl) (by kernel_rfl) (fun d v c a w h => by cases d <;> exact h) (⟨m0, y0⟩) ?_
   simp only [pickO, List.map_cons, List.map_nil, List.getD_cons_zero, List.getD_cons_succ]
   refine heldO_step (v := ?_) rfl ?_ ?_
   rotate_left
   ·intro W hS
    obtain ⟨k0, k1⟩ := hS
    go_simp
    try rfl
   simp only [Act.put, List.setIfInBounds_toArray, List.set_cons_zero, List.set_cons_succ]
   refine heldO_stepY (v := ?_) rfl ?_ ?_
   rotate_left
   ·intro W
    go_simp
    try rfl
   simp only [Act.put, List.setIfInBounds_toArray, List.set_cons_zero, List.set_cons_succ]
   refine heldO_step (v := ?_) rfl ?_ ?_
   rotate_left
   ·intro W hS
    obtain ⟨k0, k1⟩ := hS
    go_simp
    try rfl
   simp only [Act.put, List.setIfInBounds_toArray, List.set_cons_zero, List.set_cons_succ]
   refine heldO_stepY (v := ?_) rfl ?_ ?_
   rotate_left
   ·intro W
    go_simp
    try rfl
   simp only [Act.put, List.setIfInBounds_toArray, List.set_cons_zero, List.set_cons_succ]
   refine heldO_stepY (v := ?_) rfl ?_ ?_
   rotate_left
   ·intro W
    go_simp
    try rfl
   simp only [Act.put, List.setIfInBounds_toArray, List.set_cons_zero, List.set_cons_succ]
   refine heldO_nil ?_
   have HBD : Hid (Below w5.heap.size w5 w5.drew) := Lib.hid (Below.refl _ _).drew
   have m0d : w5.drew.cell? ⟨0, 0, none⟩ = some (.slice (some ⟨mb, mo, none⟩) 2 mc) := m0
   have y0d : w5.drew.cell? ⟨w.heap.size, 0, none⟩ = some (.slice fa n fc) := y0
   generalize w5.drew = wd at *
   have hszd := HBD.out.size
   refine treeO_alt rfl rfl ?_ ?_
   ·intro K hK
    go_simp
    refine (HCL.out wd HBD.out).mono ?_
    rintro e w6 ⟨g6, c6, rfl, ho6, hb6⟩
    refine hK _ _ (fun _ => ⟨cellB hb6 m0d, cellB hb6 y0d⟩) ?_
    clear hK K
    have HO6 := Lib.hid (ownsRow_mono ho6 hszd)
    have HB6 := Lib.hid (HBD.out.trans (hb6.mono hszd))
    have hs6 := HB6.out.size
    have m06 := cellB hb6 m0d; have y06 := cellB hb6 y0d
    clear ho6 hb6 m0d y0d
    refine treeO_alt rfl rfl ?_ treeO_none
    intro K hK
    go_simp
    refine hK _ _ (fun _ => ⟨cellB (below1 w6 _) m06, cellB (below1 w6 _) y06⟩) ?_
    clear hK K
    refine treeO_alt rfl rfl ?_ treeO_none
    intro K hK
    refine lies_wp rfl ?_
    refine step_append_lies (E := False) _ rfl _ _ 22 (by rfl) w5.heap.size 5 i0 (.int .u8 0) 1 1 Tryd.underlying22 hi hz0 hz1 hz2 rfl (by decide) _ 2 (u8s [87, 119]) (by rfl) (HO6.out.alloc _) ⟨w6.heap.size, 0, none⟩ 1 1 (u8s [n]) (by rfl) rfl (World.news_of_block (heap_alloc_new w6 _)) (u8s_one _) (by decide) (by unfold maxLen; omega) (by omega) (by simp; omega) _ rfl ?_
    intro g7 c7 w7 ho7 hg7 _ _
    have HO7 := Lib.hid ho7
    have HB7 := Lib.hid ((HB6.out.alloc hs6 (.cells #[.int .u8 (n : Int)] 5)).grown hg7 (by simp; omega) (fun k hk => (World.ownsRow.lt HO6.out k hk).1))
    refine hK _ _ (fun h => absurd h (by decide)) ?_
    clear hK K ho7 hg7
    refine treeO_alt rfl rfl ?_ treeO_none
    intro K hK
    go_simp
    refine hK _ _ (fun h => absurd h (by decide)) ?_
    clear hK K
    refine treeO_fin ?_
    go_wp2_with (fail)
    go_meet
    exact ⟨HO7, HB7⟩
   ·refine treeO_alt rfl rfl ?_ treeO_none
    intro K hK
    go_simp
    have hbx := below1 wd (.cells #[.int .u8 (n : Int)] 5)
    have hnb : Blk (wd.alloc (.cells #[.int .u8 (n : Int)] 5)) wd.heap.size (u8s [n]) := Blk.new _ _ _
    refine hK _ _ (fun _ => ⟨cellB hbx m0d, cellB hbx y0d⟩) ?_
    clear hK K
    have hsx : (wd.alloc (.cells #[.int .u8 (n : Int)] 5)).heap.size = wd.heap.size + 1 := by simp
    generalize wd.alloc _ = wx at *
    have HBX := Lib.hid (HBD.out.trans (hbx.mono hszd))
    have m0x := cellB hbx m0d; have y0x := cellB hbx y0d
    have HNB := Lib.hid hnb
    have hszx := HBX.out.size
    clear hbx hnb m0d y0d
    refine treeO_alt rfl rfl ?_ treeO_none
    intro K hK
    go_simp
    refine (HCL.out wx HBX.out).mono ?_
    rintro e w6 ⟨g6, c6, rfl, ho6, hb6⟩
    refine hK _ _ (fun _ => ⟨cellB hb6 m0x, cellB hb6 y0x⟩) ?_
    clear hK K
    have HO6 := Lib.hid (ownsRow_mono ho6 hszx)
    have HB6 := Lib.hid (HBX.out.trans (hb6.mono hszx))
    have HN6 := Lib.hid (HNB.out.below hb6)
    have hs6 := HB6.out.size
    clear ho6 hb6
    refine treeO_alt rfl rfl ?_ treeO_none
    intro K hK
    refine lies_wp rfl ?_
    refine step_append_lies (E := False) _ rfl _ _ 22 (by rfl) w5.heap.size 5 i0 (.int .u8 0) 1 1 Tryd.underlying22 hi hz0 hz1 hz2 rfl (by decide) _ 2 (u8s [87, 119]) (by rfl) HO6.out ⟨wd.heap.size, 0, none⟩ 1 1 (u8s [n]) (by rfl) rfl (news_blk1 HN6.out) (u8s_one _) (by decide) (by unfold maxLen; omega) (by omega) hs6 _ rfl ?_
    intro g7 c7 w7 ho7 hg7 _ _
    have HO7 := Lib.hid ho7
    have HB7 := Lib.hid (HB6.out.grown hg7 hs6 (fun k hk => (World.ownsRow.lt HO6.out k hk).1))
    refine hK _ _ (fun h => absurd h (by decide)) ?_
    clear hK K ho7 hg7
    refine treeO_alt rfl rfl ?_ treeO_none
    intro K hK
    go_simp
    refine hK _ _ (fun h => absurd h (by decide)) ?_
    clear hK K
    refine treeO_fin ?_
    go_wp2_with (fail)
    go_meet
    exact ⟨HO7, HB7⟩
  case rest =>
   obtain ⟨HO, HBC⟩ := hcut
   have y0c := cellB HBC.out y0
   clear m0 y0 wn HCL
   go_wp2_with (fail)
   clear y0c
   go_loopw [4, 23] (fun ov kv wr => ∃ (k : Nat) (E : List Nat), kv = .int .i64 (k : Int) ∧ k ≤ n ∧ Hid (E = [87, 119, n] ++ encFns fs k) ∧ E.length ≤ 3 + k * 8004 ∧ Hid (∀ (i : Nat) f, i < k → fs[i]? = some f → CanS f) ∧ Hid (wr.ownsRow w5.heap.size 5 1 ov E.length (u8s E)) ∧ Hid (Below w5.heap.size w5 wr)) (fun _ kv _ => n - (intOf kv).toNat)
   case atStart => exact ⟨0, [87, 119, n], rfl, Nat.zero_le _, Lib.hid (by simp [encFns]), by simp, Lib.hid (fun i f h => by omega), HO, HBC⟩
   case round =>
    obtain ⟨k, E, rfl, hk, HE, hEl, HCA, HR, HB⟩ := hrel
    obtain ⟨wi, rfl⟩ : ∃ wi : World, wi = wr := ⟨_, rfl⟩
    by_cases hkn : k < n
    ·have k0 : (0 : Int) ≤ k := by omega
     have k1 : (k : Int) < n := by omega
     obtain ⟨f, hf⟩ : ∃ f, fs[k]? = some f := ⟨_, List.getElem?_eq_getElem (by rw [← HN.out]; exact hkn)⟩
     have hmem := List.mem_of_getElem? hf
     obtain ⟨b, off, iv, rfl, c0, c1, c2, hmi⟩ := HFC.out k f hf
     have HBW := Lib.hid (HB5.out.trans (HB.out.mono HB5.out.size))
     have t0 := cellB HBW.out c0; have t1 := cellB HBW.out c1; have t2 := cellB HBW.out c2
     have HMI := Lib.hid hmi
     have HFN := Lib.hid (HR_.out f hmem)
     have HFL := Lib.hid (HLE.out.2 f hmem)
     have HFK := Lib.hid hf
     have HENC : Hid (encFns fs (k + 1) = encFns fs k ++ encFn f) := Lib.hid (by show encFns fs k ++ _ = _; rw [hf])
     obtain ⟨p, s, xs⟩ := f
     simp only at t0 t1 t2 HMI HFN HFL
     obtain ⟨ia, ic, rfl, _⟩ := hmi
     have HEN := Lib.hid (fun w' h1 h2 => ienc_any w' p s (.slice ia xs.length ic) xs h1 h2 HFL.out HFN.out)
     unfold EncPost at HEN
     have hsz := HB.out.size
     clear c0 c1 c2 hf hmem
     go_wp2_with (fail)
     go_at_call 121
     have hbx := below1 wi (.cells #[.int .i64 p, .int .i64 s, .slice ia xs.length ic] 105)
     have hxb : Blk (wi.alloc (.cells #[.int .i64 p, .int .i64 s, .slice ia xs.length ic] 105)) wi.heap.size [.int .i64 p, .int .i64 s, .slice ia xs.length ic] := Blk.new _ _ _
     generalize wi.alloc _ = wx at *
     have HBX := Lib.hid (HB.out.trans (hbx.mono hsz))
     have HBWX := Lib.hid (HBW.out.trans (hbx.mono HBW.out.size))
     have HRX := Lib.hid (ownsRow_below HR.out hbx)
     have HXB := Lib.hid hxb
     have hqx := hxb.lt
     have hqo : ∀ q, u4.ownBlock = some q → q < wi.heap.size := fun q hq => (World.ownsRow.lt HR.out q hq).2
     have HQO := Lib.hid hqo
     refine (HEN.out wx (HFO.out.below HBWX.out) (HMI.out.below HBWX.out)).mono ?_
     rintro e w7 ⟨bv, ok, bs, rfl, hbc, hbe, hbo, hb7⟩
     have HB7 := Lib.hid (HBX.out.trans (hb7.mono HBX.out.size))
     have HBW7 := Lib.hid (HBWX.out.trans (hb7.mono HBWX.out.size))
     have HR7 := Lib.hid (ownsRow_below HRX.out hb7)
     have HX7 := Lib.hid (HXB.out.below hb7)
     have HO7 := Lib.hid hbo
     have hs7 := HB7.out.size
     have hq7 : wi.heap.size < w7.heap.size := HX7.out.lt
     clear hbx hxb hbo hb7 t0 t1 t2 HEN HR HRX HXB HBX HBWX HBW hqo
     cases ok with
     |false =>
      have HX : Hid (¬ ImgOk fs) := Lib.hid (fun h => by
       have := hbc.2 (h.2 _ (List.mem_of_getElem? HFK.out))
       cases this)
      clear hbc hbe
      go_wp2_with (fail)
      exact HNO.out _ _ HX.out HBW7.out
     |true =>
      have hcan := hbc.1 rfl
      have hbs : bs = encO ⟨p, s, xs⟩ := hbe rfl
      have HCAN := Lib.hid hcan; have HBS := Lib.hid hbs
      have hbl : bs.length ≤ 8000 := by rw [hbs]; unfold encO; rw [encF_tot]; exact hcan.2
      have hb0 : 0 < bs.length := by
       rw [hbs]; unfold encO
       have hp := (CanS.fn hcan.1).pos
       rw [← nisOf_len] at hp
       obtain ⟨m, hm⟩ : ∃ m, (nisOf ⟨p, s, xs⟩).length = m + 1 := ⟨(nisOf ⟨p, s, xs⟩).length - 1, by omega⟩
       rw [hm]
       show 0 < (encF _ _ m ++ encI _ _ m).length
       rw [List.length_append, encI_size]
       have := (sizN_le (niAt (nisOf ⟨p, s, xs⟩) m) ((longN (nisOf ⟨p, s, xs⟩)).getD m false)).1
       omega
      obtain ⟨gb, cb, rfl⟩ := own_form HO7.out hb0
      obtain ⟨x0, x1, x2⟩ := c3_of HX7.out
      obtain ⟨N, hN⟩ : ∃ N, N = bs.length := ⟨_, rfl⟩
      obtain ⟨P, hP⟩ : ∃ P : Nat, P = (p % 256).toNat := ⟨_, rfl⟩
      obtain ⟨SS, hS⟩ : ∃ S : Nat, S = (s % 256).toNat := ⟨_, rfl⟩
      have wp : IntKind.u8.wrap p = (P : Int) := by rw [u8_wrap, hP]
      have ws : IntKind.u8.wrap s = (SS : Int) := by rw [u8_wrap, hS]
      have wm : IntKind.u8.wrap ((N : Int) % 256) = ((N % 256 : Nat) : Int) := by rw [u8_wrap]; omega
      have wq : IntKind.u8.wrap ((N : Int) / 256) = ((N / 256 : Nat) : Int) := by rw [u8_wrap]; omega
      obtain ⟨N1, hN1⟩ : ∃ N1, N1 = N % 256 := ⟨_, rfl⟩
      obtain ⟨N2, hN2⟩ : ∃ N2, N2 = N / 256 := ⟨_, rfl⟩
      rw [← hN1] at wm; rw [← hN2] at wq
      have HEF : Hid (encFn ⟨p, s, xs⟩ = [P, SS, N1, N2] ++ bs) := Lib.hid (by unfold encFn; rw [hN1, hN2, hN, hbs, hP, hS])
      have HNB := Lib.hid hN
      rw [← hN] at HO7 hbl hb0 ⊢
      clear hcan hbs hN hP hS hN1 hN2 hbc hbe
      go_wp2_with (first | (at_builtin; refine wpList_append_lies _ rfl _ _ 22 (by rfl) w5.heap.size 5 i0 (.int .u8 0) 1 1 Tryd.underlying22 hi hz0 hz1 hz2 rfl (by decide) _ E.length (u8s E) (by rfl) (HR7.out.alloc _) ⟨w7.heap.size, 0, none⟩ 4 4 (u8s [P, SS, N1, N2]) (by rfl) rfl (World.news_of_block (heap_alloc_new w7 _)) (u8s_one _) (by decide) (by unfold maxLen; omega) (by omega) (by simp; omega) _ rfl ?_; intro g8 c8 w8 ho8 hg8 hat8 _; have HR8 := Lib.hid ho8; have HB8 := Lib.hid ((HB7.out.alloc hs7 _).grown hg8 (by simp; omega) (fun q hq => (World.ownsRow.lt HR7.out q hq).1)); have HN8 := Lib.hid ((HO7.out.alloc _).kept hg8 (by right; intro e; have := (World.ownsRow.lt HO7.out gb rfl).1; have := HQO.out gb e.symm; omega)); have hs8 := HB8.out.size; clear ho8 hg8 hat8) | (at_builtin; refine wpList_append_lies _ rfl _ _ 22 (by rfl) w5.heap.size 5 i0 (.int .u8 0) 1 1 Tryd.underlying22 hi hz0 hz1 hz2 rfl (by decide) _ (E.length + 4) _ (by rfl) HR8.out ⟨gb, 0, none⟩ N cb (u8s bs) (by rfl) (by rw [u8s_len, ← HNB.out, Nat.mul_one]) (news_row HN8.out) (u8s_one bs) hb0 (by unfold maxLen; omega) (by omega) hs8 _ rfl ?_; intro g9 c9 w9 ho9 hg9 hat9 _; have HR9 := Lib.hid ho9; have HB9 := Lib.hid (HB8.out.grown hg9 hs8 (fun q hq => (World.ownsRow.lt HR8.out q hq).1)); clear ho9 hg9 hat9) | fail)
      go_roundw
      case rel =>
       refine ⟨k + 1, E ++ ([P, SS, N1, N2] ++ bs), by go_num, by omega, Lib.hid ?_, ?_, Lib.hid ?_, Lib.hid ?_, HB9⟩
       ·rw [HENC.out, HEF.out, HE.out, List.append_assoc]
       ·rw [List.length_append, List.length_append, ← HNB.out]; simp; omega
       ·intro i f hi hfi
        rcases Nat.lt_or_ge i k with h | h
        ·exact HCA.out i f h hfi
        ·obtain rfl : i = k := by omega
         rw [HFK.out] at hfi
         injection hfi with hfi
         rw [← hfi]; exact HCAN.out
       ·have h1 := HR9.out
        have h2 : (E ++ ([P, SS, N1, N2] ++ bs)).length = E.length + 4 + N := by rw [List.length_append, List.length_append, ← HNB.out]; simp; omega
        have h3 : u8s (E ++ ([P, SS, N1, N2] ++ bs)) = u8s E ++ u8s [P, SS, N1, N2] ++ u8s bs := by simp [u8s]
        rw [h2, h3]; exact h1
      case measure => simp [intOf]; omega
    ·obtain rfl : n = k := by omega
     have HIM : Hid (ImgOk fs) := Lib.hid ⟨HMO.out, fun f hf => by
      obtain ⟨i, hi⟩ := List.getElem?_of_mem hf
      exact HCA.out i f (by rw [HN.out]; exact idx_lt hi) hi⟩
     have HEE : Hid (E = encImg fs) := Lib.hid (by
      rw [HE.out]; unfold encImg
      rw [← HN.out, Nat.mod_eq_of_lt (by omega)])
     go_wp2_with (fail)
     exact HYES.out _ _ E HIM.out HEE.out (ownsRow_mono HR.out HB5.out.size) (HB5.out.trans (HB.out.mono HB5.out.size))
end Go.Proofs.YtbdbmmdnidonjaaDoor
