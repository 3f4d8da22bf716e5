/- The program of an image, on the reference's side: ReadImage, ImageValid. -/
import Derived.Test.YtbdbmmdnidonjaaDoorUJt
import Derived.Deep.RegionHeld3
set_option linter.unusedVariables false
set_option linter.unusedSimpArgs false
set_option maxRecDepth 100000
namespace Go.Proofs.YtbdbmmdnidonjaaDoor
open Go.RowKit
def RdP (b : List Nat) (w : World) (e : Ending) (w' : World) : Prop :=
 ∃ (fv : Value) (fs : List Mf) (ok : Bool), e = .returned (.tuple #[.agg #[fv], .bool ok]) ∧ (ok = true → ∃ l, readI b = some (l, fs)) ∧ (ok = false → readI b = none ∧ fs = []) ∧ OwnFns w.heap.size w' fv fs ∧ Below w.heap.size w w'
theorem readI_none {b : List Nat} (h : headN b = false ∨ imF b (byteN b 2) = none) : readI b = none := by
 unfold readI
 rcases h with h | h
 ·rw [h]; rfl
 ·rw [h]; split <;> rfl
theorem readI_bad {b : List Nat} {l : List Sec} {fs : List Mf} {p : Nat} (h : imF b (byteN b 2) = some (l, fs, p)) (hn : ¬ (p = b.length ∧ MachOk fs)) : readI b = none := by
 unfold readI
 rw [h]
 simp only [if_neg hn]
 split <;> rfl
theorem readI_yes {b : List Nat} {l : List Sec} {fs : List Mf} {p : Nat} (hh : headN b = true) (h : imF b (byteN b 2) = some (l, fs, p)) (hn : p = b.length ∧ MachOk fs) : readI b = some (l, fs) := by
 unfold readI
 rw [if_pos hh, h]
 simp only [if_pos hn]
theorem c1_of {w : World} {p : Nat} {x0 : Value} (h : Blk w p [x0]) : w.cell? ⟨p, 0, none⟩ = some x0 := by rw [h.cell]; rfl
theorem imF_le {b : List Nat} {j : Nat} {l : List Sec} {fs : List Mf} {p : Nat} (h3 : 3 ≤ b.length) (h : imF b j = some (l, fs, p)) : fs.length = j ∧ 3 ≤ p ∧ p ≤ b.length ∧ (∀ f ∈ fs, f.ins.length ≤ 2000) := by
 obtain ⟨h1, h2, h4⟩ := imF_sec h
 obtain ⟨a1, a2, a3, a4⟩ := secF_len h1
 refine ⟨by omega, a2, a3 h3, fun f hf => ?_⟩
 obtain ⟨i, hi⟩ := List.getElem?_of_mem hf
 have hil := idx_lt hi
 obtain ⟨f', hf', hd⟩ := h4 i (l[i]'(by omega)) (List.getElem?_eq_getElem _)
 rw [hi] at hf'
 injection hf' with hf'
 subst hf'
 exact (CanS.fn (decR_some hd).2.2.1.1).len
set_option maxHeartbeats 8000000 in
theorem read_any (w : World) (v : Value) (b : List Nat) (h : CsC w v b) (hle : b.length ≤ 1048576) :
  Calls Tryd.prog 65 #[v] w (RdP b w) := by
 obtain ⟨j0, hj, hw0, hw1, hw2⟩ := info_parts info_mf
 have HCS := Lib.hid h
 obtain ⟨⟨a, cap, rfl, hsm, hc⟩, _⟩ := h
 obtain ⟨L, hL⟩ : ∃ L, L = b.length := ⟨_, rfl⟩
 have HC : Hid (∀ i, i < L → ∃ g off, a = some ⟨g, off, none⟩ ∧ w.cell? ⟨g, off + i, none⟩ = some (.int .u8 ((byteN b i : Nat) : Int))) := Lib.hid (by rw [hL]; exact hc)
 have HSM := Lib.hid hsm
 have HNO : Hid (∀ w' (fv : Value), readI b = none → fv = .slice none 0 0 → Below w.heap.size w w' → RdP b w (.returned (.tuple #[.agg #[fv], .bool false])) w') := Lib.hid (fun w' fv hd hv hb => by
  subst hv
  exact ⟨_, [], false, rfl, (fun h => by cases h), fun _ => ⟨hd, rfl⟩, ⟨[], World.ownsRow_nil _ _ _ _, fun i f hi => by simp at hi⟩, hb⟩)
 have HYES : Hid (∀ w' (fv : Value) l fs, readI b = some (l, fs) → OwnFns w.heap.size w' fv fs → Below w.heap.size w w' → RdP b w (.returned (.tuple #[.agg #[fv], .bool true])) w') := Lib.hid (fun w' fv l fs hd ho hb =>
  ⟨fv, fs, true, rfl, fun _ => ⟨l, hd⟩, (fun h => by cases h), ho, hb⟩)
 obtain ⟨Q, hQ⟩ : ∃ Q, Q = RdP b w := ⟨_, rfl⟩
 rw [← hQ] at HNO HYES ⊢
 have HLN := Lib.hid hL
 rw [← hL] at HCS hle ⊢
 have hL0 : (L : Int) ≤ 1048576 := by omega
 clear hQ hL hsm hc
 by_cases h3 : L < 3
 ·have HH : Hid (readI b = none) := Lib.hid (readI_none (.inl (by unfold headN; rw [← HLN.out]; simp; omega)))
  have g1 : (L : Int) < 3 := by omega
  go_enter Tryd.func65, Tryd.ntmps65
  go_wp2_with (fail)
  refine bodyPost_ret (v := .tuple #[.agg #[.slice none 0 0], .bool false]) (by simp [results, Tryd.results65, go_sem]) rfl ?_
  refine HNO.out _ _ HH.out rfl ?_
  (repeat' (first | exact Below.refl _ _ | assumption | (refine Below.setCell ?_ ?_ _) | (refine Below.alloc ?_ ?_ _) | (refine belowDrewN ?_ _) | omega | (simp; done) | (simp; omega)))
 obtain ⟨g, off, rfl, c0⟩ := HC.out 0 (by omega)
 have hcell : ∀ i, i < L → w.cell? ⟨g, off + i, none⟩ = some (.int .u8 ((byteN b i : Nat) : Int)) := fun i hi => by
  obtain ⟨g', off', he, h1⟩ := HC.out i hi
  injection he with he; injection he with e1 e2 e3; subst e1 e2; exact h1
 have hgl := World.block_lt_of_cell? w _ c0
 simp only at hgl
 have c1 := hcell 1 (by omega)
 have c2 := hcell 2 (by omega)
 obtain ⟨b0, hb0⟩ : ∃ b0, b0 = byteN b 0 := ⟨_, rfl⟩
 obtain ⟨b1, hb1⟩ : ∃ b1, b1 = byteN b 1 := ⟨_, rfl⟩
 obtain ⟨m, hm⟩ : ∃ m, m = byteN b 2 := ⟨_, rfl⟩
 have hm6 : m < 256 := by rw [hm]; exact byteN_lt HSM.out _
 have hh : headN b = ((b0 == 87) && (b1 == 119)) := by unfold headN; rw [← hb0, ← hb1, ← HLN.out]; have ht : decide (3 ≤ L) = true := decide_eq_true (by omega); rw [ht, Bool.true_and]
 rw [Nat.add_zero, ← hb0] at c0
 rw [← hb1] at c1
 rw [← hm] at c2
 have HHD := Lib.hid hh; have HM := Lib.hid hm
 have HCELL := Lib.hid hcell
 clear hh hb0 hb1 hm hcell HC
 have d0 := fun o => cellB (below1 w o) c0
 have d1 := fun o => cellB (below1 w o) c1
 have n3 : (3 : Int) ≤ L := by omega
 have q0 : (0 : Int) < L := by omega
 have q1 : (1 : Int) < L := by omega
 have q2 : (2 : Int) < L := by omega
 have n3' : decide ((L : Int) < 3) = false := by simp; omega
 by_cases e0 : b0 = 87
 ·by_cases e1 : b1 = 119
  ·subst e0 e1
   have HH : Hid (headN b = true) := Lib.hid (by rw [HHD.out]; rfl)
   clear HHD
   go_enter Tryd.func65, Tryd.ntmps65
   go_wp2_with (fail)
   generalize hwa : w.alloc _ = w1
   have hR1 : Blk w1 w.heap.size [.slice none 0 0] := by rw [← hwa]; exact Blk.new _ _ _
   have hb1 : Below w.heap.size w w1 := by rw [← hwa]; exact below1 _ _
   have hs1 : w1.heap.size = w.heap.size + 1 := by rw [← hwa]; simp
   generalize hwb : w1.alloc _ = w2
   have hM2 : Blk w2 (w.heap.size + 1) [.slice none 0 0] := by rw [← hwb, ← hs1]; exact Blk.new _ _ _
   have hb2 : Below w1.heap.size w1 w2 := by rw [← hwb]; exact below1 _ _
   have hs2 : w2.heap.size = w.heap.size + 1 + 1 := by rw [← hwb]; simp [hs1]
   have HB2 := Lib.hid (hb1.trans (hb2.mono hb1.size))
   have HR2 := Lib.hid (hR1.below hb2)
   have HM2 := Lib.hid hM2
   have HS2 := Lib.hid hs2
   have HC2 := Lib.hid c2
   have HLE : Hid (3 ≤ b.length) := Lib.hid (by rw [← HLN.out]; omega)
   clear hwa hwb hR1 hb1 hs1 hM2 hb2 hs2 c0 c1 c2 d0 d1 n3' q0 q1
   go_loopw [5, 6] (fun pv kv wr => ∃ (l : List Sec) (fs : List Mf) (p k : Nat) (fa : Option Addr) (fc : Nat), pv = .int .i64 (p : Int) ∧ kv = .int .i64 (k : Int) ∧ k ≤ m ∧ Hid (imF b k = some (l, fs, p)) ∧ Hid (Blk wr (w.heap.size + 1) [.slice fa k fc]) ∧ Hid (OwnFns w2.heap.size wr (.slice fa k fc) fs) ∧ Hid (Only [w.heap.size + 1] w2 wr)) (fun _ kv _ => m - (intOf kv).toNat)
   case atStart => exact ⟨[], [], 3, 0, none, 0, rfl, rfl, Nat.zero_le _, Lib.hid rfl, HM2, Lib.hid ⟨[], World.ownsRow_nil _ _ _ _, fun i f hi => by simp at hi⟩, Lib.hid (Only.refl _ _)⟩
   case round =>
    obtain ⟨l, fs, p, k, fa, fc, rfl, rfl, hkm, HIM, HMB, HOF, HON⟩ := hrel
    obtain ⟨wo, rfl⟩ : ∃ wo : World, wo = wr := ⟨_, rfl⟩
    obtain ⟨hfl, hp3, hpL, _⟩ := imF_le HLE.out HIM.out
    rw [← HLN.out] at hpL
    have HFL := Lib.hid hfl
    clear hfl
    have HBO : Hid (Below w.heap.size w wo) := Lib.hid (Only.below HB2.out HON.out HB2.out.size (fun b hb => by have := List.mem_singleton.1 hb; omega))
    have hs2 := HS2.out
    have HRO : Hid (Blk wo w.heap.size [.slice none 0 0]) := Lib.hid (HR2.out.same (HON.out.block _ HR2.out.lt (by simp)))
    have t2 := cellB HBO.out HC2.out
    have p0 : (0 : Int) ≤ p := by omega
    have pL : (p : Int) ≤ L := by omega
    have hr0 := HRO.out.cell 0
    simp only [List.getElem?_cons_zero] at hr0
    have hrf := HRO.out.frozen 0
    by_cases hgo : k < m
    ·have k1 : (k : Int) < m := by omega
     by_cases hp4 : L < p + 4
     ·have HX : Hid (readI b = none) := Lib.hid (readI_none (.inr (imF_none (j := k + 1) (by unfold imF; rw [HIM.out]; simp only []; rw [if_pos (by rw [← HLN.out]; omega)]) _ (by rw [← HM.out]; omega))))
      have g1 : (L : Int) < p + 4 := by omega
      clear hp4
      go_wp2_with (fail)
      refine bodyPost_ret (v := .tuple #[.agg #[.slice none 0 0], .bool false]) (by simp [results, Tryd.results65, go_sem, hr0]) rfl ?_
      refine HNO.out _ _ HX.out rfl ?_
      exact HBO.out.setCell (p := ⟨w.heap.size, 0, none⟩) (by simp) _
     ·have g1 : (p : Int) + 4 ≤ L := by omega
      obtain ⟨y0, hy0⟩ : ∃ y, y = byteN b p := ⟨_, rfl⟩
      obtain ⟨y1, hy1⟩ : ∃ y, y = byteN b (p + 1) := ⟨_, rfl⟩
      obtain ⟨y2, hy2⟩ : ∃ y, y = byteN b (p + 2) := ⟨_, rfl⟩
      obtain ⟨y3, hy3⟩ : ∃ y, y = byteN b (p + 3) := ⟨_, rfl⟩
      have z0 : y0 < 256 := by rw [hy0]; exact byteN_lt HSM.out _
      have z1 : y1 < 256 := by rw [hy1]; exact byteN_lt HSM.out _
      have z2 : y2 < 256 := by rw [hy2]; exact byteN_lt HSM.out _
      have z3 : y3 < 256 := by rw [hy3]; exact byteN_lt HSM.out _
      have HSE : Hid (secAt b p = ⟨y0, y1, p + 4, y2 + 256 * y3⟩) := Lib.hid (by unfold secAt; rw [hy0, hy1, hy2, hy3])
      have w0 := cellB HBO.out (HCELL.out p (by omega))
      have w1' := cellB HBO.out (HCELL.out (p + 1) (by omega))
      have w2' := cellB HBO.out (HCELL.out (p + 2) (by omega))
      have w3' := cellB HBO.out (HCELL.out (p + 3) (by omega))
      rw [← hy0] at w0; rw [← hy1] at w1'; rw [← hy2] at w2'; rw [← hy3] at w3'
      have W0 := Lib.hid w0; have W1 := Lib.hid w1'; have W2 := Lib.hid w2'; have W3 := Lib.hid w3'
      obtain ⟨n, hn⟩ : ∃ n, n = y2 + 256 * y3 := ⟨_, rfl⟩
      have HN := Lib.hid hn
      have S0 := Lib.hid (show IntKind.i64.wrap (256 * (y3 : Int)) = 256 * (y3 : Int) from IntWalk.i64_in _ (by omega))
      have S1 := Lib.hid (show IntKind.i64.wrap ((y2 : Int) + 256 * (y3 : Int)) = (n : Int) from by rw [IntWalk.i64_in _ (by omega)]; omega)
      have S2 := Lib.hid (show IntKind.i64.wrap ((p : Int) + 2) = (p : Int) + 2 from IntWalk.i64_in _ (by omega))
      have S3 := Lib.hid (show IntKind.i64.wrap ((p : Int) + 3) = (p : Int) + 3 from IntWalk.i64_in _ (by omega))
      have S4 := Lib.hid (show IntKind.i64.wrap ((y2 : Int)) = (y2 : Int) from IntWalk.i64_in _ (by omega))
      have S5 := Lib.hid (show IntKind.i64.wrap ((y3 : Int)) = (y3 : Int) from IntWalk.i64_in _ (by omega))
      have i2 : ((p : Int) + 2).toNat = p + 2 := by omega
      have i3 : ((p : Int) + 3).toNat = p + 3 := by omega
      have j2 : (0 : Int) ≤ (p : Int) + 2 := by omega
      have j3 : (0 : Int) ≤ (p : Int) + 3 := by omega
      have l2 : (p : Int) + 2 < L := by omega
      have l3 : (p : Int) + 3 < L := by omega
      have hn0 : (0 : Int) ≤ n := by omega
      have hn1 : (n : Int) ≤ 65535 := by omega
      clear hy0 hy1 hy2 hy3 hn w0 w1'
      go_wp2_with (fail)
      have s0 := S0.out; have s1 := S1.out; have s2 := S2.out; have s3 := S3.out; have s4 := S4.out; have s5 := S5.out
      go_quiet (fail)
      clear s0 s1 s2 s3 s4 s5
      have HMB2 := Lib.hid (HMB.out.drewN nq)
      have HRO2 := Lib.hid (HRO.out.drewN nq)
      have HOF2 := Lib.hid (HOF.out.only (Only.of_below (belowDrewN (Below.refl _ wo) nq) []) (by simp))
      have HON2 := Lib.hid (HON.out.drewN nq)
      have HBO2 := Lib.hid (belowDrewN HBO.out nq)
      have w0 : (wo.drewN nq).cell? ⟨g, off + p, none⟩ = some (.int .u8 (y0 : Int)) := W0.out
      have w1' : (wo.drewN nq).cell? ⟨g, off + (p + 1), none⟩ = some (.int .u8 (y1 : Int)) := W1.out
      have hr0' := c1_of HRO2.out
      have hrf' := HRO2.out.frozen 0
      clear hr0 hrf t2 w2' w3' HMB HRO HOF HON HBO W0 W1 W2 W3
      generalize wo.drewN nq = wd at *
      by_cases hpn : L < p + 4 + n
      ·have HX : Hid (readI b = none) := Lib.hid (readI_none (.inr (imF_none (j := k + 1) (by
        unfold imF; rw [HIM.out]; simp only []; rw [if_neg (by rw [← HLN.out]; omega), if_pos (by rw [← HLN.out, HSE.out]; simp only []; have := HN.out; omega)]) _ (by rw [← HM.out]; omega))))
       have g2 : (L : Int) < (p : Int) + 4 + n := by omega
       clear hpn hp4
       go_wp2_with (fail)
       refine bodyPost_ret (v := .tuple #[.agg #[.slice none 0 0], .bool false]) (by simp [results, Tryd.results65, go_sem, hr0']) rfl ?_
       refine HNO.out _ _ HX.out rfl ?_
       exact HBO2.out.setCell (p := ⟨w.heap.size, 0, none⟩) (by simp) _
      ·have g2 : (p : Int) + 4 + n ≤ L := by omega
       obtain ⟨sa, sc, hsv, hsl, _⟩ := slice_cs HCS.out (show p + 4 + n ≤ L by omega)
       have HCU : Hid (imF b (k + 1) = match decR (y0 : Int) (y1 : Int) (cutN b (p + 4) n) with | none => none | some f => some (l ++ [secAt b p], fs ++ [f], p + 4 + n)) := Lib.hid (by
        conv => lhs; unfold imF
        rw [HIM.out]
        simp only []
        rw [if_neg (by rw [← HLN.out]; omega), if_neg (by rw [← HLN.out, HSE.out]; simp only []; have := HN.out; omega)]
        unfold decS Sec.code
        rw [HSE.out]
        rw [← HN.out]; rfl)
       have HDE := Lib.hid (fun w' h => dec_any w' (y0 : Int) (y1 : Int) (.slice sa n sc) (cutN b (p + 4) n) h (by rw [cutN_len (by rw [← HLN.out]; omega)]; omega))
       unfold DecP at HDE
       have HSV := Lib.hid hsv
       have HSL := Lib.hid hsl
       have S0 := Lib.hid (show IntKind.i64.wrap ((p : Int) + 1) = (p : Int) + 1 from IntWalk.i64_in _ (by omega))
       have S1 := Lib.hid (show IntKind.i64.wrap ((p : Int) + 4) = (p : Int) + 4 from IntWalk.i64_in _ (by omega))
       have S2 := Lib.hid (show IntKind.i64.wrap ((p : Int) + 4 + n) = (p : Int) + 4 + n from IntWalk.i64_in _ (by omega))
       have S3 := Lib.hid (show IntKind.i64.wrap ((y0 : Int)) = (y0 : Int) from IntWalk.i64_in _ (by omega))
       have S4 := Lib.hid (show IntKind.i64.wrap ((y1 : Int)) = (y1 : Int) from IntWalk.i64_in _ (by omega))
       have hsl2 : ∀ w', (Instr.slice 22 (.slice (some ⟨g, off, none⟩) L cap) (some (.int .i64 ((p : Int) + 4))) (some (.int .i64 ((p : Int) + 4 + n))) none).run Tryd.prog w' = .ok (.slice sa n sc) w' := fun w' => HSL.out w' _ _ (by omega) (by omega)
       have i1 : ((p : Int) + 1).toNat = p + 1 := by omega
       have j1 : (0 : Int) ≤ (p : Int) + 1 := by omega
       have l1 : (p : Int) + 1 < L := by omega
       have l0 : (p : Int) < L := by omega
       clear hsv hsl hpn hp4 HSL
       go_wp2_with (fail)
       have s0 := S0.out; have s1 := S1.out; have s2 := S2.out; have s3 := S3.out; have s4 := S4.out
       have hK : ∀ W, Below wd.heap.size wd W → (fun W => W.cell? ⟨g, off + p, none⟩ = some (.int .u8 (y0 : Int)) ∧ W.cell? ⟨g, off + (p + 1), none⟩ = some (.int .u8 (y1 : Int))) W := fun W h => ⟨cellB h w0, cellB h w1'⟩
       have hSa := hK _ (Below.refl _ _)
       have hSb := hK _ (Below.refl _ _).drew
       have hSz := hK _ ((Below.refl _ _).alloc (Nat.le_refl _) (.cells #[.int .i64 0, .int .i64 0, .slice none 0 0] 105))
       have hSf := hK _ ((Below.refl _ _).alloc (Nat.le_refl _) (.cells #[.int .i64 0, .int .i64 0, .slice none 0 0] 105)).drew
       have HK := Lib.hid hK
       have HDA := Lib.hid (HDE.out wd.drew (((HSV.out.below HBO2.out).below (Below.refl _ _).drew).1))
       have HDB := Lib.hid (HDE.out (wd.alloc (.cells #[.int .i64 0, .int .i64 0, .slice none 0 0] 105)).drew (((HSV.out.below HBO2.out).below ((Below.refl _ _).alloc (Nat.le_refl _) (.cells #[.int .i64 0, .int .i64 0, .slice none 0 0] 105)).drew).1))
       have HZB : Hid (Blk (wd.alloc (.cells #[.int .i64 0, .int .i64 0, .slice none 0 0] 105)).drew wd.heap.size [.int .i64 0, .int .i64 0, .slice none 0 0]) := Lib.hid (Blk.new wd _ _)
       clear hK w0 w1'
       go_region_held3 (fun W => W.cell? ⟨g, off + p, none⟩ = some (.int .u8 (y0 : Int)) ∧ W.cell? ⟨g, off + (p + 1), none⟩ = some (.int .u8 (y1 : Int))) (first | assumption) (first | (((with_reducible refine HDA.out.mono ?_)); rintro e w5 ⟨f, iv, ok, rfl, hy, hno, hoi, hb5⟩; obtain ⟨ia, ic, rfl⟩ := hoi.form; have hB5 := ((Below.refl wd.heap.size wd).drew.trans hb5); have hSc := HK.out w5 hB5; have hSd := HK.out _ (hB5.alloc hB5.size (.cells #[.int .i64 0, .int .i64 0, .slice none 0 0] 105)); have hSe := HK.out _ (hB5.alloc hB5.size (.cells #[.int .i64 f.params, .int .i64 f.slots, .slice ia f.ins.length ic] 105)); have HY := Lib.hid hy; have HNN := Lib.hid hno; have HX8 : Hid (∃ W8, W8 = w5.alloc (.cells #[.int .i64 f.params, .int .i64 f.slots, .slice ia f.ins.length ic] 105) ∧ Blk W8 w5.heap.size [.int .i64 f.params, .int .i64 f.slots, .slice ia f.ins.length ic] ∧ OwnIns wd.heap.size W8 (.slice ia f.ins.length ic) f.ins ∧ Below wd.heap.size wd W8) := Lib.hid ⟨_, rfl, Blk.new _ _ _, (hoi.only (Only.of_below (below1 _ _) []) (by simp)), hB5.alloc hB5.size _⟩; clear hb5 hy hno hoi hB5) | (((with_reducible refine HDB.out.mono ?_)); rintro e w5 ⟨f, iv, ok, rfl, hy, hno, hoi, hb5⟩; obtain ⟨ia, ic, rfl⟩ := hoi.form; have hB5 := (((Below.refl wd.heap.size wd).alloc (Nat.le_refl _) (.cells #[.int .i64 0, .int .i64 0, .slice none 0 0] 105)).drew.trans (hb5.mono (by simp))); have hSc := HK.out w5 hB5; have hSe := HK.out (((w5.setCell ⟨wd.heap.size, 0, none⟩ (.int .i64 f.params)).setCell ⟨wd.heap.size, 1, none⟩ (.int .i64 f.slots)).setCell ⟨wd.heap.size, 2, none⟩ (.slice ia f.ins.length ic)) (((hB5.setCell (p := ⟨wd.heap.size, 0, none⟩) (Nat.le_refl _) _).setCell (p := ⟨wd.heap.size, 1, none⟩) (Nat.le_refl _) _).setCell (p := ⟨wd.heap.size, 2, none⟩) (Nat.le_refl _) _); have hZ5 := HZB.out.below hb5; obtain ⟨v0, v1, v2⟩ := c3_of hZ5; have vf0 := hZ5.frozen 0; have vf1 := hZ5.frozen 1; have vf2 := hZ5.frozen 2; have HY := Lib.hid hy; have HNN := Lib.hid hno; have HX8 : Hid (∃ W8, W8 = ((w5.setCell ⟨wd.heap.size, 0, none⟩ (.int .i64 f.params)).setCell ⟨wd.heap.size, 1, none⟩ (.int .i64 f.slots)).setCell ⟨wd.heap.size, 2, none⟩ (.slice ia f.ins.length ic) ∧ Blk W8 wd.heap.size [.int .i64 f.params, .int .i64 f.slots, .slice ia f.ins.length ic] ∧ OwnIns wd.heap.size W8 (.slice ia f.ins.length ic) f.ins ∧ Below wd.heap.size wd W8) := Lib.hid ⟨_, rfl, ((hZ5.set 0 _).set 1 _).set 2 _, (hoi.only (((((Only.refl [wd.heap.size] w5).setCell (p := ⟨wd.heap.size, 0, none⟩) (by simp) _).setCell (p := ⟨wd.heap.size, 1, none⟩) (by simp) _).setCell (p := ⟨wd.heap.size, 2, none⟩) (by simp) _)) (by simp)).mono (by simp), (((hB5.setCell (p := ⟨wd.heap.size, 0, none⟩) (Nat.le_refl _) _).setCell (p := ⟨wd.heap.size, 1, none⟩) (Nat.le_refl _) _).setCell (p := ⟨wd.heap.size, 2, none⟩) (Nat.le_refl _) _)⟩; clear hb5 hy hno hoi hB5 hZ5))
       all_goals
        obtain ⟨W8, hW8, hB8, hO8, hb8⟩ := HX8.out
        rw [← hW8]
        have HB8 := Lib.hid (HBO2.out.trans (hb8.mono HBO2.out.size))
        have HM8 := Lib.hid (HMB2.out.below hb8)
        have HR8 := Lib.hid (HRO2.out.below hb8)
        have HN8 := Lib.hid (HON2.out.trans (Only.of_below hb8 _))
        have hsd := HON2.out.size
        have hs8 := hb8.size
        have hs22 := HS2.out
        have HI8 := Lib.hid (hO8.mono hsd)
        have HF8 := Lib.hid (HOF2.out.only (Only.of_below hb8 []) (by simp))
        have hr8 := c1_of HR8.out
        have hrf8 := HR8.out.frozen 0
        have hm8 := c1_of HM8.out
        have hmf8 := HM8.out.frozen 0
        obtain ⟨v0, v1, v2⟩ := c3_of hB8
        clear hW8 hB8 hO8 hb8 HX8 hr0' hrf' HMB2 HRO2 HON2 HOF2 HBO2 hSa hSb hSz hSf hSc hSe HK HDA HDB HZB hsl2 s0 s1 s2 s3 s4 HDE
        try clear hSd
        cases ok with
        |false =>
         have HX : Hid (readI b = none) := Lib.hid (readI_none (.inr (imF_none (j := k + 1) (by rw [HCU.out, (HNN.out rfl).1]) _ (by rw [← HM.out]; omega))))
         go_wp2_with (fail)
         refine bodyPost_ret (v := .tuple #[.agg #[.slice none 0 0], .bool false]) (by simp [results, Tryd.results65, go_sem, hr8]) rfl ?_
         refine HNO.out _ _ HX.out rfl ?_
         exact HB8.out.setCell (p := ⟨w.heap.size, 0, none⟩) (by simp) _
        |true =>
         have HIN : Hid (imF b (k + 1) = some (l ++ [secAt b p], fs ++ [f], p + 4 + n)) := Lib.hid (by rw [HCU.out, HY.out rfl])
         obtain ⟨ys, hys, hxs⟩ := HF8.out
         rw [HFL.out] at hys
         have HYS := Lib.hid hys; have HXS := Lib.hid hxs
         have hk4 : k ≤ 256 := by omega
         clear hys hxs HY HNN
         go_wp2_with (first | (at_builtin; refine wpList_append_own _ rfl _ _ 23 (by rfl) w2.heap.size 105 j0 _ 3 40 Tryd.underlying23 hj hw0 hw1 hw2 rfl (by decide) _ k ys (by rfl) (HYS.out.alloc _) ⟨W8.heap.size, 0, none⟩ 1 1 [.int .i64 f.params, .int .i64 f.slots, .slice ia f.ins.length ic] (by rfl) rfl (World.news_of_block (cs := #[.int .i64 f.params, .int .i64 f.slots, .slice ia f.ins.length ic]) (t := 105) (fr := (0, 0)) (heap_alloc_new W8 _)) (by simp [Value.oneCell']) (by unfold maxLen; omega) (by omega) (by simp; omega) ?_; intro v9 w9 ho9 hg9 _; obtain ⟨g9, c9, rfl⟩ := own_form ho9 (by omega); have hM9 := (HM8.out.alloc _).grown hg9 (fun e => by have := ownBlock_of HYS.out _ e; omega); have m9 := c1_of hM9; have mf9 := hM9.frozen 0; have HM9 := Lib.hid hM9; have HO9 := Lib.hid ho9; have HG9 := Lib.hid hg9; clear ho9 hg9 hM9) | fail)
         go_roundw
         case rel =>
          have hF := OwnFns.snoc (fs := fs) (w := W8.alloc (.cells #[.int .i64 f.params, .int .i64 f.slots, .slice ia f.ins.length ic] 105)) (by rw [HFL.out]; exact HYS.out.alloc _) (fun i f' hi' => by
           obtain ⟨a0, a1, iv', a2, hm⟩ := HXS.out i f' hi'
           exact ⟨a0, a1, iv', a2, hm.only ((Only.refl [] _).alloc _) (by simp)⟩) (HI8.out.only ((Only.refl [] _).alloc _) (by simp)) HG9.out (by rw [HFL.out]; exact HO9.out)
          refine ⟨l ++ [secAt b p], fs ++ [f], p + 4 + n, k + 1, some ⟨g9, 0, none⟩, c9, by go_num, by go_num, by omega, HIN, Lib.hid (HM9.out.set 0 _), Lib.hid ?_, Lib.hid ?_⟩
          ·exact hF.only ((Only.refl [w.heap.size + 1] w9).setCell (p := ⟨w.heap.size + 1, 0, none⟩) (by simp) _) (fun b hb => by have := List.mem_singleton.1 hb; omega)
          ·exact ((HN8.out.alloc _).grown HG9.out (fun q hq => ownBlock_of HYS.out q hq)).setCell (p := ⟨w.heap.size + 1, 0, none⟩) (by simp) _
         case measure => simp [intOf]; omega
    ·obtain rfl : k = m := by omega
     have HFA := Lib.hid (HOF.out.at)
     have HLEM : Hid (MfsLe fs) := Lib.hid ⟨by rw [HFL.out]; omega, fun f hf => by have := (imF_le HLE.out HIM.out).2.2.2 f hf; omega⟩
     have hm0 := c1_of HMB.out
     by_cases hpe : p = L
     ·have hpe1 : ((p : Int) != L) = false := by simp; omega
      have HPE := Lib.hid hpe
      clear hpe
      go_wp2_with (fail)
      go_at_call 79
      refine (specValid_any wo _ fs HFA.out HLEM.out).mono ?_
      rintro e w5 ⟨ok, rfl, hok, hb5⟩
      have HB5 := Lib.hid (HBO.out.trans (hb5.mono HBO.out.size))
      have HOK := Lib.hid hok
      have HR5 := Lib.hid (HRO.out.below hb5)
      have HM5 := Lib.hid (HMB.out.below hb5)
      have HF5 := Lib.hid (HOF.out.only (Only.of_below hb5 []) (by simp))
      have r5 := c1_of HR5.out
      have rf5 := HR5.out.frozen 0
      have m5 := c1_of HM5.out
      clear hb5 hok hm0 hr0 hrf t2 HMB HRO HOF
      cases ok with
      |false =>
       have HX : Hid (readI b = none) := Lib.hid (readI_bad (by rw [← HM.out]; exact HIM.out) (fun h => by have := HOK.out.2 h.2; cases this))
       go_wp2_with (fail)
       refine bodyPost_ret (v := .tuple #[.agg #[.slice none 0 0], .bool false]) (by simp [results, Tryd.results65, go_sem, r5]) rfl ?_
       refine HNO.out _ _ HX.out rfl ?_
       exact HB5.out.setCell (p := ⟨w.heap.size, 0, none⟩) (by simp) _
      |true =>
       have HX : Hid (readI b = some (l, fs)) := Lib.hid (readI_yes HH.out (by rw [← HM.out]; exact HIM.out) ⟨by rw [HPE.out, HLN.out], HOK.out.1 rfl⟩)
       go_wp2_with (fail)
       refine bodyPost_ret (v := .tuple #[.agg #[.slice fa k fc], .bool true]) (by simp [results, Tryd.results65, go_sem, r5]) rfl ?_
       refine HYES.out _ _ _ _ HX.out ?_ ?_
       ·exact (HF5.out.only ((Only.refl [w.heap.size] w5).setCell (p := ⟨w.heap.size, 0, none⟩) (by simp) _) (fun b hb => by have := List.mem_singleton.1 hb; omega)).mono (by omega)
       ·exact HB5.out.setCell (p := ⟨w.heap.size, 0, none⟩) (by simp) _
     ·have HX : Hid (readI b = none) := Lib.hid (readI_bad (by rw [← HM.out]; exact HIM.out) (fun h => by have := HLN.out; omega))
      have hpe1 : ((p : Int) != L) = true := by simp; omega
      clear hpe
      go_wp2_with (fail)
      refine bodyPost_ret (v := .tuple #[.agg #[.slice none 0 0], .bool false]) (by simp [results, Tryd.results65, go_sem, hr0]) rfl ?_
      refine HNO.out _ _ HX.out rfl ?_
      exact HBO.out.setCell (p := ⟨w.heap.size, 0, none⟩) (by simp) _
  ·have HH : Hid (readI b = none) := Lib.hid (readI_none (.inl (by rw [HHD.out, show (b1 == 119) = false by simpa using e1]; simp)))
   have t0 : ((b0 : Int) != 87) = false := by simp; omega
   have t1 : ((b1 : Int) != 119) = true := by simp; omega
   clear e0 e1 HHD
   go_enter Tryd.func65, Tryd.ntmps65
   go_wp2_with (fail)
   refine bodyPost_ret (v := .tuple #[.agg #[.slice none 0 0], .bool false]) (by simp [results, Tryd.results65, go_sem]) rfl ?_
   refine HNO.out _ _ HH.out rfl ?_
   (repeat' (first | exact Below.refl _ _ | assumption | (refine Below.setCell ?_ ?_ _) | (refine Below.alloc ?_ ?_ _) | (refine belowDrewN ?_ _) | omega | (simp; done) | (simp; omega)))
 ·have HH : Hid (readI b = none) := Lib.hid (readI_none (.inl (by rw [HHD.out, show (b0 == 87) = false by simpa using e0]; rfl)))
  have t0 : ((b0 : Int) != 87) = true := by simp; omega
  clear e0 HHD
  go_enter Tryd.func65, Tryd.ntmps65
  go_wp2_with (fail)
  refine bodyPost_ret (v := .tuple #[.agg #[.slice none 0 0], .bool false]) (by simp [results, Tryd.results65, go_sem]) rfl ?_
  refine HNO.out _ _ HH.out rfl ?_
  (repeat' (first | exact Below.refl _ _ | assumption | (refine Below.setCell ?_ ?_ _) | (refine Below.alloc ?_ ?_ _) | (refine belowDrewN ?_ _) | omega | (simp; done) | (simp; omega)))
end Go.Proofs.YtbdbmmdnidonjaaDoor
