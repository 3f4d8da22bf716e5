/- FnExactRunMach answers true for every program of the machine, all numbers, all steps. Premise of the walk: the table of forms reads as laid (the card ties it). -/
import Derived.Test.YtbdbmmdnidonjaaDoorLo
import Derived.Test.YtbdbmmdnidonjaaDoorLms
set_option maxRecDepth 100000
namespace Go.Proofs.YtbdbmmdnidonjaaDoor.RmLaw
open Go.RowKit

theorem runAns_said {fs : List Mf} {zs : List Int} {steps : Int} {r : Rs} (h : runAns fs zs steps = some r) : r.cm.said.length ≤ 1048576 := by
  unfold runAns at h
  split at h
  · rename_i hc
    injection h with h
    subst h
    have := loop_said (P := machPg fs) (steps.toNat + 1) (fs.length - 1) 0 (newLc (machPg fs) (fs.length - 1) (toNats zs)) (cm0 steps.toNat)
    unfold runOf
    have h0 : (cm0 steps.toNat).said.length + (cm0 steps.toNat).left = steps.toNat := by show 0 + steps.toNat = _; omega
    rw [h0] at this
    omega
  · cases h

set_option maxHeartbeats 8000000 in
theorem small (w : World) (v vin : Value) (fs : List Mf) (zs : List Int) (steps : Int) (hF : Forms w) (hm : MfsAt w v fs) (hn : fs.length ≤ 9223372036854775807) (hni : ∀ f ∈ fs, f.ins.length ≤ 9223372036854775807) (hi : IntsAt w vin zs) (hz : zs.length ≤ 1048576) :
    Calls Tryd.prog 6 #[.agg #[v], vin, .int .i64 steps] w (Yes w) := by
  have HSZ := Lib.hid (fun w' (hb : Below w.heap.size w w') => szMach_any w' v fs 1048576 (hm.below hb) (by decide) (by decide) hn hni)
  have HTO := Lib.hid (fun w' (hb : Below w.heap.size w w') (hle : MfsLe fs) => toMach_any w' v fs (hm.below hb) hle)
  have HTI := Lib.hid (fun w' (hb : Below w.heap.size w w') => toInts (hi.below hb) (by omega))
  have HF := Lib.hid (fun w' (hb : Below w.heap.size w w') => hF.below hb)
  obtain ⟨a, cap, rfl, hc⟩ := hm
  obtain ⟨ia, icap, rfl, hic⟩ := hi
  obtain ⟨n, hnn⟩ : ∃ n, n = fs.length := ⟨_, rfl⟩
  obtain ⟨m, hmm⟩ : ∃ m, m = zs.length := ⟨_, rfl⟩
  unfold NewMach at HTO
  unfold NewInts at HTI
  unfold SzPost at HSZ
  rw [← hnn] at HSZ HTO hn ⊢
  rw [← hmm] at HTI hz ⊢
  have HN := Lib.hid hnn
  have HM := Lib.hid hmm
  have hsd := fun r (h : runAns fs zs steps = some r) => runAns_said h
  obtain ⟨ans, hans⟩ : ∃ ans, ans = runAns fs zs steps := ⟨_, rfl⟩
  rw [← hans] at hsd
  have HA := Lib.hid hans
  have HSD := Lib.hid hsd
  obtain ⟨ok, hok⟩ : ∃ ok, ok = ans.isSome := ⟨_, rfl⟩
  have HOK := Lib.hid hok
  clear hF hc hic hni hnn hmm hans hsd hok
  go_enter Tryd.func6, Tryd.ntmps6
  go_wp2_with (fail)
  go_at_call 17
  refine (HSZ.out _ (below1 _ _)).mono ?_
  rintro e w1 ⟨r, rfl, hr, hb⟩
  have HV3 : Hid (Blk w1 w.heap.size [.slice a n cap]) := Lib.hid ((Blk.new w #[.slice a n cap] 38).below hb)
  have p3 := HV3.out.c1
  have HB := Lib.hid ((below1 w (.cells #[.slice a n cap] 38)).trans (hb.mono (by simp)))
  clear hb HSZ
  rcases hr with rfl | ⟨hr0, hr1⟩
  · go_wp2_with (fail)
    go_ret
    exact ⟨rfl, HB.out⟩
  have hle : MfsLe fs := mfsLe_of (left := 1048576) (by rw [← HN.out]; exact hr1) (by decide)
  have HLE := Lib.hid hle
  clear hr1 hle
  go_wp2_with (fail)
  go_at_call 18
  refine (HTO.out w1 HB.out HLE.out).mono ?_
  rintro e w2 ⟨g2, rfl, ho2, hb2⟩
  have HM2 := Lib.hid ho2.at
  have HB2 := Lib.hid (HB.out.trans (hb2.mono HB.out.size))
  have HV3b := Lib.hid (HV3.out.below hb2)
  clear ho2 hb2 p3 HB HV3
  go_wp2_with (fail)
  go_at_call 19
  refine (HTI.out w2 HB2.out).mono ?_
  rintro e w3 ⟨g3, rfl, ho3, hb3⟩
  have HS3 := Lib.hid (MsLaw.inSrc_own ho3 HM.out (by omega))
  have HM3 := Lib.hid (HM2.out.below hb3)
  have HB3 := Lib.hid (HB2.out.trans (hb3.mono HB2.out.size))
  have HV3 := Lib.hid (HV3b.out.below hb3)
  clear ho3 hb3 HV3b HB2 HM2
  go_wp2_with (fail)
  go_at_call 23
  rw [← HN.out] at HM3
  refine (specRunMach w3 g2 0 n n fs zs HM3.out HN.out HLE.out g3 0 m m HS3.out steps).mono ?_
  rw [← HA.out]
  unfold AnsRd
  rw [← HOK.out]
  rintro e w4 ⟨v0, rfl, hrd, hb4⟩
  obtain ⟨sa, sn, sc, en, vl, ca, cn, cc, rfl⟩ := hrd.form
  have HR4 := Lib.hid hrd
  have HB4 := Lib.hid (HB3.out.trans (hb4.mono HB3.out.size))
  have HV3b := Lib.hid (HV3.out.below hb4)
  have p3 := HV3b.out.c1
  have l3 := HV3b.out.lt
  have HB4' := Lib.hid l3
  clear hrd hb4 HV3 HB3 HS3 HM3
  go_wp2_with (fail)
  go_at_call 18
  generalize hw5 : w4.alloc _ = w5
  have hb5 : Below w4.heap.size w4 w5 := by rw [← hw5]; exact below1 _ _
  have hV8 : Blk w5 w4.heap.size [.slice sa sn sc, .int .i64 en, .int .i64 vl, .slice ca cn cc] := by rw [← hw5]; exact Blk.new _ _ _
  have HV8 := Lib.hid hV8
  have HC5 := Lib.hid hb5
  have HZ5 : Hid (w5.heap.size = w4.heap.size + 1) := Lib.hid (by rw [← hw5]; simp)
  have HB5 := Lib.hid (HB4.out.trans (hb5.mono HB4.out.size))
  have HV3 := Lib.hid (HV3b.out.below hb5)
  clear hw5 hb5 hV8 HV3b p3 HB4 l3
  refine (HTO.out w5 HB5.out HLE.out).mono ?_
  rintro e w6 ⟨g5, rfl, ho6, hb6⟩
  have HO6 := Lib.hid ho6
  have HB6 := Lib.hid (HB5.out.trans (hb6.mono HB5.out.size))
  have HC6 := Lib.hid (HC5.out.trans (hb6.mono HC5.out.size))
  have HV3b := Lib.hid (HV3.out.below hb6)
  have HV8b := Lib.hid (HV8.out.below hb6)
  have hs56 := hb6.size
  clear ho6 hb6 HV3 HV8 HB5
  go_wp2_with (fail)
  go_at_call 19
  generalize hw7 : w6.alloc _ = w7
  have hb7 : Below w6.heap.size w6 w7 := by rw [← hw7]; exact below1 _ _
  have hs7 : w7.heap.size = w6.heap.size + 1 := by rw [← hw7]; simp
  have hV10 : Blk w7 w6.heap.size [.slice (some ⟨g5, 0, none⟩) n n] := by rw [← hw7]; exact Blk.new _ _ _
  have HV10 := Lib.hid hV10
  have HO7 := Lib.hid (HO6.out.below hb7)
  have HR7 := Lib.hid (HO6.out.rows.below (Nat.le_refl _) hb7)
  have HB7 := Lib.hid (HB6.out.trans (hb7.mono HB6.out.size))
  have HC7 := Lib.hid (HC6.out.trans (hb7.mono HC6.out.size))
  have HV3 := Lib.hid (HV3b.out.below hb7)
  have HV8 := Lib.hid (HV8b.out.below hb7)
  have HS7 := Lib.hid hs7
  clear hw7 hb7 hV10 HV3b HV8b HB6 HO6 hs7
  refine (HTI.out w7 HB7.out).mono ?_
  rintro e w8 ⟨g8, rfl, ho8, hb8⟩
  have HX8 := Lib.hid ho8
  have HX8' := Lib.hid ho8
  have HS8 := Lib.hid (MsLaw.inSrc_own ho8 HM.out (by omega))
  have HO8 := Lib.hid (HO7.out.below hb8)
  have HR8 := Lib.hid (HR7.out.below (by have := HS7.out; omega) hb8)
  have HB8 := Lib.hid (HB7.out.trans (hb8.mono HB7.out.size))
  have HC8 := Lib.hid (HC7.out.trans (hb8.mono HC7.out.size))
  have HV3b := Lib.hid (HV3.out.below hb8)
  have HV8b := Lib.hid (HV8.out.below hb8)
  have HV10b := Lib.hid (HV10.out.below hb8)
  have p10 := HV10b.out.c1
  have HZ8 := Lib.hid hb8.size
  clear ho8 hb8 HV3 HV8 HV10 HB7 HC7 HO7 HR7
  go_wp2_with (fail)
  go_at_call 15
  have HMA := Lib.hid HO8.out.at
  rw [← HN.out] at HMA
  refine (runMach15 w8 g5 0 n n fs zs (HF.out _ HB8.out) HMA.out HN.out HLE.out g8 0 m m HS8.out steps).mono ?_
  rw [← HA.out]
  unfold AnsPost
  rw [← HOK.out]
  rintro e w9 ⟨v1, rfl, hat, hb9⟩
  obtain ⟨ta, tn, tc, em, vm, da, dn, dc, rfl⟩ := hat.read.form
  obtain ⟨htn, hdn⟩ := hat.lens HSD.out
  have HG9 := Lib.hid hat
  have HL9 : Hid ((∀ k, Value.ownBlock (.slice ta tn tc) = some k → w8.heap.size ≤ k ∧ k < w9.heap.size) ∧ (∀ k, Value.ownBlock (.slice da dn dc) = some k → w8.heap.size ≤ k ∧ k < w9.heap.size)) := Lib.hid (by
    obtain ⟨xs, ys, hO⟩ := hat.own
    exact ⟨World.ownsRow.lt hO.s, World.ownsRow.lt hO.c⟩)
  have HX9 := Lib.hid (ownsRow_below HX8.out hb9)
  have HO9 := Lib.hid (HO8.out.below hb9)
  have HR9 := Lib.hid (HR8.out.below (by have := HS7.out; have := HZ8.out; omega) hb9)
  have HB9 := Lib.hid (HB8.out.trans (hb9.mono HB8.out.size))
  have HC9 := Lib.hid (HC8.out.trans (hb9.mono HC8.out.size))
  have HV3 := Lib.hid (HV3b.out.below hb9)
  have HV8 := Lib.hid (HV8b.out.below hb9)
  have HV10 := Lib.hid (HV10b.out.below hb9)
  have HZ9 := Lib.hid hb9.size
  obtain ⟨p8a, p8b, p8c, p8d⟩ := HV8.out.c4
  have l8 := HV8.out.lt
  clear hat hb9 HV3b HV8b HV10b HB8 HC8 HO8 HR8 p10 HX8 HS8 HMA
  go_wp2_with (fail)
  go_at_call 26
  generalize hw10 : w9.alloc _ = w10
  have hb10 : Below w9.heap.size w9 w10 := by rw [← hw10]; exact below1 _ _
  have hV12 : Blk w10 w9.heap.size [.slice ta tn tc, .int .i64 em, .int .i64 vm, .slice da dn dc] := by rw [← hw10]; exact Blk.new _ _ _
  have HV12 := Lib.hid hV12
  have HG10 := Lib.hid (HG9.out.below hb10)
  have HX10 := Lib.hid (ownsRow_below HX9.out hb10)
  have HO10 := Lib.hid (HO9.out.below hb10)
  have HR10 := Lib.hid (HR9.out.below (by have := HS7.out; have := HZ8.out; have := HZ9.out; omega) hb10)
  have HB10 := Lib.hid (HB9.out.trans (hb10.mono HB9.out.size))
  have HC10 := Lib.hid (HC9.out.trans (hb10.mono HC9.out.size))
  have HV3b := Lib.hid (HV3.out.below hb10)
  have HV8b := Lib.hid (HV8.out.below hb10)
  have HV10b := Lib.hid (HV10.out.below hb10)
  have HZ10 := Lib.hid hb10.size
  clear hw10 hb10 hV12 HV3 HV8 HV10 HB9 HC9 HO9 HR9 HX9 HG9 p8a p8b p8c p8d l8
  refine (eqOutcome_same w10 ans _ _ _ _ _ _ _ _ _ _ _ _ _ _ _ _ HG10.out.read (HR4.out.below HC10.out) (by omega) (by omega)).mono ?_
  rintro e w11 ⟨rfl, hb⟩
  have HG11 := Lib.hid (HG10.out.below hb)
  have HX11 := Lib.hid (ownsRow_below HX10.out hb)
  have HO11 := Lib.hid (HO10.out.below hb)
  have HR11 := Lib.hid (HR10.out.below (by have := HS7.out; have := HZ8.out; have := HZ9.out; have := HZ10.out; omega) hb)
  have HB11 := Lib.hid (HB10.out.trans (hb.mono HB10.out.size))
  have HC11 := Lib.hid (HC10.out.trans (hb.mono HC10.out.size))
  have HV3 := Lib.hid (HV3b.out.below hb)
  have HV8 := Lib.hid (HV8b.out.below hb)
  have HV10 := Lib.hid (HV10b.out.below hb)
  have HV12b := Lib.hid (HV12.out.below hb)
  have HZ11 := Lib.hid hb.size
  have p3 := HV3.out.c1
  have p10 := HV10.out.c1
  have eok : (ok != ok) = false := by simp
  clear hb HV3b HV8b HV10b HV12 HB10 HC10 HO10 HR10 HX10 HG10
  go_wp2_with (fail)
  refine wp_region_chain (fun W => W.cell? ⟨w6.heap.size, 0, none⟩ = some (.slice (some ⟨g5, 0, none⟩) n n) ∧ W.cell? ⟨w.heap.size, 0, none⟩ = some (.slice a n cap)) [(0, true), (1, true)] [2, 3, 4] 4 (by kernel_rfl) (by kernel_rfl) (fun d v c a w h => by cases d <;> exact h) ⟨p10, p3⟩ ?_
  simp only [pickO, List.map_cons, List.map_nil, List.getD_cons_zero, List.getD_cons_succ]
  refine heldO_step (v := ?_) rfl ?_ ?_
  rotate_left
  · intro W hS
    obtain ⟨k0, k1⟩ := hS
    go_simp
    try rfl
  simp only [Act.put, List.setIfInBounds_toArray, List.set_cons_zero, List.set_cons_succ]
  refine heldO_step (v := ?_) rfl ?_ ?_
  rotate_left
  · intro W hS
    obtain ⟨k0, k1⟩ := hS
    go_simp
    try rfl
  simp only [Act.put, List.setIfInBounds_toArray, List.set_cons_zero, List.set_cons_succ]
  refine heldO_nil ?_
  refine tailO_step rfl (fun K hK => ?_)
  go_simp
  refine (HTO.out _ HB11.out.drew HLE.out).mono ?_
  rintro e w12 ⟨g12, rfl, ho12, hb12⟩
  have hb : Below w11.heap.size w11 w12 := (Below.refl w11.heap.size w11).drew.trans hb12
  have HM12 := Lib.hid ho12.at
  have HG12 := Lib.hid (HG11.out.below hb)
  have HX12 := Lib.hid (ownsRow_below HX11.out hb)
  have HO12 := Lib.hid (HO11.out.below hb)
  have HR12 := Lib.hid (HR11.out.below (by have := HS7.out; have := HZ8.out; have := HZ9.out; have := HZ10.out; have := HZ11.out; omega) hb)
  have HB12 := Lib.hid (HB11.out.trans (hb.mono HB11.out.size))
  have HC12 := Lib.hid (HC11.out.trans (hb.mono HC11.out.size))
  have HV3b := Lib.hid (HV3.out.below hb)
  have HV8b := Lib.hid (HV8.out.below hb)
  have HV10b := Lib.hid (HV10.out.below hb)
  have HV12 := Lib.hid (HV12b.out.below hb)
  have HZ12 := Lib.hid hb.size
  have q3 := HV3b.out.c1
  have q10 := HV10b.out.c1
  refine hK _ _ (.inr ⟨q10, q3⟩) ?_
  clear hK K ho12 hb12 hb p3 p10 HV3 HV8 HV10 HV12b HB11 HC11 HO11 HR11 HX11 HG11
  refine tailO_step rfl (fun K hK => ?_)
  go_simp
  have HMA := Lib.hid HO12.out.at
  rw [← HN.out] at HMA HM12
  refine (eqMach_same w12 _ _ fs HMA.out HM12.out HLE.out).mono ?_
  rintro e w13 ⟨rfl, hb⟩
  have HG13 := Lib.hid (HG12.out.below hb)
  have HX13 := Lib.hid (ownsRow_below HX12.out hb)
  have HR13 := Lib.hid (HR12.out.below (by have := HS7.out; have := HZ8.out; have := HZ9.out; have := HZ10.out; have := HZ11.out; have := HZ12.out; omega) hb)
  have HB13 := Lib.hid (HB12.out.trans (hb.mono HB12.out.size))
  have HC13 := Lib.hid (HC12.out.trans (hb.mono HC12.out.size))
  have HV3 := Lib.hid (HV3b.out.below hb)
  have HV8 := Lib.hid (HV8b.out.below hb)
  have HV10 := Lib.hid (HV10b.out.below hb)
  have HV12b := Lib.hid (HV12.out.below hb)
  have HZ13 := Lib.hid hb.size
  have p3 := HV3.out.c1
  have p10 := HV10.out.c1
  refine hK _ _ (.inr ⟨p10, p3⟩) ?_
  clear hK K hb q3 q10 HV3b HV8b HV10b HV12 HB12 HC12 HO12 HR12 HX12 HG12 HMA HM12
  refine tailO_step rfl (fun K hK => ?_)
  go_simp
  refine hK _ _ (.inl rfl) (tailO_nil ?_)
  clear hK K p3 p10
  go_wp2_with (fail)
  go_at_call 19
  refine (HTI.out w13 HB13.out).mono ?_
  rintro e w14 ⟨g14, rfl, ho14, hb⟩
  have HI14 := Lib.hid (MsLaw.inSrc_own ho14 HM.out (by omega)).ints
  have HG14 := Lib.hid (HG13.out.below hb)
  have HX14 := Lib.hid (ownsRow_below HX13.out hb)
  have HJ14 := Lib.hid (MsLaw.inSrc_own HX14.out HM.out (by omega)).ints
  have HR14 := Lib.hid (HR13.out.below (by have := HS7.out; have := HZ8.out; have := HZ9.out; have := HZ10.out; have := HZ11.out; have := HZ12.out; have := HZ13.out; omega) hb)
  have HB14 := Lib.hid (HB13.out.trans (hb.mono HB13.out.size))
  have HC14 := Lib.hid (HC13.out.trans (hb.mono HC13.out.size))
  have HV3b := Lib.hid (HV3.out.below hb)
  have HV8b := Lib.hid (HV8.out.below hb)
  have HV10b := Lib.hid (HV10.out.below hb)
  have HV12 := Lib.hid (HV12b.out.below hb)
  have HZ14 := Lib.hid hb.size
  clear ho14 hb HV3 HV8 HV10 HV12b HB13 HC13 HR13 HX13 HG13
  go_wp2_with (fail)
  go_at_call 21
  refine (eqInts HJ14.out HI14.out (by rw [← HM.out]; omega)).mono ?_
  rintro e w15 ⟨rfl, hb⟩
  have HG15 := Lib.hid (HG14.out.below hb)
  have HX15 := Lib.hid (ownsRow_below HX14.out hb)
  have hE : w6.heap.size ≤ w15.heap.size := by have := HS7.out; have := HZ8.out; have := HZ9.out; have := HZ10.out; have := HZ11.out; have := HZ12.out; have := HZ13.out; have := HZ14.out; have := hb.size; omega
  have HR15 := Lib.hid (HR14.out.below (by have := HS7.out; have := HZ8.out; have := HZ9.out; have := HZ10.out; have := HZ11.out; have := HZ12.out; have := HZ13.out; have := HZ14.out; omega) hb)
  have HB15 := Lib.hid (HB14.out.trans (hb.mono HB14.out.size))
  have HC15 := Lib.hid (HC14.out.trans (hb.mono HC14.out.size))
  have HV3 := Lib.hid (HV3b.out.below hb)
  have HV8 := Lib.hid (HV8b.out.below hb)
  have HV10 := Lib.hid (HV10b.out.below hb)
  have HV12b := Lib.hid (HV12.out.below hb)
  have p10 := HV10.out.c1
  clear hb HV3b HV8b HV10b HV12 HB14 HC14 HR14 HX14 HG14 HI14 HJ14
  go_wp2_with (fail)
  go_at_call 27
  have HMK := Lib.hid (markMach_any w15 w5.heap.size w6.heap.size g5 n 1 fs HR15.out hE HLE.out (by decide))
  rw [← HN.out] at HMK
  refine HMK.out.mono ?_
  rintro e w16 ⟨K, rfl, hK, hM, _⟩
  have z5 := HZ5.out
  have z7 := HS7.out
  have z8 := HZ8.out
  have z9 := HZ9.out
  have z10 := HZ10.out
  have z4 := HB4'.out
  have h915 : w9.heap.size < w15.heap.size := HV12b.out.lt
  have HB16 := Lib.hid (HB15.out.trans ((hM.below (by omega)).mono (by omega)))
  have HC16 := Lib.hid (HC15.out.trans ((hM.below (by omega)).mono (by omega)))
  have HV3b := Lib.hid (HV3.out.same (hM.block _ HV3.out.lt (.inl (by omega))))
  have HV8b := Lib.hid (HV8.out.same (hM.block _ HV8.out.lt (.inl (by omega))))
  have HV10b := Lib.hid (HV10.out.same (hM.block _ HV10.out.lt (.inr (Nat.le_refl _))))
  have HV12 := Lib.hid (HV12b.out.same (hM.block _ HV12b.out.lt (.inr (by omega))))
  have HX16 := Lib.hid (ownsRow_same HX15.out fun k hk => hM.block k (World.ownsRow.lt HX15.out k hk).2 (.inr (by have := (World.ownsRow.lt HX15.out k hk).1; omega)))
  have HG16 := Lib.hid (HG15.out.keep fun k h1 h2 => hM.block k h2 (.inr (by omega)))
  have hs1516 := hM.size
  have hg8 := ownsRow_lt HX8'.out
  have hK' : K ≤ 6291457000001 := by
    have h1 : n ≤ 1048576 := by have h2 := HLE.out.1; rw [← HN.out] at h2; exact h2
    have h3 : n * 6000000 ≤ 1048576 * 6000000 := Nat.mul_le_mul_right _ h1
    have h4 : 1048576 * 6000000 = 6291456000000 := by decide
    omega
  have H5 : Hid (w5.heap.size = w4.heap.size + 1 ∧ w7.heap.size = w6.heap.size + 1 ∧ w5.heap.size ≤ w6.heap.size ∧ w7.heap.size ≤ w8.heap.size ∧ w8.heap.size ≤ w9.heap.size ∧ w.heap.size < w4.heap.size ∧ w9.heap.size < w16.heap.size) := Lib.hid ⟨z5, z7, hs56, z8, z9, z4, by omega⟩
  clear hM p10 HV3 HV8 HV10 HV12b HB15 HC15 HX15 HG15 HR15 HMK hK z5 z7 z8 z9 z10 z4 HZ5 HS7 HZ8 HZ9 HZ10 HZ11 HZ12 HZ13 HZ14 hs56 hE h915 hs1516
  go_wp2_with (fail)
  go_at_call 28
  refine (markIntS_only w16 w7.heap.size _ m K _ HX16.out (by omega)).mono ?_
  rintro e w17 ⟨rfl, _, hF⟩
  have hF : Only [g8] w16 w17 := hF
  obtain ⟨z5, z7, z56, z78, z89, z4, z916⟩ := H5.out
  have hne : ∀ k, k ≠ g8 → k ∉ [g8] := fun k hk hm => hk (List.mem_singleton.1 hm)
  have hbl : ∀ B, B ≤ g8 → B ≤ w16.heap.size → Below B w16 w17 := fun B h1 h2 => Only.below (Below.refl _ _) hF h2 (fun q hq => by rw [List.mem_singleton.1 hq]; exact h1)
  have HB17 := Lib.hid (HB16.out.trans (hbl w.heap.size (by omega) (by omega)))
  have HC17 := Lib.hid (HC16.out.trans (hbl w4.heap.size (by omega) (by omega)))
  have HV3 := Lib.hid (HV3b.out.same (hF.block _ HV3b.out.lt (hne _ (by omega))))
  have HV8 := Lib.hid (HV8b.out.same (hF.block _ HV8b.out.lt (hne _ (by omega))))
  have HV12b := Lib.hid (HV12.out.same (hF.block _ HV12.out.lt (hne _ (by omega))))
  have HG17 := Lib.hid (HG16.out.keep fun k h1 h2 => hF.block k h2 (hne _ (by omega)))
  have H17 : Hid (w9.heap.size < w17.heap.size) := Lib.hid (by have := hF.size; omega)
  obtain ⟨p8a, p8b, p8c, p8d⟩ := HV8.out.c4
  obtain ⟨p12a, p12b, p12c, p12d⟩ := HV12b.out.c4
  obtain ⟨q, hq⟩ : ∃ q : Nat, K + m = q := ⟨_, rfl⟩
  rw [hq]
  have hq0 : (0 : Int) ≤ (q : Int) := by omega
  clear hF z5 z7 z56 z78 z89 z4 z916 hne hbl HV3b HV8b HV10b HV12 HB16 HC16 HG16 HX16 hq hg8 hK'
  go_wp2_with (fail)
  go_at_call 26
  refine (eqOutcome_same w17 ans _ _ _ _ _ _ _ _ _ _ _ _ _ _ _ _ HG17.out.read (HR4.out.below HC17.out) (by omega) (by omega)).mono ?_
  rintro e w18 ⟨rfl, hb⟩
  have HG18 := Lib.hid (HG17.out.below hb)
  have HB18 := Lib.hid (HB17.out.trans (hb.mono HB17.out.size))
  have HC18 := Lib.hid (HC17.out.trans (hb.mono HC17.out.size))
  have HV3b := Lib.hid (HV3.out.below hb)
  have HV8b := Lib.hid (HV8.out.below hb)
  have HV12 := Lib.hid (HV12b.out.below hb)
  have H18 : Hid (w9.heap.size < w18.heap.size) := Lib.hid (by have := hb.size; have := H17.out; omega)
  clear hb p8a p8b p8c p8d p12a p12b p12c p12d HV3 HV8 HV12b HB17 HC17 HG17 H17
  obtain ⟨p12a, p12b, p12c, p12d⟩ := HV12.out.c4
  go_wp2_with (fail)
  go_at_call 29
  obtain ⟨xs, ys, hown⟩ := HG18.out.own
  refine (markOutcome_any w18 w8.heap.size ta tn tc em vm da dn dc 1 xs ys hown (by have := H18.out; have := H5.out; omega) (by omega)).mono ?_
  rintro e w19 ⟨rfl, hmk, hbm, hF⟩
  obtain ⟨z5, z7, z56, z78, z89, z4, z916⟩ := H5.out
  have HMK := Lib.hid hmk
  have HB19 := Lib.hid (HB18.out.trans (hbm.mono (by omega)))
  have HC19 := Lib.hid (HC18.out.trans (hbm.mono (by omega)))
  have HV3 := Lib.hid (HV3b.out.same (hbm.block _ (by omega)))
  have HV8 := Lib.hid (HV8b.out.same (hbm.block _ (by omega)))
  have HV12b := Lib.hid (HV12.out.same (hF.block _ HV12.out.lt (fun hm => by
    rcases List.mem_append.1 hm with h | h
    · have := (HL9.out.1 w9.heap.size (by simpa using h)).2; omega
    · have := (HL9.out.2 w9.heap.size (by simpa using h)).2; omega)))
  clear hmk hbm hF hown HG18 HB18 HC18 HV3b HV8b HV12 p12a p12b p12c p12d z5 z7 z56 z78 z89 z4 z916 H18
  obtain ⟨p12a, p12b, p12c, p12d⟩ := HV12b.out.c4
  obtain ⟨q2, hq2⟩ : ∃ q2 : Nat, 1 + tn + dn = q2 := ⟨_, rfl⟩
  rw [hq2]
  have HQ2 := Lib.hid hq2
  have hq20 : (0 : Int) ≤ (q2 : Int) := by omega
  have eq2 : ((q2 : Int) != (q2 : Int)) = false := by simp
  clear hq2
  go_wp2_with (fail)
  go_at_call 30
  refine (heldOutcome_any w19 w8.heap.size ta tn tc em vm da dn dc 1 HMK.out (by omega)).mono ?_
  rw [HQ2.out]
  rintro e w20 ⟨rfl, hb⟩
  have HMK20 := Lib.hid (HMK.out.below hb)
  have HB20 := Lib.hid (HB19.out.trans (hb.mono HB19.out.size))
  have HC20 := Lib.hid (HC19.out.trans (hb.mono HC19.out.size))
  have HV3b := Lib.hid (HV3.out.below hb)
  have HV8b := Lib.hid (HV8.out.below hb)
  have HV12 := Lib.hid (HV12b.out.below hb)
  clear hb p12a p12b p12c p12d HV3 HV8 HV12b HB19 HC19 HMK
  have p3 := HV3b.out.c1
  go_wp2_with (fail)
  go_at_call 18
  refine (HTO.out w20 HB20.out HLE.out).mono ?_
  rintro e w21 ⟨g21, rfl, ho21, hb⟩
  have HM21 := Lib.hid ho21.at
  have HMK21 := Lib.hid (HMK20.out.below hb)
  have HB21 := Lib.hid (HB20.out.trans (hb.mono HB20.out.size))
  have HC21 := Lib.hid (HC20.out.trans (hb.mono HC20.out.size))
  have HV8 := Lib.hid (HV8b.out.below hb)
  have HV12b := Lib.hid (HV12.out.below hb)
  clear ho21 hb p3 HV3b HV8b HV12 HB20 HC20 HMK20
  go_wp2_with (fail)
  go_at_call 19
  refine (HTI.out w21 HB21.out).mono ?_
  rintro e w22 ⟨g22, rfl, ho22, hb⟩
  have HS22 := Lib.hid (MsLaw.inSrc_own ho22 HM.out (by omega))
  have HM22 := Lib.hid (HM21.out.below hb)
  have HMK22 := Lib.hid (HMK21.out.below hb)
  have HB22 := Lib.hid (HB21.out.trans (hb.mono HB21.out.size))
  have HC22 := Lib.hid (HC21.out.trans (hb.mono HC21.out.size))
  have HV8b := Lib.hid (HV8.out.below hb)
  have HV12 := Lib.hid (HV12b.out.below hb)
  clear ho22 hb HV8 HV12b HB21 HC21 HMK21 HM21
  go_wp2_with (fail)
  go_at_call 15
  rw [← HN.out] at HM22
  refine (runMach15 w22 g21 0 n n fs zs (HF.out _ HB22.out) HM22.out HN.out HLE.out g22 0 m m HS22.out steps).mono ?_
  rw [← HA.out]
  unfold AnsPost
  rw [← HOK.out]
  rintro e w23 ⟨v2, rfl, hat, hb⟩
  obtain ⟨ua, un, uc, eu, vu, ea, ek, ec, rfl⟩ := hat.read.form
  obtain ⟨hun, hek⟩ := hat.lens HSD.out
  have HG23 := Lib.hid hat.read
  have HMK23 := Lib.hid (HMK22.out.below hb)
  have HB23 := Lib.hid (HB22.out.trans (hb.mono HB22.out.size))
  have HC23 := Lib.hid (HC22.out.trans (hb.mono HC22.out.size))
  have HV8 := Lib.hid (HV8b.out.below hb)
  have HV12b := Lib.hid (HV12.out.below hb)
  obtain ⟨p8a, p8b, p8c, p8d⟩ := HV8.out.c4
  have l8 := HV8.out.lt
  clear hat hb HV8b HV12 HB22 HC22 HMK22 HM22 HS22
  go_wp2_with (fail)
  go_at_call 26
  generalize hw24 : w23.alloc _ = w24
  have hb24 : Below w23.heap.size w23 w24 := by rw [← hw24]; exact below1 _ _
  have HG24 := Lib.hid (HG23.out.below hb24)
  have HMK24 := Lib.hid (HMK23.out.below hb24)
  have HB24 := Lib.hid (HB23.out.trans (hb24.mono HB23.out.size))
  have HC24 := Lib.hid (HC23.out.trans (hb24.mono HC23.out.size))
  have HV12 := Lib.hid (HV12b.out.below hb24)
  clear hw24 hb24 HV8 HV12b HB23 HC23 HMK23 HG23 p8a p8b p8c p8d l8
  refine (eqOutcome_same w24 ans _ _ _ _ _ _ _ _ _ _ _ _ _ _ _ _ HG24.out (HR4.out.below HC24.out) (by omega) (by omega)).mono ?_
  rintro e w25 ⟨rfl, hb⟩
  have HMK25 := Lib.hid (HMK24.out.below hb)
  have HB25 := Lib.hid (HB24.out.trans (hb.mono HB24.out.size))
  have HV12b := Lib.hid (HV12.out.below hb)
  obtain ⟨p12a, p12b, p12c, p12d⟩ := HV12b.out.c4
  clear hb HV12 HB24 HC24 HMK24 HG24
  go_wp2_with (fail)
  go_at_call 30
  refine (heldOutcome_any w25 w8.heap.size ta tn tc em vm da dn dc 1 HMK25.out (by omega)).mono ?_
  rw [HQ2.out]
  rintro e w26 ⟨rfl, hb⟩
  have HB26 := Lib.hid (HB25.out.trans (hb.mono HB25.out.size))
  clear hb p12a p12b p12c p12d HV12b HB25 HMK25
  go_wp2_with (fail)
  go_ret
  exact ⟨rfl, HB26.out⟩

set_option maxHeartbeats 400000 in
theorem big (v : Value) (a : Option Addr) (n cap : Nat) (steps : Int) (w : World) (hn : 1048576 < n) (hm : n ≤ 9223372036854775807) :
    Calls Tryd.prog 6 #[.agg #[v], .slice a n cap, .int .i64 steps] w (Yes w) := by
  go_enter Tryd.func6, Tryd.ntmps6
  go_wp2
  go_ret
  exact ⟨rfl, below1 _ _⟩

end Go.Proofs.YtbdbmmdnidonjaaDoor.RmLaw
