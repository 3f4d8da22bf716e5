/- FnExactMachSteps answers true for every program of the machine and all numbers. Premise of the walk: the table of forms reads as laid (the card ties it). -/
import Derived.Test.YtbdbmmdnidonjaaDoorSh
import Derived.Test.YtbdbmmdnidonjaaDoorMc
import Derived.Test.YtbdbmmdnidonjaaDoorLv
import Derived.Test.YtbdbmmdnidonjaaDoorRh
set_option maxRecDepth 100000
namespace Go.Proofs.YtbdbmmdnidonjaaDoor.MsLaw
open Go.RowKit

theorem inSrc_own {w : World} {B g n cap : Nat} {zs : List Int} (h : w.ownsRow B 3 1 (.slice (some ⟨g, 0, none⟩) n cap) n (ints zs)) (hn : n = zs.length) (hs : n ≤ 1048576) : InSrc w g 0 n cap zs :=
  ⟨hn.symm, (ownsRow_lt h).2.2, hs, fun i hi => by
    rw [Nat.zero_add, h.cellAt i (by omega)]
    simp [ints, List.getD_eq_getElem?_getD, List.getElem?_eq_getElem (show i < zs.length by omega)]⟩

set_option maxHeartbeats 2000000 in
theorem small (w : World) (v vin : Value) (fs : List Mf) (zs : List Int) (hF : Forms w) (hm : MfsAt w v fs) (hn : fs.length ≤ 9223372036854775807) (hni : ∀ f ∈ fs, f.ins.length ≤ 9223372036854775807) (hi : IntsAt w vin zs) (hz : zs.length ≤ 1048576) :
    Calls Tryd.prog 4 #[.agg #[v], vin] w (Yes w) := by
  have HSZ := Lib.hid (fun w' (hb : Below w.heap.size w w') => szMach_any w' v fs 1048576 (hm.below hb) (by decide) (by decide) hn hni)
  have HTO := Lib.hid (fun w' (hb : Below w.heap.size w w') (hle : MfsLe fs) => toMach_any w' v fs (hm.below hb) hle)
  have HTI := Lib.hid (fun w' (hb : Below w.heap.size w w') => toInts (hi.below hb) (by omega))
  have HEQ := Lib.hid (fun w' v2 (hb : Below w.heap.size w w') (h2 : MfsAt w' v2 fs) (hle : MfsLe fs) => h2)
  have HF := Lib.hid (fun w' (hb : Below w.heap.size w w') => hF.below hb)
  have HI := Lib.hid hi
  obtain ⟨a, cap, rfl, hc⟩ := hm
  obtain ⟨ia, icap, rfl, hic⟩ := hi
  obtain ⟨n, hnn⟩ : ∃ n, n = fs.length := ⟨_, rfl⟩
  obtain ⟨m, hmm⟩ : ∃ m, m = zs.length := ⟨_, rfl⟩
  unfold NewMach at HTO
  unfold NewInts at HTI
  unfold SzPost at HSZ
  rw [← hnn] at HSZ HTO hn ⊢
  rw [← hmm] at HTI HI hz ⊢
  have HN := Lib.hid hnn
  have HM := Lib.hid hmm
  obtain ⟨ans, hans⟩ : ∃ ans, ans = stepsAns fs zs := ⟨_, rfl⟩
  have HA := Lib.hid hans
  clear hF hc hic hni hnn hmm hans HEQ
  go_enter Tryd.func4, Tryd.ntmps4
  go_wp2_with (fail)
  go_at_call 17
  refine (HSZ.out _ (below1 _ _)).mono ?_
  rintro e w1 ⟨r, rfl, hr, hb⟩
  have p0 : w1.cell? ⟨w.heap.size, 0, none⟩ = some (.slice a n cap) := by rw [hb.cell (p := ⟨w.heap.size, 0, none⟩) (by simp)]; simp [go_sem]
  have HB := Lib.hid ((below1 w (.cells #[.slice a n cap] 38)).trans (hb.mono (by simp)))
  clear hb HSZ
  rcases hr with rfl | ⟨hr0, hr1⟩
  · go_wp2_with (fail)
    go_ret
    exact ⟨rfl, HB.out⟩
  have hle : MfsLe fs := mfsLe_of (left := 1048576) (by rw [← HN.out]; exact hr1) (by decide)
  have HLE := Lib.hid hle
  clear hr1 hle
  go_wp2_with (fail)
  go_at_call 18
  refine (HTO.out w1 HB.out HLE.out).mono ?_
  rintro e w2 ⟨g2, rfl, ho2, hb2⟩
  have HM2 := Lib.hid ho2.at
  have HB2 := Lib.hid (HB.out.trans (hb2.mono HB.out.size))
  have q0 : w2.cell? ⟨w.heap.size, 0, none⟩ = some (.slice a n cap) := by rw [hb2.cell (World.block_lt_of_cell? _ _ p0)]; exact p0
  clear ho2 hb2 p0 HB
  go_wp2_with (fail)
  go_at_call 19
  refine (HTI.out w2 HB2.out).mono ?_
  rintro e w3 ⟨g3, rfl, ho3, hb3⟩
  have HS3 := Lib.hid (inSrc_own ho3 HM.out (by omega))
  have HM3 := Lib.hid (HM2.out.below hb3)
  have HB3 := Lib.hid (HB2.out.trans (hb3.mono HB2.out.size))
  have p0 : w3.cell? ⟨w.heap.size, 0, none⟩ = some (.slice a n cap) := by rw [hb3.cell (World.block_lt_of_cell? _ _ q0)]; exact q0
  clear ho3 hb3 q0 HB2 HM2
  go_wp2_with (fail)
  go_at_call 14
  rw [← HN.out] at HM3
  refine (specMachSteps w3 g2 0 n n fs zs HM3.out HN.out HLE.out g3 0 m m HS3.out).mono ?_
  rw [← HA.out]
  rintro e w4 ⟨rfl, hb4⟩
  have HB4 := Lib.hid (HB3.out.trans (hb4.mono HB3.out.size))
  have q0 : w4.cell? ⟨w.heap.size, 0, none⟩ = some (.slice a n cap) := by rw [hb4.cell (World.block_lt_of_cell? _ _ p0)]; exact p0
  clear hb4 p0 HB3 HS3 HM3
  go_wp2_with (fail)
  go_at_call 18
  refine (HTO.out w4 HB4.out HLE.out).mono ?_
  rintro e w5 ⟨g5, rfl, ho5, hb5⟩
  have HM5 := Lib.hid ho5.at
  have HB5 := Lib.hid (HB4.out.trans (hb5.mono HB4.out.size))
  have p0 : w5.cell? ⟨w.heap.size, 0, none⟩ = some (.slice a n cap) := by rw [hb5.cell (World.block_lt_of_cell? _ _ q0)]; exact q0
  clear ho5 hb5 q0 HB4
  go_wp2_with (fail)
  go_at_call 19
  generalize hw6 : w5.alloc _ = w6
  have hb6 : Below w5.heap.size w5 w6 := by rw [← hw6]; exact below1 _ _
  have x0 : w6.cell? ⟨w5.heap.size, 0, none⟩ = some (.slice (some ⟨g5, 0, none⟩) n n) := by rw [← hw6]; simp [go_sem]
  have hb6' := HB5.out.trans (hb6.mono HB5.out.size)
  have q0 : w6.cell? ⟨w.heap.size, 0, none⟩ = some (.slice a n cap) := by rw [hb6.cell (World.block_lt_of_cell? _ _ p0)]; exact p0
  have HM6 := Lib.hid (HM5.out.below hb6)
  have HB6 := Lib.hid hb6'
  clear hw6 hb6 hb6' p0 HB5 HM5
  refine (HTI.out w6 HB6.out).mono ?_
  rintro e w7 ⟨g7, rfl, ho7, hb7⟩
  have HS7 := Lib.hid (inSrc_own ho7 HM.out (by omega))
  have HM7 := Lib.hid (HM6.out.below hb7)
  have HB7 := Lib.hid (HB6.out.trans (hb7.mono HB6.out.size))
  have p0 : w7.cell? ⟨w.heap.size, 0, none⟩ = some (.slice a n cap) := by rw [hb7.cell (World.block_lt_of_cell? _ _ q0)]; exact q0
  have x1 : w7.cell? ⟨w5.heap.size, 0, none⟩ = some (.slice (some ⟨g5, 0, none⟩) n n) := by rw [hb7.cell (World.block_lt_of_cell? _ _ x0)]; exact x0
  clear ho7 hb7 q0 x0 HB6 HM6
  go_wp2_with (fail)
  go_at_call 13
  rw [← HN.out] at HM7
  refine (machSteps13 w7 g5 0 n n fs zs (HF.out _ HB7.out) HM7.out HN.out HLE.out g7 0 m m HS7.out).mono ?_
  rw [← HA.out]
  rintro e w8 ⟨rfl, hb8⟩
  have HM8 := Lib.hid (HM7.out.below hb8)
  have HS8 := Lib.hid (HS7.out.below hb8)
  have HB8 := Lib.hid (HB7.out.trans (hb8.mono HB7.out.size))
  have q0 : w8.cell? ⟨w.heap.size, 0, none⟩ = some (.slice a n cap) := by rw [hb8.cell (World.block_lt_of_cell? _ _ p0)]; exact p0
  have x0 : w8.cell? ⟨w5.heap.size, 0, none⟩ = some (.slice (some ⟨g5, 0, none⟩) n n) := by rw [hb8.cell (World.block_lt_of_cell? _ _ x1)]; exact x1
  have e1 : (ans != ans) = false := by simp
  clear hb8 p0 x1 HB7 HM7 HS7 HA
  go_wp2_with (fail)
  refine wp_region_chain (fun W => W.cell? ⟨w5.heap.size, 0, none⟩ = some (.slice (some ⟨g5, 0, none⟩) n n) ∧ W.cell? ⟨w.heap.size, 0, none⟩ = some (.slice a n cap)) [(0, true), (1, true)] [2, 3, 4] 4 (by kernel_rfl) (by kernel_rfl) (fun d v c a w h => by cases d <;> exact h) ⟨x0, q0⟩ ?_
  simp only [pickO, List.map_cons, List.map_nil, List.getD_cons_zero, List.getD_cons_succ]
  refine heldO_step (v := ?_) rfl ?_ ?_
  rotate_left
  · intro W hS
    obtain ⟨k0, k1⟩ := hS
    go_simp
    try rfl
  simp only [Act.put, List.setIfInBounds_toArray, List.set_cons_zero, List.set_cons_succ]
  refine heldO_step (v := ?_) rfl ?_ ?_
  rotate_left
  · intro W hS
    obtain ⟨k0, k1⟩ := hS
    go_simp
    try rfl
  simp only [Act.put, List.setIfInBounds_toArray, List.set_cons_zero, List.set_cons_succ]
  refine heldO_nil ?_
  refine tailO_step rfl (fun K hK => ?_)
  go_simp
  refine (HTO.out _ HB8.out.drew HLE.out).mono ?_
  rintro e w9 ⟨g9, rfl, ho9, hb9⟩
  have hb9' : Below w8.heap.size w8 w9 := (Below.refl w8.heap.size w8).drew.trans hb9
  have HM9 := Lib.hid ho9.at
  have HM9' := Lib.hid (HM8.out.below hb9')
  have HS9 := Lib.hid (HS8.out.below hb9')
  have HB9 := Lib.hid (HB8.out.trans (hb9'.mono HB8.out.size))
  have x1 : w9.cell? ⟨w5.heap.size, 0, none⟩ = some (.slice (some ⟨g5, 0, none⟩) n n) := by rw [hb9'.cell (World.block_lt_of_cell? _ _ x0)]; exact x0
  have p0 : w9.cell? ⟨w.heap.size, 0, none⟩ = some (.slice a n cap) := by rw [hb9'.cell (World.block_lt_of_cell? _ _ q0)]; exact q0
  refine hK _ _ (.inr ⟨x1, p0⟩) ?_
  clear hK K ho9 hb9 hb9' q0 x0 HB8 HM8 HS8
  refine tailO_step rfl (fun K hK => ?_)
  go_simp
  rw [← HN.out] at HM9
  refine (eqMach_same w9 _ _ fs HM9'.out HM9.out HLE.out).mono ?_
  rintro e w10 ⟨rfl, hb10⟩
  have HS10 := Lib.hid (HS9.out.below hb10)
  have HB10 := Lib.hid (HB9.out.trans (hb10.mono HB9.out.size))
  have x0 : w10.cell? ⟨w5.heap.size, 0, none⟩ = some (.slice (some ⟨g5, 0, none⟩) n n) := by rw [hb10.cell (World.block_lt_of_cell? _ _ x1)]; exact x1
  have q0 : w10.cell? ⟨w.heap.size, 0, none⟩ = some (.slice a n cap) := by rw [hb10.cell (World.block_lt_of_cell? _ _ p0)]; exact p0
  refine hK _ _ (.inr ⟨x0, q0⟩) ?_
  clear hK K hb10 p0 x1 HB9 HM9 HM9' HS9
  refine tailO_step rfl (fun K hK => ?_)
  go_simp
  refine hK _ _ (.inl rfl) (tailO_nil ?_)
  clear hK K
  go_wp2_with (fail)
  go_at_call 19
  refine (HTI.out w10 HB10.out).mono ?_
  rintro e w11 ⟨g11, rfl, ho11, hb11⟩
  have HI11 := Lib.hid (inSrc_own ho11 HM.out (by omega)).ints
  have HS11 := Lib.hid (HS10.out.below hb11).ints
  have HB11 := Lib.hid (HB10.out.trans (hb11.mono HB10.out.size))
  clear ho11 hb11 HB10 HS10
  go_wp2_with (fail)
  go_at_call 21
  refine (eqInts HS11.out HI11.out (by rw [← HM.out]; omega)).mono ?_
  rintro e w12 ⟨rfl, hb12⟩
  have HB12 := Lib.hid (HB11.out.trans (hb12.mono HB11.out.size))
  clear hb12
  go_wp2_with (fail)
  go_ret
  exact ⟨rfl, HB12.out⟩

set_option maxHeartbeats 400000 in
theorem big (v : Value) (a : Option Addr) (n cap : Nat) (w : World) (hn : 1048576 < n) (hm : n ≤ 9223372036854775807) :
    Calls Tryd.prog 4 #[.agg #[v], .slice a n cap] w (Yes w) := by
  go_enter Tryd.func4, Tryd.ntmps4
  go_wp2
  go_ret
  exact ⟨rfl, below1 _ _⟩

end Go.Proofs.YtbdbmmdnidonjaaDoor.MsLaw
