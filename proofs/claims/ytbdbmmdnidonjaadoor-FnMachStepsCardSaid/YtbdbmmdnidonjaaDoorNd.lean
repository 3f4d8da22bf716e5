/- A call of a function of the machine begins: impl's newCall. -/
import Derived.Test.YtbdbmmdnidonjaaDoorNc
set_option maxRecDepth 100000
namespace Go.Proofs.YtbdbmmdnidonjaaDoor
open Go.RowKit

/-- numbers that are handed in: a row of somebody's -/
structure SrcAt (w : World) (b off n cap : Nat) (inp : List Nat) : Prop where
  len : inp.length = n
  cap : n ≤ cap
  small : n ≤ 1048576
  cells : ∀ i, i < n → w.cell? ⟨b, off + i, none⟩ = some (.int .i64 ((inp.getD i 0 : Nat) : Int))

def NewPost (pm par slo : Nat) (inp : List Nat) (w : World) (e : Ending) (w' : World) : Prop :=
  ∃ pc pl, e = .returned (.pointer (some ⟨pc, 0, none⟩)) ∧ w.heap.size ≤ pc ∧ w.heap.size ≤ pl ∧ Below w.heap.size w w' ∧
    ∀ sv, pm < w.heap.size → (∀ k, Value.ownBlock sv = some k → k < w.heap.size) → CallAt w' pm sv pc pl par ⟨List.replicate 8 0, List.replicate slo 0, List.replicate 3 0, inp, 0⟩

theorem newPost_of {w w2 : World} {pm pl par slo : Nat} {inv : Value} {inp : List Nat} {t : TypeId} (hb : Below w.heap.size w w2) (hpl : w.heap.size ≤ pl) (hbl : Blk w2 pl (nats (List.replicate slo 0)))
    {B2 : Nat} (hB2 : w.heap.size ≤ B2) (hin : w2.ownsRow B2 3 1 inv (inp.take par).length (nats (inp.take par))) (hne : ∀ g, inv.ownBlock = some g → g ≠ pl) :
    NewPost pm par slo inp w (.returned (.pointer (some ⟨w2.heap.size, 0, none⟩))) (w2.alloc (.cells #[.pointer (some ⟨pm, 0, none⟩), .int .i64 0, .int .i64 0, .int .i64 0, .int .i64 0, .int .i64 0, .int .i64 0, .int .i64 0, .int .i64 0, .slice (some ⟨pl, 0, none⟩) slo slo, inv, .int .i64 0, .int .i64 0, .int .i64 0, .int .i64 0] t)) := by
  refine ⟨_, pl, rfl, hb.size, hpl, hb.alloc hb.size _, fun sv hpm hsv => ?_⟩
  have hsz := hb.size
  have hlt := hbl.lt
  refine ⟨⟨inv, ?_, ?_⟩, hbl.alloc _, by omega, by omega, by omega, fun e => by have := hsv _ e; omega, fun e => by have := hsv _ e; omega⟩
  · have h := Blk.new w2 #[.pointer (some ⟨pm, 0, none⟩), .int .i64 0, .int .i64 0, .int .i64 0, .int .i64 0, .int .i64 0, .int .i64 0, .int .i64 0, .int .i64 0, .slice (some ⟨pl, 0, none⟩) slo slo, inv, .int .i64 0, .int .i64 0, .int .i64 0, .int .i64 0] t
    have e : mkCall pm (List.replicate 8 0) (.slice (some ⟨pl, 0, none⟩) slo slo) inv (List.replicate 3 0) 0 = (#[.pointer (some ⟨pm, 0, none⟩), .int .i64 0, .int .i64 0, .int .i64 0, .int .i64 0, .int .i64 0, .int .i64 0, .int .i64 0, .int .i64 0, .slice (some ⟨pl, 0, none⟩) slo slo, inv, .int .i64 0, .int .i64 0, .int .i64 0, .int .i64 0] : Array Value).toList := rfl
    simp only [List.length_replicate]
    rw [e]; exact h
  · refine (inAt_row hin (P := fun g => B2 ≤ g ∧ g < w2.heap.size ∧ g ≠ pl) (fun g h0 h1 h2 => ⟨h1, h2, hne g h0⟩)).mono fun pi hpi ⟨h1, h2, h3⟩ => ⟨Below.heap_alloc _ _ _ hpi, by omega, by omega, h3, fun e => by have := hsv _ e; omega⟩

set_option maxHeartbeats 2000000 in
theorem newCall_any (w : World) (pm par slo b off n cap : Nat) (inp : List Nat) (hs : SrcAt w b off n cap inp) (hpar : par ≤ n) (hslo : slo ≤ 64) :
    Calls Tryd.prog 105 #[.pointer (some ⟨pm, 0, none⟩), .int .i64 (par : Int), .int .i64 (slo : Int), .slice (some ⟨b, off, none⟩) n cap] w (NewPost pm par slo inp w) := by
  obtain ⟨i0, hi, hz0, hz1, hz2⟩ := info_parts info_int
  have hmk : ∀ w : World, (Instr.makeSlice 26 (.int .i64 (slo : Int)) (.int .i64 (slo : Int))).run Tryd.prog w = .ok (.slice (some ⟨w.heap.size, 0, none⟩) slo slo) (w.alloc (.cells (madeCells (Value.int .i64 0).cells slo) 3)) := fun w => by
    have h := run_make (P := Tryd.prog) w 26 3 i0 (.int .i64 0) Tryd.underlying26 hi hz0 .i64 .i64 (slo : Int) (slo : Int) (by omega) (by omega) (by rw [hz2]; omega) (by omega)
    rw [hz1, Nat.mul_one] at h
    simpa using h
  have HMB : Hid (∀ W : World, Blk (W.alloc (.cells (madeCells (Value.int .i64 0).cells slo) 3)) W.heap.size (nats (List.replicate slo 0))) := Lib.hid fun W => by
    have h := Blk.new W (madeCells (Value.int .i64 0).cells slo) 3
    rw [show (madeCells (Value.int .i64 0).cells slo).toList = nats (List.replicate slo 0) by rw [← nats_zeros]; exact toList_madeCells_one _ _] at h
    exact h
  have hlen : (inp.take par).length = par := by rw [List.length_take]; have := hs.len; omega
  have HCL : Hid (∀ w', Below w.heap.size w w' → Calls Tryd.prog 104 #[.slice (some ⟨b, off, none⟩) par cap] w' (fun e w2 => ∃ a c, e = .returned (.slice a par c) ∧ w2.ownsRow w'.heap.size 3 1 (.slice a par c) par (nats (inp.take par)) ∧ Below w'.heap.size w' w2)) := Lib.hid fun w' hb => by
    have hkey : Calls Tryd.prog 104 #[.slice (some ⟨b, off, none⟩) par cap] w' (CloPost (inp.take par) w') := by
      have h1 := hs.small
      refine clone_some w' b off par cap (inp.take par) hlen (by omega) (fun i hi => ?_)
      have h := hs.cells i (by omega)
      rw [hb.cell (p := ⟨b, off + i, none⟩) (World.block_lt_of_cell? _ _ h), h]
      simp [List.getD_eq_getElem?_getD, hi]
    refine hkey.mono fun e w2 ⟨v, he, hown, hb⟩ => ?_
    obtain ⟨a, c, rfl⟩ : ∃ a c, v = .slice a par c := by
      rcases hown.2 with ⟨h1, h2⟩ | ⟨g, cp, cur, h1, _⟩
      · exact ⟨none, 0, by rw [h1, ← h2, hlen]⟩
      · exact ⟨_, cp, by rw [h1, hlen]⟩
    exact ⟨a, c, he, by rw [hlen] at hown; exact hown, hb⟩
  have hp0 : (0 : Int) ≤ par := by omega
  have hp1 : (par : Int) ≤ cap := by have := hs.cap; omega
  have hs0 : (0 : Int) ≤ slo := by omega
  have HS := Lib.hid hs
  clear hi hz0 hz1 hz2 hs
  go_enter Tryd.func105, Tryd.ntmps105
  go_wp2_with (fail)
  have HB0 := Lib.hid (Below.refl w.heap.size w).drew
  go_region_law (first | (go_simp; go_at_call 104; refine (HCL.out _ (by first | exact (below1 _ _).drew | exact (Below.refl _ _).drew)).mono ?_; rintro e w' ⟨va, vc, rfl, hown, hb⟩; (try clear HCL); have HOW := Lib.hid hown; have HBB := Lib.hid hb; clear hown hb))
  · have hb2 := HBB.out
    have hA := (below1 w (.cells (madeCells (Value.int .i64 0).cells slo) 3)).drew
    have hfin := newPost_of (pm := pm) (par := par) (slo := slo) (inp := inp) (t := 141) (hA.trans (hb2.mono hA.size)) (Nat.le_refl _) ((HMB.out w).drew.below hb2) hA.size (by rw [hlen]; exact HOW.out) (fun g h1 => by have := (World.ownsRow.lt HOW.out g h1).1; simp at this; omega)
    have HF := Lib.hid hfin
    clear hb2 hA hfin
    go_wp2_with (fail)
    go_ret
    exact HF.out
  · have hb2 := HBB.out
    have hA : Below w.heap.size w w' := (Below.refl w.heap.size w).drew.trans hb2
    have hfin := newPost_of (pm := pm) (par := par) (slo := slo) (inp := inp) (t := 141) (hA.alloc hA.size (.cells (madeCells (Value.int .i64 0).cells slo) 3)) hA.size (HMB.out w') (Nat.le_refl _) (by rw [hlen]; exact (HOW.out).alloc _) (fun g h1 => by have := (World.ownsRow.lt HOW.out g h1).2; omega)
    rw [show (w'.alloc (.cells (madeCells (Value.int .i64 0).cells slo) 3)).heap.size = w'.heap.size + 1 by simp] at hfin
    have HF := Lib.hid hfin
    clear hb2 hA hfin
    go_wp2_with (fail)
    go_ret
    exact HF.out

end Go.Proofs.YtbdbmmdnidonjaaDoor
