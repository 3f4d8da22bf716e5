/- impl.RunImage and impl.ImageTrace answer what a run of the image's bytes answers. -/
import Derived.Test.YtbdbmmdnidonjaaDoorUZi
set_option linter.unusedVariables false
set_option linter.unusedSimpArgs false
set_option maxRecDepth 100000
namespace Go.Proofs.YtbdbmmdnidonjaaDoor
open Go.RowKit
theorem outAt_keep {w w' : World} {B B' : Nat} {o : Option Rs} {v : Value} (h : OutAt w B o v) (hB : B' ≤ B) (hh : ∀ k, B ≤ k → k < w.heap.size → w'.heap[k]? = w.heap[k]?) : OutAt w' B' o v := by
 cases o with
 |none => exact h
 |some r =>
  obtain ⟨sa, sn, sc, ca, cc, hv, h1, h2, h3⟩ := h
  exact ⟨sa, sn, sc, ca, cc, hv, row_keep h1 hB hh, row_keep h2 hB hh, h3⟩
theorem outAt_form {w : World} {B : Nat} {o : Option Rs} {v : Value} (h : OutAt w B o v) : ∃ sa sn sc en vl ca cn cc, v = .agg #[.slice sa sn sc, .int .i64 en, .int .i64 vl, .slice ca cn cc] := by
 cases o with
 |none => exact ⟨_, _, _, _, _, _, _, _, h⟩
 |some r =>
  obtain ⟨sa, sn, sc, ca, cc, hv, _⟩ := h
  exact ⟨_, _, _, _, _, _, _, _, hv⟩
set_option maxHeartbeats 2000000 in
theorem implRunImage_any (w : World) (v : Value) (b : List Nat) (hF : Forms w) (hM : Magic w) (h : CsC w v b) (hle : b.length ≤ 1048576) (ib n cap : Nat) (zs : List Int) (hi : InSrc w ib 0 n cap zs) (steps : Int) :
  Calls Tryd.prog 47 #[v, .slice (some ⟨ib, 0, none⟩) n cap, .int .i64 steps] w (AnsPost (imgRun b zs steps) w) := by
 have HR := Lib.hid (fun w' (hb : Below w.heap.size w w') => runImage_any w' v b (hF.below hb) (hM.below hb) (h.below hb) hle ib n cap zs (hi.below hb) steps)
 generalize imgRun b zs steps = o at *
 obtain ⟨ok, hok⟩ : ∃ ok, ok = o.isSome := ⟨_, rfl⟩
 unfold IrPost at HR
 unfold AnsPost
 rw [← hok] at HR ⊢
 clear hF hM h hi hok
 go_enter Tryd.func47, Tryd.ntmps47
 go_wp2_with (fail)
 go_at_call 73
 refine (HR.out _ (below1 _ _)).mono ?_
 rintro e w5 ⟨u, mp, rfl, hO, hb, _⟩
 have hbO : Blk w5 w.heap.size [.slice none 0 0, .int .i64 0, .int .i64 0, .slice none 0 0] := (Blk.new w #[.slice none 0 0, .int .i64 0, .int .i64 0, .slice none 0 0] 31).below hb
 have hs5 : w.heap.size + 1 ≤ w5.heap.size := by have := hb.size; simpa using this
 have hB5 : Below w.heap.size w w5 := (below1 w _).trans (hb.mono (by simp))
 obtain ⟨sa, sn, sc, en, vl, ca, cn, cc, rfl⟩ := outAt_form hO
 have HO : Hid (OutAt w5 (w.heap.size + 1) o (.agg #[.slice sa sn sc, .int .i64 en, .int .i64 vl, .slice ca cn cc])) := Lib.hid (by simpa using hO)
 obtain ⟨t0, t1, t2, t3⟩ := blkc4 hbO
 have f0 := hbO.frozen 0
 have f1 := hbO.frozen 1
 have f2 := hbO.frozen 2
 have f3 := hbO.frozen 3
 have hlt := hbO.lt
 have HB := Lib.hid hB5
 clear hO hb HR hB5 hbO
 go_wp2_with (fail)
 refine bodyPost_ret (v := .tuple #[.agg #[.slice sa sn sc, .int .i64 en, .int .i64 vl, .slice ca cn cc], .bool ok]) (by simp [results, Tryd.results47, go_sem, hlt, t0, t1, t2, t3]) rfl ?_
 refine ⟨_, rfl, outAt_keep HO.out (by omega) (fun k h1 h2 => ?_), ?_⟩
 ·have e1 : k ≠ w.heap.size := by omega
  first
   |(rw [Below.heap_alloc _ _ _ (by simpa using h2), Below.heap_setCell _ _ _ _ e1, Below.heap_setCell _ _ _ _ e1, Below.heap_setCell _ _ _ _ e1, Below.heap_setCell _ _ _ _ e1])
   |(rw [Below.heap_setCell _ _ _ _ e1, Below.heap_setCell _ _ _ _ e1, Below.heap_setCell _ _ _ _ e1, Below.heap_setCell _ _ _ _ e1, Below.heap_alloc _ _ _ (by simpa using h2)])
 ·first
   |exact ((((HB.out.setCell (p := ⟨w.heap.size, 0, none⟩) (by simp only []; omega) _).setCell (p := ⟨w.heap.size, 1, none⟩) (by simp only []; omega) _).setCell (p := ⟨w.heap.size, 2, none⟩) (by simp only []; omega) _).setCell (p := ⟨w.heap.size, 3, none⟩) (by simp only []; omega) _).alloc (by simp; omega) _
   |exact ((((HB.out.alloc (by simp; omega) _).setCell (p := ⟨w.heap.size, 0, none⟩) (by simp only []; omega) _).setCell (p := ⟨w.heap.size, 1, none⟩) (by simp only []; omega) _).setCell (p := ⟨w.heap.size, 2, none⟩) (by simp only []; omega) _).setCell (p := ⟨w.heap.size, 3, none⟩) (by simp only []; omega) _
/-- the places that a run comes to -/
def trOf : Option Rs → List Nat
 |none => []
 |some r => r.cm.trace
def TrP (o : Option Rs) (w : World) (e : Ending) (w' : World) : Prop := ∃ v, e = .returned v ∧ Said w' w.heap.size v (trOf o) ∧ Below w.heap.size w w'
set_option maxHeartbeats 2000000 in
theorem implImageTrace_any (w : World) (v : Value) (b : List Nat) (hF : Forms w) (hM : Magic w) (h : CsC w v b) (hle : b.length ≤ 1048576) (ib n cap : Nat) (zs : List Int) (hi : InSrc w ib 0 n cap zs) (steps : Int) :
  Calls Tryd.prog 44 #[v, .slice (some ⟨ib, 0, none⟩) n cap, .int .i64 steps] w (TrP (imgRun b zs steps) w) := by
 have HR := Lib.hid (runImage_any w v b hF hM h hle ib n cap zs hi steps)
 generalize imgRun b zs steps = o at *
 unfold IrPost at HR
 clear hF hM h hi
 cases o with
 |none =>
  simp only [Option.isSome_none] at HR
  go_enter Tryd.func44, Tryd.ntmps44
  go_wp2_with (fail)
  go_at_call 73
  refine HR.out.mono ?_
  rintro e w5 ⟨u, mp, rfl, hO, hb, hm⟩
  obtain ⟨sa, sn, sc, en, vl, ca, cn, cc, rfl⟩ := outAt_form hO
  have HB := Lib.hid hb
  have hs := hb.size
  clear hO hb HR hm
  go_wp2_with (fail)
  first | go_ret | skip
  exact ⟨_, rfl, World.ownsRow_nil _ _ _ _, HB.out.alloc hs _⟩
 |some r =>
  simp only [Option.isSome_some] at HR
  go_enter Tryd.func44, Tryd.ntmps44
  go_wp2_with (fail)
  go_at_call 73
  refine HR.out.mono ?_
  rintro e w5 ⟨u, mp, rfl, hO, hb, pm, tv, rfl, hc, hs⟩
  obtain ⟨sa, sn, sc, en, vl, ca, cn, cc, rfl⟩ := outAt_form hO
  have HB := Lib.hid hb
  have HS := Lib.hid hs
  have hsz := hb.size
  have hpl := World.block_lt_of_cell? _ _ hc
  clear hO hb HR hs
  go_wp2_with (fail)
  first | go_ret | skip
  exact ⟨_, rfl, HS.out.alloc _, HB.out.alloc hsz _⟩
end Go.Proofs.YtbdbmmdnidonjaaDoor
