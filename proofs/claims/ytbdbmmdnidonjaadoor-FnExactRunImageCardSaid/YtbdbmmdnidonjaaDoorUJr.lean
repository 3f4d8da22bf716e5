/- One instruction read from bytes, on the reference's side: l25One. One instruction read from bytes, on the reference's side: l25One, the ops that do not jump. One instruction read from bytes, on the reference's side: l25One, the jumps; all together. One instruction read from bytes, on the reference's side: l25One answers oneN. -/
import Derived.Test.YtbdbmmdnidonjaaDoorUJq
import Derived.Test.YtbdbmmdnidonjaaDoorUJo
import Derived.Deep.RegionHeld3
import Derived.StillTailTactics
set_option linter.unusedVariables false
set_option linter.unusedSimpArgs false
set_option maxRecDepth 100000
namespace Go.Proofs.YtbdbmmdnidonjaaDoor
open Go.RowKit
/-- readable bytes -/
def CsAt (w : World) (v : Value) (cs : List Nat) : Prop :=
 ∃ a cap, v = .slice a cs.length cap ∧ (∀ x ∈ cs, x < 256) ∧ ∀ i, i < cs.length → ∃ b off, a = some ⟨b, off, none⟩ ∧ w.cell? ⟨b, off + i, none⟩ = some (.int .u8 ((byteN cs i : Nat) : Int))
theorem CsAt.below {w w' : World} {v : Value} {cs : List Nat} (h : CsAt w v cs) (hb : Below w.heap.size w w') : CsAt w' v cs := by
 obtain ⟨a, cap, hv, hs, hc⟩ := h
 refine ⟨a, cap, hv, hs, fun i hi => ?_⟩
 obtain ⟨b, off, ha, c0⟩ := hc i hi
 exact ⟨b, off, ha, cellB hb c0⟩
theorem byteN_lt {cs : List Nat} (h : ∀ x ∈ cs, x < 256) (i : Nat) : byteN cs i < 256 := by
 unfold byteN
 rw [List.getD_eq_getElem?_getD]
 rcases Nat.lt_or_ge i cs.length with hi | hi
 ·rw [List.getElem?_eq_getElem hi]; exact h _ (List.getElem_mem _)
 ·rw [List.getElem?_eq_none hi]; simp
def OneP (r : Option (Mi × Nat)) (w : World) (e : Ending) (w' : World) : Prop :=
 ∃ (x : Mi) (n : Nat) (ok : Bool), e = .returned (.tuple #[x.val, .int .i64 (n : Int), .bool ok]) ∧ (ok = true → r = some (x, n)) ∧ (ok = false → r = none) ∧ Below w.heap.size w w'
theorem Blk.five {w : World} {p : Nat} {v0 v1 v2 v3 v4 : Value} (h : Blk w p [v0, v1, v2, v3, v4]) :
  w.cell? ⟨p, 0, none⟩ = some v0 ∧ w.cell? ⟨p, 1, none⟩ = some v1 ∧ w.cell? ⟨p, 2, none⟩ = some v2 ∧ w.cell? ⟨p, 3, none⟩ = some v3 ∧ w.cell? ⟨p, 4, none⟩ = some v4 := by
 refine ⟨?_, ?_, ?_, ?_, ?_⟩
 all_goals rw [h.cell]; rfl
theorem fieldStr_ne (op : Nat) (h1 : 1 ≤ op) (h2 : op ≤ 22) : (fieldStr (op : Int)).toList.isEmpty = false := by
 refine notEmpty ?_
 rcases (show op = 1 ∨ op = 2 ∨ op = 3 ∨ op = 4 ∨ op = 5 ∨ op = 6 ∨ op = 7 ∨ op = 8 ∨ op = 9 ∨ op = 10 ∨ op = 11 ∨ op = 12 ∨ op = 13 ∨ op = 14 ∨ op = 15 ∨ op = 16 ∨ op = 17 ∨ op = 18 ∨ op = 19 ∨ op = 20 ∨ op = 21 ∨ op = 22 by omega) with rfl | rfl | rfl | rfl | rfl | rfl | rfl | rfl | rfl | rfl | rfl | rfl | rfl | rfl | rfl | rfl | rfl | rfl | rfl | rfl | rfl | rfl
 all_goals (intro h; exact absurd (congrArg (fun s : ByteArray => s.data.size) h) (by decide))
theorem ssize0 (w : World) (op : Nat) (h1 : 1 ≤ op) (h2 : op ≤ 22) (lg : Bool) : Calls Tryd.prog 138 #[.agg #[.int .i64 (op : Int), .int .i64 0, .int .i64 0, .int .i64 0, .int .i64 0], .bool lg] w fun e w' => e = .returned (.int .i64 ((sizO op lg : Nat) : Int)) ∧ Below w.heap.size w w' :=
 ssize_any w ⟨op, 0, 0, 0, 0⟩ ⟨⟨h1, h2⟩, by simp only []; omega, by simp only []; omega, by simp only []; omega, fun _ => by simp only []; omega⟩ lg
set_option maxHeartbeats 4000000 in
theorem one_a (w : World) (b off cap : Nat) (at_ : Nat) (L q op : Nat) (lg : Bool) (Q : Ending → World → Prop) (hL2 : L ≤ 1048576) (hlt : at_ < L)
  (hq : q < 256) (hop : op = q % 128) (hlg : lg = decide (128 ≤ q)) (c0 : w.cell? ⟨b, off + at_, none⟩ = some (.int .u8 (q : Int))) (hbad : opIn (op : Int) = false)
  (hQ : ∀ w', Below w.heap.size w w' → Q (.returned (.tuple #[.agg #[.int .i64 (op : Int), .int .i64 0, .int .i64 0, .int .i64 0, .int .i64 0], .int .i64 0, .bool false])) w') :
  Calls Tryd.prog 115 #[.slice (some ⟨b, off, none⟩) L cap, .int .i64 (at_ : Int)] w Q := by
 have HQ := Lib.hid hQ
 clear hQ
 have k0 : (0 : Int) ≤ at_ := by omega
 have k1 : (at_ : Int) < L := by omega
 have e1 : decide ((128 : Int) ≤ (q : Int)) = lg := by rw [hlg]; rw [Bool.eq_iff_iff]; simp; omega
 have e2 : (q : Int) % 128 = (op : Int) := by omega
 have c1 := fun o => cellB (below1 w o) c0
 have HC0 := Lib.hid c0
 have HW := Lib.hid (fun w' => l22Word_any w' (op : Int))
 unfold WordPost at HW
 rw [hbad] at HW
 simp only [Bool.false_eq_true, if_false] at HW
 clear hbad
 clear c0 hlg hop
 go_enter Tryd.func115, Tryd.ntmps115
 go_wp2_with (fail)
 go_at_call 130
 generalize hwa : w.alloc _ = wa
 obtain ⟨hba, _⟩ := box5 hwa
 have hsa : wa.heap.size = w.heap.size + 1 := by rw [← hwa]; simp
 have hra : Blk wa w.heap.size [.int .i64 0, .int .i64 0, .int .i64 0, .int .i64 0, .int .i64 0] := by rw [← hwa]; exact Blk.new w _ _
 generalize hwb : wa.alloc _ = wb
 have hxb : Blk wb (w.heap.size + 1) [.int .i64 (op : Int), .int .i64 0, .int .i64 0, .int .i64 0, .int .i64 0] := by rw [← hwb, ← hsa]; exact Blk.new wa _ _
 have hbb : Below wa.heap.size wa wb := by rw [← hwb]; exact below1 _ _
 have hrb := hra.below hbb
 refine (HW.out wb).mono ?_
 rintro e w2 ⟨rfl, hb2⟩
 have HRB := Lib.hid (hrb.below hb2)
 have HXB := Lib.hid (hxb.below hb2)
 have HB2 := Lib.hid ((hba.trans (hbb.mono hba.size)).trans (hb2.mono (by have := hbb.size; omega)))
 clear hwa hba hsa hra hwb hxb hbb hrb hb2 HW c1 e1 e2 k1
 obtain ⟨r0, r1, r2, r3, r4⟩ := HRB.out.five
 have rf := HRB.out.frozen
 have rf0 := rf 0; have rf1 := rf 1; have rf2 := rf 2; have rf3 := rf 3; have rf4 := rf 4
 obtain ⟨x0, x1, x2, x3, x4⟩ := HXB.out.five
 clear rf
 go_wp2_with (fail)
 refine bodyPost_ret (v := .tuple #[.agg #[.int .i64 (op : Int), .int .i64 0, .int .i64 0, .int .i64 0, .int .i64 0], .int .i64 0, .bool false]) (by simp [results, Tryd.results115, go_sem, r0, r1, r2, r3, r4]) rfl ?_
 refine HQ.out _ ?_
 exact ((((HB2.out.setCell (p := ⟨w.heap.size, 0, none⟩) (by simp) _).setCell (p := ⟨w.heap.size, 1, none⟩) (by simp) _).setCell (p := ⟨w.heap.size, 2, none⟩) (by simp) _).setCell (p := ⟨w.heap.size, 3, none⟩) (by simp) _).setCell (p := ⟨w.heap.size, 4, none⟩) (by simp) _
set_option maxHeartbeats 4000000 in
theorem one_b (w : World) (b off cap : Nat) (at_ : Nat) (L q op : Nat)  (Q : Ending → World → Prop) (hL2 : L ≤ 1048576) (hlt : at_ < L)
  (hq : q < 256) (hop : op = q % 128) (hlg : true = decide (128 ≤ q)) (c0 : w.cell? ⟨b, off + at_, none⟩ = some (.int .u8 (q : Int))) (h1 : 1 ≤ op) (h2 : op ≤ 22) (hjp : jmpN op = false)
  (hQ : ∀ w', Below w.heap.size w w' → Q (.returned (.tuple #[.agg #[.int .i64 (op : Int), .int .i64 0, .int .i64 0, .int .i64 0, .int .i64 0], .int .i64 0, .bool false])) w') :
  Calls Tryd.prog 115 #[.slice (some ⟨b, off, none⟩) L cap, .int .i64 (at_ : Int)] w Q := by
 have HQ := Lib.hid hQ
 clear hQ
 have k0 : (0 : Int) ≤ at_ := by omega
 have k1 : (at_ : Int) < L := by omega
 have e1 : decide ((128 : Int) ≤ (q : Int)) = true := by rw [hlg]; rw [Bool.eq_iff_iff]; simp; omega
 have e2 : (q : Int) % 128 = (op : Int) := by omega
 have c1 := fun o => cellB (below1 w o) c0
 have HC0 := Lib.hid c0
 have HW := Lib.hid (fun w' => l22Word_any w' (op : Int))
 unfold WordPost at HW
 have HFN := Lib.hid (fieldStr_ne op h1 h2)
 rw [show opIn (op : Int) = true from inR_iff.mpr ⟨by omega, by omega⟩] at HW
 simp only [if_true] at HW
 generalize nameOf (op : Int) = nm at HW
 generalize fieldStr (op : Int) = fm at HW HFN
 have hfn := HFN.out
 have HJ := Lib.hid (fun w' => sjump_any w' op 0 0 0 0)
 rw [hjp] at HJ
 clear hjp HFN
 clear c0 hlg hop
 go_enter Tryd.func115, Tryd.ntmps115
 go_wp2_with (fail)
 go_at_call 130
 generalize hwa : w.alloc _ = wa
 obtain ⟨hba, _⟩ := box5 hwa
 have hsa : wa.heap.size = w.heap.size + 1 := by rw [← hwa]; simp
 have hra : Blk wa w.heap.size [.int .i64 0, .int .i64 0, .int .i64 0, .int .i64 0, .int .i64 0] := by rw [← hwa]; exact Blk.new w _ _
 generalize hwb : wa.alloc _ = wb
 have hxb : Blk wb (w.heap.size + 1) [.int .i64 (op : Int), .int .i64 0, .int .i64 0, .int .i64 0, .int .i64 0] := by rw [← hwb, ← hsa]; exact Blk.new wa _ _
 have hbb : Below wa.heap.size wa wb := by rw [← hwb]; exact below1 _ _
 have hrb := hra.below hbb
 refine (HW.out wb).mono ?_
 rintro e w2 ⟨rfl, hb2⟩
 have HRB := Lib.hid (hrb.below hb2)
 have HXB := Lib.hid (hxb.below hb2)
 have HB2 := Lib.hid ((hba.trans (hbb.mono hba.size)).trans (hb2.mono (by have := hbb.size; omega)))
 clear hwa hba hsa hra hwb hxb hbb hrb hb2 HW c1 e1 e2 k1
 obtain ⟨x0, x1, x2, x3, x4⟩ := HXB.out.five
 go_wp2_with (fail)
 go_at_call 116
 refine (HJ.out w2).mono ?_
 rintro e w3 ⟨rfl, hb3⟩
 have HRB3 := Lib.hid (HRB.out.below hb3)
 have HXB3 := Lib.hid (HXB.out.below hb3)
 have HB3 := Lib.hid (HB2.out.trans (hb3.mono HB2.out.size))
 clear hb3 x0 x1 x2 x3 x4 HRB HXB HB2 HJ
 obtain ⟨r0, r1, r2, r3, r4⟩ := HRB3.out.five
 have rf := HRB3.out.frozen
 have rf0 := rf 0; have rf1 := rf 1; have rf2 := rf 2; have rf3 := rf 3; have rf4 := rf 4
 obtain ⟨x0, x1, x2, x3, x4⟩ := HXB3.out.five
 clear rf
 go_wp2_with (fail)
 refine bodyPost_ret (v := .tuple #[.agg #[.int .i64 (op : Int), .int .i64 0, .int .i64 0, .int .i64 0, .int .i64 0], .int .i64 0, .bool false]) (by simp [results, Tryd.results115, go_sem, r0, r1, r2, r3, r4]) rfl ?_
 refine HQ.out _ ?_
 exact ((((HB3.out.setCell (p := ⟨w.heap.size, 0, none⟩) (by simp) _).setCell (p := ⟨w.heap.size, 1, none⟩) (by simp) _).setCell (p := ⟨w.heap.size, 2, none⟩) (by simp) _).setCell (p := ⟨w.heap.size, 3, none⟩) (by simp) _).setCell (p := ⟨w.heap.size, 4, none⟩) (by simp) _
set_option maxHeartbeats 4000000 in
theorem one_c (w : World) (b off cap : Nat) (at_ : Nat) (L q op : Nat)  (Q : Ending → World → Prop) (hL2 : L ≤ 1048576) (hlt : at_ < L)
  (hq : q < 256) (hop : op = q % 128) (hlg : false = decide (128 ≤ q)) (c0 : w.cell? ⟨b, off + at_, none⟩ = some (.int .u8 (q : Int))) (h1 : 1 ≤ op) (h2 : op ≤ 22) (n : Nat) (hn : n = sizO op false) (jp : Bool) (hjp : jmpN op = jp) (hfit : L < at_ + n)
  (hQ : ∀ w', Below w.heap.size w w' → Q (.returned (.tuple #[.agg #[.int .i64 (op : Int), .int .i64 0, .int .i64 0, .int .i64 0, .int .i64 0], .int .i64 0, .bool false])) w') :
  Calls Tryd.prog 115 #[.slice (some ⟨b, off, none⟩) L cap, .int .i64 (at_ : Int)] w Q := by
 have HS := Lib.hid (fun w' => ssize0 w' op h1 h2 false)
 have hn4 := (sizO_le op false)
 rw [← hn] at HS hn4
 obtain ⟨hn2, hn4⟩ := hn4
 have HQ := Lib.hid hQ
 have n0 : (0 : Int) ≤ n := by omega
 have n4 : (n : Int) ≤ 4 := by omega
 have m0 : (L : Int) ≤ 1048576 := by omega
 clear hQ hn
 have ft : (L : Int) < at_ + n := by omega
 have k0 : (0 : Int) ≤ at_ := by omega
 have k1 : (at_ : Int) < L := by omega
 have e1 : decide ((128 : Int) ≤ (q : Int)) = false := by rw [hlg]; rw [Bool.eq_iff_iff]; simp at hlg ⊢; omega
 have e2 : (q : Int) % 128 = (op : Int) := by omega
 have c1 := fun o => cellB (below1 w o) c0
 have HC0 := Lib.hid c0
 have HW := Lib.hid (fun w' => l22Word_any w' (op : Int))
 unfold WordPost at HW
 have HFN := Lib.hid (fieldStr_ne op h1 h2)
 rw [show opIn (op : Int) = true from inR_iff.mpr ⟨by omega, by omega⟩] at HW
 simp only [if_true] at HW
 generalize nameOf (op : Int) = nm at HW
 generalize fieldStr (op : Int) = fm at HW HFN
 have hfn := HFN.out
 have HJ := Lib.hid (fun w' => sjump_any w' op 0 0 0 0)
 rw [hjp] at HJ
 clear hjp HFN
 clear c0 hlg hop
 go_enter Tryd.func115, Tryd.ntmps115
 go_wp2_with (fail)
 go_at_call 130
 generalize hwa : w.alloc _ = wa
 obtain ⟨hba, _⟩ := box5 hwa
 have hsa : wa.heap.size = w.heap.size + 1 := by rw [← hwa]; simp
 have hra : Blk wa w.heap.size [.int .i64 0, .int .i64 0, .int .i64 0, .int .i64 0, .int .i64 0] := by rw [← hwa]; exact Blk.new w _ _
 generalize hwb : wa.alloc _ = wb
 have hxb : Blk wb (w.heap.size + 1) [.int .i64 (op : Int), .int .i64 0, .int .i64 0, .int .i64 0, .int .i64 0] := by rw [← hwb, ← hsa]; exact Blk.new wa _ _
 have hbb : Below wa.heap.size wa wb := by rw [← hwb]; exact below1 _ _
 have hrb := hra.below hbb
 refine (HW.out wb).mono ?_
 rintro e w2 ⟨rfl, hb2⟩
 have HRB := Lib.hid (hrb.below hb2)
 have HXB := Lib.hid (hxb.below hb2)
 have HB2 := Lib.hid ((hba.trans (hbb.mono hba.size)).trans (hb2.mono (by have := hbb.size; omega)))
 clear hwa hba hsa hra hwb hxb hbb hrb hb2 HW c1 e1 e2 k1
 have HRB2 := HRB; have HXB2 := HXB
 clear HRB HXB
 obtain ⟨x0, x1, x2, x3, x4⟩ := HXB2.out.five
 go_wp2_with (fail)
 go_at_call 138
 refine (HS.out w2).mono ?_
 rintro e w3 ⟨rfl, hb3⟩
 have HRB3 := Lib.hid (HRB2.out.below hb3)
 have HXB3 := Lib.hid (HXB2.out.below hb3)
 have HB3 := Lib.hid (HB2.out.trans (hb3.mono HB2.out.size))
 clear hb3 x0 x1 x2 x3 x4 HRB2 HXB2 HB2
 obtain ⟨x0, x1, x2, x3, x4⟩ := HXB3.out.five
 clear x0 x1 x2 x3 x4
 obtain ⟨r0, r1, r2, r3, r4⟩ := HRB3.out.five
 have rf := HRB3.out.frozen
 have rf0 := rf 0; have rf1 := rf 1; have rf2 := rf 2; have rf3 := rf 3; have rf4 := rf 4
 obtain ⟨x0, x1, x2, x3, x4⟩ := HXB3.out.five
 clear rf
 go_wp2_with (fail)
 refine bodyPost_ret (v := .tuple #[.agg #[.int .i64 (op : Int), .int .i64 0, .int .i64 0, .int .i64 0, .int .i64 0], .int .i64 0, .bool false]) (by simp [results, Tryd.results115, go_sem, r0, r1, r2, r3, r4]) rfl ?_
 refine HQ.out _ ?_
 exact ((((HB3.out.setCell (p := ⟨w.heap.size, 0, none⟩) (by simp) _).setCell (p := ⟨w.heap.size, 1, none⟩) (by simp) _).setCell (p := ⟨w.heap.size, 2, none⟩) (by simp) _).setCell (p := ⟨w.heap.size, 3, none⟩) (by simp) _).setCell (p := ⟨w.heap.size, 4, none⟩) (by simp) _
set_option maxHeartbeats 4000000 in
theorem one_d (w : World) (b off cap : Nat) (at_ : Nat) (L q op : Nat)  (Q : Ending → World → Prop) (hL2 : L ≤ 1048576) (hlt : at_ < L)
  (hq : q < 256) (hop : op = q % 128) (hlg : true = decide (128 ≤ q)) (c0 : w.cell? ⟨b, off + at_, none⟩ = some (.int .u8 (q : Int))) (h1 : 1 ≤ op) (h2 : op ≤ 22) (n : Nat) (hn : n = sizO op true) (hjp : jmpN op = true) (hfit : L < at_ + n)
  (hQ : ∀ w', Below w.heap.size w w' → Q (.returned (.tuple #[.agg #[.int .i64 (op : Int), .int .i64 0, .int .i64 0, .int .i64 0, .int .i64 0], .int .i64 0, .bool false])) w') :
  Calls Tryd.prog 115 #[.slice (some ⟨b, off, none⟩) L cap, .int .i64 (at_ : Int)] w Q := by
 have HS := Lib.hid (fun w' => ssize0 w' op h1 h2 true)
 have hn4 := (sizO_le op true)
 rw [← hn] at HS hn4
 obtain ⟨hn2, hn4⟩ := hn4
 have HQ := Lib.hid hQ
 have n0 : (0 : Int) ≤ n := by omega
 have n4 : (n : Int) ≤ 4 := by omega
 have m0 : (L : Int) ≤ 1048576 := by omega
 clear hQ hn
 have ft : (L : Int) < at_ + n := by omega
 have k0 : (0 : Int) ≤ at_ := by omega
 have k1 : (at_ : Int) < L := by omega
 have e1 : decide ((128 : Int) ≤ (q : Int)) = true := by rw [hlg]; rw [Bool.eq_iff_iff]; simp; omega
 have e2 : (q : Int) % 128 = (op : Int) := by omega
 have c1 := fun o => cellB (below1 w o) c0
 have HC0 := Lib.hid c0
 have HW := Lib.hid (fun w' => l22Word_any w' (op : Int))
 unfold WordPost at HW
 have HFN := Lib.hid (fieldStr_ne op h1 h2)
 rw [show opIn (op : Int) = true from inR_iff.mpr ⟨by omega, by omega⟩] at HW
 simp only [if_true] at HW
 generalize nameOf (op : Int) = nm at HW
 generalize fieldStr (op : Int) = fm at HW HFN
 have hfn := HFN.out
 have HJ := Lib.hid (fun w' => sjump_any w' op 0 0 0 0)
 rw [hjp] at HJ
 clear hjp HFN
 clear c0 hlg hop
 go_enter Tryd.func115, Tryd.ntmps115
 go_wp2_with (fail)
 go_at_call 130
 generalize hwa : w.alloc _ = wa
 obtain ⟨hba, _⟩ := box5 hwa
 have hsa : wa.heap.size = w.heap.size + 1 := by rw [← hwa]; simp
 have hra : Blk wa w.heap.size [.int .i64 0, .int .i64 0, .int .i64 0, .int .i64 0, .int .i64 0] := by rw [← hwa]; exact Blk.new w _ _
 generalize hwb : wa.alloc _ = wb
 have hxb : Blk wb (w.heap.size + 1) [.int .i64 (op : Int), .int .i64 0, .int .i64 0, .int .i64 0, .int .i64 0] := by rw [← hwb, ← hsa]; exact Blk.new wa _ _
 have hbb : Below wa.heap.size wa wb := by rw [← hwb]; exact below1 _ _
 have hrb := hra.below hbb
 refine (HW.out wb).mono ?_
 rintro e w2 ⟨rfl, hb2⟩
 have HRB := Lib.hid (hrb.below hb2)
 have HXB := Lib.hid (hxb.below hb2)
 have HB2 := Lib.hid ((hba.trans (hbb.mono hba.size)).trans (hb2.mono (by have := hbb.size; omega)))
 clear hwa hba hsa hra hwb hxb hbb hrb hb2 HW c1 e1 e2 k1
 have HRB2 := HRB; have HXB2 := HXB
 clear HRB HXB
 obtain ⟨x0, x1, x2, x3, x4⟩ := HXB2.out.five
 go_wp2_with (fail)
 go_at_call 116
 refine (HJ.out w2).mono ?_
 rintro e w3 ⟨rfl, hb3⟩
 have HRB3 := Lib.hid (HRB2.out.below hb3)
 have HXB3 := Lib.hid (HXB2.out.below hb3)
 have HB3 := Lib.hid (HB2.out.trans (hb3.mono HB2.out.size))
 clear hb3 x0 x1 x2 x3 x4 HRB2 HXB2 HB2
 obtain ⟨x0, x1, x2, x3, x4⟩ := HXB3.out.five
 go_wp2_with (fail)
 go_at_call 138
 refine (HS.out w3).mono ?_
 rintro e w4 ⟨rfl, hb4⟩
 have HRB4 := Lib.hid (HRB3.out.below hb4)
 have HXB4 := Lib.hid (HXB3.out.below hb4)
 have HB4 := Lib.hid (HB3.out.trans (hb4.mono HB3.out.size))
 clear hb4 x0 x1 x2 x3 x4 HRB3 HXB3 HB3
 obtain ⟨x0, x1, x2, x3, x4⟩ := HXB4.out.five
 clear x0 x1 x2 x3 x4
 obtain ⟨r0, r1, r2, r3, r4⟩ := HRB4.out.five
 have rf := HRB4.out.frozen
 have rf0 := rf 0; have rf1 := rf 1; have rf2 := rf 2; have rf3 := rf 3; have rf4 := rf 4
 obtain ⟨x0, x1, x2, x3, x4⟩ := HXB4.out.five
 clear rf
 go_wp2_with (fail)
 refine bodyPost_ret (v := .tuple #[.agg #[.int .i64 (op : Int), .int .i64 0, .int .i64 0, .int .i64 0, .int .i64 0], .int .i64 0, .bool false]) (by simp [results, Tryd.results115, go_sem, r0, r1, r2, r3, r4]) rfl ?_
 refine HQ.out _ ?_
 exact ((((HB4.out.setCell (p := ⟨w.heap.size, 0, none⟩) (by simp) _).setCell (p := ⟨w.heap.size, 1, none⟩) (by simp) _).setCell (p := ⟨w.heap.size, 2, none⟩) (by simp) _).setCell (p := ⟨w.heap.size, 3, none⟩) (by simp) _).setCell (p := ⟨w.heap.size, 4, none⟩) (by simp) _
end Go.Proofs.YtbdbmmdnidonjaaDoor
set_option maxRecDepth 100000
namespace Go.Proofs.YtbdbmmdnidonjaaDoor
open Go.RowKit
set_option maxHeartbeats 4000000 in
theorem one_e (w : World) (b off cap : Nat) (at_ : Nat) (L q op : Nat)  (Q : Ending → World → Prop) (hL2 : L ≤ 1048576) (hlt : at_ < L)
  (hq : q < 256) (hop : op = q % 128) (hlg : false = decide (128 ≤ q)) (c0 : w.cell? ⟨b, off + at_, none⟩ = some (.int .u8 (q : Int))) (h1 : 1 ≤ op) (h2 : op ≤ 22) (n : Nat) (hn : n = sizO op false) (hjp : jmpN op = false) (hfit : at_ + n ≤ L) (hop2 : op = 1) (hbl : b < w.heap.size) (q1 q2 : Nat) (hq1 : q1 < 256) (hq2 : q2 < 256) (g1 : w.cell? ⟨b, off + (at_ + 1), none⟩ = some (.int .u8 (q1 : Int))) (hat2 : at_ + 2 < L) (g2 : w.cell? ⟨b, off + (at_ + 2), none⟩ = some (.int .u8 (q2 : Int)))
  (hQ : ∀ w', Below w.heap.size w w' → Q (.returned (.tuple #[.agg #[.int .i64 (op : Int), .int .i64 (q1 : Int), .int .i64 0, .int .i64 0, .int .i64 (q2 : Int)], .int .i64 (n : Int), .bool true])) w') :
  Calls Tryd.prog 115 #[.slice (some ⟨b, off, none⟩) L cap, .int .i64 (at_ : Int)] w Q := by
 have HS := Lib.hid (fun w' => ssize0 w' op h1 h2 false)
 have hn4 := (sizO_le op false)
 rw [← hn] at HS hn4
 obtain ⟨hn2, hn4⟩ := hn4
 have HQ := Lib.hid hQ
 have n0 : (0 : Int) ≤ n := by omega
 have n4 : (n : Int) ≤ 4 := by omega
 have m0 : (L : Int) ≤ 1048576 := by omega
 clear hQ hn
 have ft : (at_ : Int) + n ≤ L := by omega
 have hne : ¬ (w.heap.size + 1 = b) := by omega
 have hnx : ¬ (b = w.heap.size + 1) := by omega
 have b1 : ((op : Int) == 1) = true := by simp; omega
 clear hop2
 have k0 : (0 : Int) ≤ at_ := by omega
 have k1 : (at_ : Int) < L := by omega
 have e1 : decide ((128 : Int) ≤ (q : Int)) = false := by rw [hlg]; rw [Bool.eq_iff_iff]; simp at hlg ⊢; omega
 have e2 : (q : Int) % 128 = (op : Int) := by omega
 have c1 := fun o => cellB (below1 w o) c0
 have HC0 := Lib.hid c0
 have HW := Lib.hid (fun w' => l22Word_any w' (op : Int))
 unfold WordPost at HW
 have HFN := Lib.hid (fieldStr_ne op h1 h2)
 rw [show opIn (op : Int) = true from inR_iff.mpr ⟨by omega, by omega⟩] at HW
 simp only [if_true] at HW
 generalize nameOf (op : Int) = nm at HW
 generalize fieldStr (op : Int) = fm at HW HFN
 have hfn := HFN.out
 have HJ := Lib.hid (fun w' => sjump_any w' op 0 0 0 0)
 rw [hjp] at HJ
 clear hjp HFN
 clear c0 hlg hop
 go_enter Tryd.func115, Tryd.ntmps115
 go_wp2_with (fail)
 go_at_call 130
 generalize hwa : w.alloc _ = wa
 obtain ⟨hba, _⟩ := box5 hwa
 have hsa : wa.heap.size = w.heap.size + 1 := by rw [← hwa]; simp
 have hra : Blk wa w.heap.size [.int .i64 0, .int .i64 0, .int .i64 0, .int .i64 0, .int .i64 0] := by rw [← hwa]; exact Blk.new w _ _
 generalize hwb : wa.alloc _ = wb
 have hxb : Blk wb (w.heap.size + 1) [.int .i64 (op : Int), .int .i64 0, .int .i64 0, .int .i64 0, .int .i64 0] := by rw [← hwb, ← hsa]; exact Blk.new wa _ _
 have hbb : Below wa.heap.size wa wb := by rw [← hwb]; exact below1 _ _
 have hrb := hra.below hbb
 refine (HW.out wb).mono ?_
 rintro e w2 ⟨rfl, hb2⟩
 have HRB := Lib.hid (hrb.below hb2)
 have HXB := Lib.hid (hxb.below hb2)
 have HB2 := Lib.hid ((hba.trans (hbb.mono hba.size)).trans (hb2.mono (by have := hbb.size; omega)))
 clear hwa hba hsa hra hwb hxb hbb hrb hb2 HW c1 e1 e2 k1
 have HRB2 := HRB; have HXB2 := HXB
 clear HRB HXB
 obtain ⟨x0, x1, x2, x3, x4⟩ := HXB2.out.five
 go_wp2_with (fail)
 go_at_call 138
 refine (HS.out w2).mono ?_
 rintro e w3 ⟨rfl, hb3⟩
 have HRB3 := Lib.hid (HRB2.out.below hb3)
 have HXB3 := Lib.hid (HXB2.out.below hb3)
 have HB3 := Lib.hid (HB2.out.trans (hb3.mono HB2.out.size))
 clear hb3 x0 x1 x2 x3 x4 HRB2 HXB2 HB2
 obtain ⟨x0, x1, x2, x3, x4⟩ := HXB3.out.five
 go_wp2_with (fail)
 go_at_call 116
 refine (HJ.out w3).mono ?_
 rintro e w4 ⟨rfl, hb4⟩
 have HRB4 := Lib.hid (HRB3.out.below hb4)
 have HXB4 := Lib.hid (HXB3.out.below hb4)
 have HB4 := Lib.hid (HB3.out.trans (hb4.mono HB3.out.size))
 clear hb4 x0 x1 x2 x3 x4 HRB3 HXB3 HB3
 obtain ⟨x0, x1, x2, x3, x4⟩ := HXB4.out.five
 have a1 : (at_ : Int) + 1 < L := by omega
 have t1 := cellB HB4.out g1
 have p0 : (0 : Int) ≤ q1 := by omega
 have p1 : (q1 : Int) ≤ 255 := by omega
 have a2 : (at_ : Int) + 2 < L := by omega
 have t2 := cellB HB4.out g2
 have p2 : (0 : Int) ≤ q2 := by omega
 have p3 : (q2 : Int) ≤ 255 := by omega
 have xf := HXB4.out.frozen
 have xf1 := xf 1; have xf2 := xf 2; have xf3 := xf 3; have xf4 := xf 4
 clear xf g1 g2
 obtain ⟨r0, r1, r2, r3, r4⟩ := HRB4.out.five
 have rf := HRB4.out.frozen
 have rf0 := rf 0; have rf1 := rf 1; have rf2 := rf 2; have rf3 := rf 3; have rf4 := rf 4
 clear rf
 go_wp2_with (fail)
 refine bodyPost_ret (v := .tuple #[.agg #[.int .i64 (op : Int), .int .i64 (q1 : Int), .int .i64 0, .int .i64 0, .int .i64 (q2 : Int)], .int .i64 (n : Int), .bool true]) (by simp [results, Tryd.results115, go_sem, r0, r1, r2, r3, r4]) rfl ?_
 refine HQ.out _ ?_
 exact ((((((HB4.out.setCell (p := ⟨w.heap.size + 1, 1, none⟩) (by simp) _).setCell (p := ⟨w.heap.size + 1, 4, none⟩) (by simp) _).setCell (p := ⟨w.heap.size, 0, none⟩) (by simp) _).setCell (p := ⟨w.heap.size, 1, none⟩) (by simp) _).setCell (p := ⟨w.heap.size, 2, none⟩) (by simp) _).setCell (p := ⟨w.heap.size, 3, none⟩) (by simp) _).setCell (p := ⟨w.heap.size, 4, none⟩) (by simp) _
set_option maxHeartbeats 4000000 in
theorem one_f (w : World) (b off cap : Nat) (at_ : Nat) (L q op : Nat)  (Q : Ending → World → Prop) (hL2 : L ≤ 1048576) (hlt : at_ < L)
  (hq : q < 256) (hop : op = q % 128) (hlg : false = decide (128 ≤ q)) (c0 : w.cell? ⟨b, off + at_, none⟩ = some (.int .u8 (q : Int))) (h1 : 1 ≤ op) (h2 : op ≤ 22) (n : Nat) (hn : n = sizO op false) (hjp : jmpN op = false) (hfit : at_ + n ≤ L) (hop2 : 15 ≤ op ∧ op ≤ 18) (hbl : b < w.heap.size) (q1 q2 : Nat) (hq1 : q1 < 256) (hq2 : q2 < 256) (g1 : w.cell? ⟨b, off + (at_ + 1), none⟩ = some (.int .u8 (q1 : Int))) (hat2 : at_ + 2 < L) (g2 : w.cell? ⟨b, off + (at_ + 2), none⟩ = some (.int .u8 (q2 : Int)))
  (hQ : ∀ w', Below w.heap.size w w' → Q (.returned (.tuple #[.agg #[.int .i64 (op : Int), .int .i64 (q1 : Int), .int .i64 0, .int .i64 0, .int .i64 (q2 : Int)], .int .i64 (n : Int), .bool true])) w') :
  Calls Tryd.prog 115 #[.slice (some ⟨b, off, none⟩) L cap, .int .i64 (at_ : Int)] w Q := by
 have HS := Lib.hid (fun w' => ssize0 w' op h1 h2 false)
 have hn4 := (sizO_le op false)
 rw [← hn] at HS hn4
 obtain ⟨hn2, hn4⟩ := hn4
 have HQ := Lib.hid hQ
 have n0 : (0 : Int) ≤ n := by omega
 have n4 : (n : Int) ≤ 4 := by omega
 have m0 : (L : Int) ≤ 1048576 := by omega
 clear hQ hn
 have ft : (at_ : Int) + n ≤ L := by omega
 have hne : ¬ (w.heap.size + 1 = b) := by omega
 have hnx : ¬ (b = w.heap.size + 1) := by omega
 have b1 : ((op : Int) == 1) = false := by simp; omega
 have HI0 := Lib.hid (fun w' => l1In_named (op : Int) 15 18 true (by simp [inR]; omega) w')
 clear hop2
 have k0 : (0 : Int) ≤ at_ := by omega
 have k1 : (at_ : Int) < L := by omega
 have e1 : decide ((128 : Int) ≤ (q : Int)) = false := by rw [hlg]; rw [Bool.eq_iff_iff]; simp at hlg ⊢; omega
 have e2 : (q : Int) % 128 = (op : Int) := by omega
 have c1 := fun o => cellB (below1 w o) c0
 have HC0 := Lib.hid c0
 have HW := Lib.hid (fun w' => l22Word_any w' (op : Int))
 unfold WordPost at HW
 have HFN := Lib.hid (fieldStr_ne op h1 h2)
 rw [show opIn (op : Int) = true from inR_iff.mpr ⟨by omega, by omega⟩] at HW
 simp only [if_true] at HW
 generalize nameOf (op : Int) = nm at HW
 generalize fieldStr (op : Int) = fm at HW HFN
 have hfn := HFN.out
 have HJ := Lib.hid (fun w' => sjump_any w' op 0 0 0 0)
 rw [hjp] at HJ
 clear hjp HFN
 clear c0 hlg hop
 go_enter Tryd.func115, Tryd.ntmps115
 go_wp2_with (fail)
 go_at_call 130
 generalize hwa : w.alloc _ = wa
 obtain ⟨hba, _⟩ := box5 hwa
 have hsa : wa.heap.size = w.heap.size + 1 := by rw [← hwa]; simp
 have hra : Blk wa w.heap.size [.int .i64 0, .int .i64 0, .int .i64 0, .int .i64 0, .int .i64 0] := by rw [← hwa]; exact Blk.new w _ _
 generalize hwb : wa.alloc _ = wb
 have hxb : Blk wb (w.heap.size + 1) [.int .i64 (op : Int), .int .i64 0, .int .i64 0, .int .i64 0, .int .i64 0] := by rw [← hwb, ← hsa]; exact Blk.new wa _ _
 have hbb : Below wa.heap.size wa wb := by rw [← hwb]; exact below1 _ _
 have hrb := hra.below hbb
 refine (HW.out wb).mono ?_
 rintro e w2 ⟨rfl, hb2⟩
 have HRB := Lib.hid (hrb.below hb2)
 have HXB := Lib.hid (hxb.below hb2)
 have HB2 := Lib.hid ((hba.trans (hbb.mono hba.size)).trans (hb2.mono (by have := hbb.size; omega)))
 clear hwa hba hsa hra hwb hxb hbb hrb hb2 HW c1 e1 e2 k1
 have HRB2 := HRB; have HXB2 := HXB
 clear HRB HXB
 obtain ⟨x0, x1, x2, x3, x4⟩ := HXB2.out.five
 go_wp2_with (fail)
 go_at_call 138
 refine (HS.out w2).mono ?_
 rintro e w3 ⟨rfl, hb3⟩
 have HRB3 := Lib.hid (HRB2.out.below hb3)
 have HXB3 := Lib.hid (HXB2.out.below hb3)
 have HB3 := Lib.hid (HB2.out.trans (hb3.mono HB2.out.size))
 clear hb3 x0 x1 x2 x3 x4 HRB2 HXB2 HB2
 obtain ⟨x0, x1, x2, x3, x4⟩ := HXB3.out.five
 go_wp2_with (fail)
 go_at_call 116
 refine (HJ.out w3).mono ?_
 rintro e w4 ⟨rfl, hb4⟩
 have HRB4 := Lib.hid (HRB3.out.below hb4)
 have HXB4 := Lib.hid (HXB3.out.below hb4)
 have HB4 := Lib.hid (HB3.out.trans (hb4.mono HB3.out.size))
 clear hb4 x0 x1 x2 x3 x4 HRB3 HXB3 HB3
 obtain ⟨x0, x1, x2, x3, x4⟩ := HXB4.out.five
 go_wp2_with (fail)
 go_at_call 61
 refine (HI0.out _).mono ?_
 rintro e _ ⟨rfl, rfl⟩
 clear HI0
 have a1 : (at_ : Int) + 1 < L := by omega
 have t1 := cellB HB4.out g1
 have p0 : (0 : Int) ≤ q1 := by omega
 have p1 : (q1 : Int) ≤ 255 := by omega
 have a2 : (at_ : Int) + 2 < L := by omega
 have t2 := cellB HB4.out g2
 have p2 : (0 : Int) ≤ q2 := by omega
 have p3 : (q2 : Int) ≤ 255 := by omega
 have xf := HXB4.out.frozen
 have xf1 := xf 1; have xf2 := xf 2; have xf3 := xf 3; have xf4 := xf 4
 clear xf g1 g2
 obtain ⟨r0, r1, r2, r3, r4⟩ := HRB4.out.five
 have rf := HRB4.out.frozen
 have rf0 := rf 0; have rf1 := rf 1; have rf2 := rf 2; have rf3 := rf 3; have rf4 := rf 4
 clear rf
 go_wp2_with (fail)
 refine bodyPost_ret (v := .tuple #[.agg #[.int .i64 (op : Int), .int .i64 (q1 : Int), .int .i64 0, .int .i64 0, .int .i64 (q2 : Int)], .int .i64 (n : Int), .bool true]) (by simp [results, Tryd.results115, go_sem, r0, r1, r2, r3, r4]) rfl ?_
 refine HQ.out _ ?_
 exact ((((((HB4.out.setCell (p := ⟨w.heap.size + 1, 1, none⟩) (by simp) _).setCell (p := ⟨w.heap.size + 1, 4, none⟩) (by simp) _).setCell (p := ⟨w.heap.size, 0, none⟩) (by simp) _).setCell (p := ⟨w.heap.size, 1, none⟩) (by simp) _).setCell (p := ⟨w.heap.size, 2, none⟩) (by simp) _).setCell (p := ⟨w.heap.size, 3, none⟩) (by simp) _).setCell (p := ⟨w.heap.size, 4, none⟩) (by simp) _
set_option maxHeartbeats 4000000 in
theorem one_g (w : World) (b off cap : Nat) (at_ : Nat) (L q op : Nat)  (Q : Ending → World → Prop) (hL2 : L ≤ 1048576) (hlt : at_ < L)
  (hq : q < 256) (hop : op = q % 128) (hlg : false = decide (128 ≤ q)) (c0 : w.cell? ⟨b, off + at_, none⟩ = some (.int .u8 (q : Int))) (h1 : 1 ≤ op) (h2 : op ≤ 22) (n : Nat) (hn : n = sizO op false) (hjp : jmpN op = false) (hfit : at_ + n ≤ L) (hop2 : 3 ≤ op ∧ op ≤ 9) (hbl : b < w.heap.size) (q1 q2 : Nat) (hq1 : q1 < 256) (hq2 : q2 < 256) (g1 : w.cell? ⟨b, off + (at_ + 1), none⟩ = some (.int .u8 (q1 : Int))) (hat2 : at_ + 2 < L) (g2 : w.cell? ⟨b, off + (at_ + 2), none⟩ = some (.int .u8 (q2 : Int)))
  (hQ : ∀ w', Below w.heap.size w w' → Q (.returned (.tuple #[.agg #[.int .i64 (op : Int), .int .i64 ((q1 : Int) % 8), .int .i64 ((q1 : Int) / 8), .int .i64 (q2 : Int), .int .i64 0], .int .i64 (n : Int), .bool true])) w') :
  Calls Tryd.prog 115 #[.slice (some ⟨b, off, none⟩) L cap, .int .i64 (at_ : Int)] w Q := by
 have HS := Lib.hid (fun w' => ssize0 w' op h1 h2 false)
 have hn4 := (sizO_le op false)
 rw [← hn] at HS hn4
 obtain ⟨hn2, hn4⟩ := hn4
 have HQ := Lib.hid hQ
 have n0 : (0 : Int) ≤ n := by omega
 have n4 : (n : Int) ≤ 4 := by omega
 have m0 : (L : Int) ≤ 1048576 := by omega
 clear hQ hn
 have ft : (at_ : Int) + n ≤ L := by omega
 have hne : ¬ (w.heap.size + 1 = b) := by omega
 have hnx : ¬ (b = w.heap.size + 1) := by omega
 have b1 : ((op : Int) == 1) = false := by simp; omega
 have HI0 := Lib.hid (fun w' => l1In_named (op : Int) 15 18 false (by simp [inR]; omega) w')
 have HI1 := Lib.hid (fun w' => l1In_named (op : Int) 3 9 true (by simp [inR]; omega) w')
 clear hop2
 have k0 : (0 : Int) ≤ at_ := by omega
 have k1 : (at_ : Int) < L := by omega
 have e1 : decide ((128 : Int) ≤ (q : Int)) = false := by rw [hlg]; rw [Bool.eq_iff_iff]; simp at hlg ⊢; omega
 have e2 : (q : Int) % 128 = (op : Int) := by omega
 have c1 := fun o => cellB (below1 w o) c0
 have HC0 := Lib.hid c0
 have HW := Lib.hid (fun w' => l22Word_any w' (op : Int))
 unfold WordPost at HW
 have HFN := Lib.hid (fieldStr_ne op h1 h2)
 rw [show opIn (op : Int) = true from inR_iff.mpr ⟨by omega, by omega⟩] at HW
 simp only [if_true] at HW
 generalize nameOf (op : Int) = nm at HW
 generalize fieldStr (op : Int) = fm at HW HFN
 have hfn := HFN.out
 have HJ := Lib.hid (fun w' => sjump_any w' op 0 0 0 0)
 rw [hjp] at HJ
 clear hjp HFN
 clear c0 hlg hop
 go_enter Tryd.func115, Tryd.ntmps115
 go_wp2_with (fail)
 go_at_call 130
 generalize hwa : w.alloc _ = wa
 obtain ⟨hba, _⟩ := box5 hwa
 have hsa : wa.heap.size = w.heap.size + 1 := by rw [← hwa]; simp
 have hra : Blk wa w.heap.size [.int .i64 0, .int .i64 0, .int .i64 0, .int .i64 0, .int .i64 0] := by rw [← hwa]; exact Blk.new w _ _
 generalize hwb : wa.alloc _ = wb
 have hxb : Blk wb (w.heap.size + 1) [.int .i64 (op : Int), .int .i64 0, .int .i64 0, .int .i64 0, .int .i64 0] := by rw [← hwb, ← hsa]; exact Blk.new wa _ _
 have hbb : Below wa.heap.size wa wb := by rw [← hwb]; exact below1 _ _
 have hrb := hra.below hbb
 refine (HW.out wb).mono ?_
 rintro e w2 ⟨rfl, hb2⟩
 have HRB := Lib.hid (hrb.below hb2)
 have HXB := Lib.hid (hxb.below hb2)
 have HB2 := Lib.hid ((hba.trans (hbb.mono hba.size)).trans (hb2.mono (by have := hbb.size; omega)))
 clear hwa hba hsa hra hwb hxb hbb hrb hb2 HW c1 e1 e2 k1
 have HRB2 := HRB; have HXB2 := HXB
 clear HRB HXB
 obtain ⟨x0, x1, x2, x3, x4⟩ := HXB2.out.five
 go_wp2_with (fail)
 go_at_call 138
 refine (HS.out w2).mono ?_
 rintro e w3 ⟨rfl, hb3⟩
 have HRB3 := Lib.hid (HRB2.out.below hb3)
 have HXB3 := Lib.hid (HXB2.out.below hb3)
 have HB3 := Lib.hid (HB2.out.trans (hb3.mono HB2.out.size))
 clear hb3 x0 x1 x2 x3 x4 HRB2 HXB2 HB2
 obtain ⟨x0, x1, x2, x3, x4⟩ := HXB3.out.five
 go_wp2_with (fail)
 go_at_call 116
 refine (HJ.out w3).mono ?_
 rintro e w4 ⟨rfl, hb4⟩
 have HRB4 := Lib.hid (HRB3.out.below hb4)
 have HXB4 := Lib.hid (HXB3.out.below hb4)
 have HB4 := Lib.hid (HB3.out.trans (hb4.mono HB3.out.size))
 clear hb4 x0 x1 x2 x3 x4 HRB3 HXB3 HB3
 obtain ⟨x0, x1, x2, x3, x4⟩ := HXB4.out.five
 go_wp2_with (fail)
 go_at_call 61
 refine (HI0.out _).mono ?_
 rintro e _ ⟨rfl, rfl⟩
 clear HI0
 go_wp2_with (fail)
 go_at_call 61
 refine (HI1.out _).mono ?_
 rintro e _ ⟨rfl, rfl⟩
 clear HI1
 have a1 : (at_ : Int) + 1 < L := by omega
 have t1 := cellB HB4.out g1
 have p0 : (0 : Int) ≤ q1 := by omega
 have p1 : (q1 : Int) ≤ 255 := by omega
 have a2 : (at_ : Int) + 2 < L := by omega
 have t2 := cellB HB4.out g2
 have p2 : (0 : Int) ≤ q2 := by omega
 have p3 : (q2 : Int) ≤ 255 := by omega
 have xf := HXB4.out.frozen
 have xf1 := xf 1; have xf2 := xf 2; have xf3 := xf 3; have xf4 := xf 4
 clear xf g1 g2
 obtain ⟨r0, r1, r2, r3, r4⟩ := HRB4.out.five
 have rf := HRB4.out.frozen
 have rf0 := rf 0; have rf1 := rf 1; have rf2 := rf 2; have rf3 := rf 3; have rf4 := rf 4
 clear rf
 go_wp2_with (fail)
 refine bodyPost_ret (v := .tuple #[.agg #[.int .i64 (op : Int), .int .i64 ((q1 : Int) % 8), .int .i64 ((q1 : Int) / 8), .int .i64 (q2 : Int), .int .i64 0], .int .i64 (n : Int), .bool true]) (by simp [results, Tryd.results115, go_sem, r0, r1, r2, r3, r4]) rfl ?_
 refine HQ.out _ ?_
 exact (((((((HB4.out.setCell (p := ⟨w.heap.size + 1, 1, none⟩) (by simp) _).setCell (p := ⟨w.heap.size + 1, 2, none⟩) (by simp) _).setCell (p := ⟨w.heap.size + 1, 3, none⟩) (by simp) _).setCell (p := ⟨w.heap.size, 0, none⟩) (by simp) _).setCell (p := ⟨w.heap.size, 1, none⟩) (by simp) _).setCell (p := ⟨w.heap.size, 2, none⟩) (by simp) _).setCell (p := ⟨w.heap.size, 3, none⟩) (by simp) _).setCell (p := ⟨w.heap.size, 4, none⟩) (by simp) _
set_option maxHeartbeats 4000000 in
theorem one_h (w : World) (b off cap : Nat) (at_ : Nat) (L q op : Nat)  (Q : Ending → World → Prop) (hL2 : L ≤ 1048576) (hlt : at_ < L)
  (hq : q < 256) (hop : op = q % 128) (hlg : false = decide (128 ≤ q)) (c0 : w.cell? ⟨b, off + at_, none⟩ = some (.int .u8 (q : Int))) (h1 : 1 ≤ op) (h2 : op ≤ 22) (n : Nat) (hn : n = sizO op false) (hjp : jmpN op = false) (hfit : at_ + n ≤ L) (hop2 : op = 2) (hbl : b < w.heap.size) (q1 : Nat) (hq1 : q1 < 256) (g1 : w.cell? ⟨b, off + (at_ + 1), none⟩ = some (.int .u8 (q1 : Int)))
  (hQ : ∀ w', Below w.heap.size w w' → Q (.returned (.tuple #[.agg #[.int .i64 (op : Int), .int .i64 ((q1 : Int) % 8), .int .i64 ((q1 : Int) / 8), .int .i64 0, .int .i64 0], .int .i64 (n : Int), .bool true])) w') :
  Calls Tryd.prog 115 #[.slice (some ⟨b, off, none⟩) L cap, .int .i64 (at_ : Int)] w Q := by
 have HS := Lib.hid (fun w' => ssize0 w' op h1 h2 false)
 have hn4 := (sizO_le op false)
 rw [← hn] at HS hn4
 obtain ⟨hn2, hn4⟩ := hn4
 have HQ := Lib.hid hQ
 have n0 : (0 : Int) ≤ n := by omega
 have n4 : (n : Int) ≤ 4 := by omega
 have m0 : (L : Int) ≤ 1048576 := by omega
 clear hQ hn
 have ft : (at_ : Int) + n ≤ L := by omega
 have hne : ¬ (w.heap.size + 1 = b) := by omega
 have hnx : ¬ (b = w.heap.size + 1) := by omega
 have b1 : ((op : Int) == 1) = false := by simp; omega
 have b2 : ((op : Int) == 2) = true := by simp; omega
 have HI0 := Lib.hid (fun w' => l1In_named (op : Int) 15 18 false (by simp [inR]; omega) w')
 have HI1 := Lib.hid (fun w' => l1In_named (op : Int) 3 9 false (by simp [inR]; omega) w')
 clear hop2
 have k0 : (0 : Int) ≤ at_ := by omega
 have k1 : (at_ : Int) < L := by omega
 have e1 : decide ((128 : Int) ≤ (q : Int)) = false := by rw [hlg]; rw [Bool.eq_iff_iff]; simp at hlg ⊢; omega
 have e2 : (q : Int) % 128 = (op : Int) := by omega
 have c1 := fun o => cellB (below1 w o) c0
 have HC0 := Lib.hid c0
 have HW := Lib.hid (fun w' => l22Word_any w' (op : Int))
 unfold WordPost at HW
 have HFN := Lib.hid (fieldStr_ne op h1 h2)
 rw [show opIn (op : Int) = true from inR_iff.mpr ⟨by omega, by omega⟩] at HW
 simp only [if_true] at HW
 generalize nameOf (op : Int) = nm at HW
 generalize fieldStr (op : Int) = fm at HW HFN
 have hfn := HFN.out
 have HJ := Lib.hid (fun w' => sjump_any w' op 0 0 0 0)
 rw [hjp] at HJ
 clear hjp HFN
 clear c0 hlg hop
 go_enter Tryd.func115, Tryd.ntmps115
 go_wp2_with (fail)
 go_at_call 130
 generalize hwa : w.alloc _ = wa
 obtain ⟨hba, _⟩ := box5 hwa
 have hsa : wa.heap.size = w.heap.size + 1 := by rw [← hwa]; simp
 have hra : Blk wa w.heap.size [.int .i64 0, .int .i64 0, .int .i64 0, .int .i64 0, .int .i64 0] := by rw [← hwa]; exact Blk.new w _ _
 generalize hwb : wa.alloc _ = wb
 have hxb : Blk wb (w.heap.size + 1) [.int .i64 (op : Int), .int .i64 0, .int .i64 0, .int .i64 0, .int .i64 0] := by rw [← hwb, ← hsa]; exact Blk.new wa _ _
 have hbb : Below wa.heap.size wa wb := by rw [← hwb]; exact below1 _ _
 have hrb := hra.below hbb
 refine (HW.out wb).mono ?_
 rintro e w2 ⟨rfl, hb2⟩
 have HRB := Lib.hid (hrb.below hb2)
 have HXB := Lib.hid (hxb.below hb2)
 have HB2 := Lib.hid ((hba.trans (hbb.mono hba.size)).trans (hb2.mono (by have := hbb.size; omega)))
 clear hwa hba hsa hra hwb hxb hbb hrb hb2 HW c1 e1 e2 k1
 have HRB2 := HRB; have HXB2 := HXB
 clear HRB HXB
 obtain ⟨x0, x1, x2, x3, x4⟩ := HXB2.out.five
 go_wp2_with (fail)
 go_at_call 138
 refine (HS.out w2).mono ?_
 rintro e w3 ⟨rfl, hb3⟩
 have HRB3 := Lib.hid (HRB2.out.below hb3)
 have HXB3 := Lib.hid (HXB2.out.below hb3)
 have HB3 := Lib.hid (HB2.out.trans (hb3.mono HB2.out.size))
 clear hb3 x0 x1 x2 x3 x4 HRB2 HXB2 HB2
 obtain ⟨x0, x1, x2, x3, x4⟩ := HXB3.out.five
 go_wp2_with (fail)
 go_at_call 116
 refine (HJ.out w3).mono ?_
 rintro e w4 ⟨rfl, hb4⟩
 have HRB4 := Lib.hid (HRB3.out.below hb4)
 have HXB4 := Lib.hid (HXB3.out.below hb4)
 have HB4 := Lib.hid (HB3.out.trans (hb4.mono HB3.out.size))
 clear hb4 x0 x1 x2 x3 x4 HRB3 HXB3 HB3
 obtain ⟨x0, x1, x2, x3, x4⟩ := HXB4.out.five
 go_wp2_with (fail)
 go_at_call 61
 refine (HI0.out _).mono ?_
 rintro e _ ⟨rfl, rfl⟩
 clear HI0
 go_wp2_with (fail)
 go_at_call 61
 refine (HI1.out _).mono ?_
 rintro e _ ⟨rfl, rfl⟩
 clear HI1
 have a1 : (at_ : Int) + 1 < L := by omega
 have t1 := cellB HB4.out g1
 have p0 : (0 : Int) ≤ q1 := by omega
 have p1 : (q1 : Int) ≤ 255 := by omega
 have xf := HXB4.out.frozen
 have xf1 := xf 1; have xf2 := xf 2; have xf3 := xf 3; have xf4 := xf 4
 clear xf g1
 obtain ⟨r0, r1, r2, r3, r4⟩ := HRB4.out.five
 have rf := HRB4.out.frozen
 have rf0 := rf 0; have rf1 := rf 1; have rf2 := rf 2; have rf3 := rf 3; have rf4 := rf 4
 clear rf
 go_wp2_with (fail)
 refine bodyPost_ret (v := .tuple #[.agg #[.int .i64 (op : Int), .int .i64 ((q1 : Int) % 8), .int .i64 ((q1 : Int) / 8), .int .i64 0, .int .i64 0], .int .i64 (n : Int), .bool true]) (by simp [results, Tryd.results115, go_sem, r0, r1, r2, r3, r4]) rfl ?_
 refine HQ.out _ ?_
 exact ((((((HB4.out.setCell (p := ⟨w.heap.size + 1, 1, none⟩) (by simp) _).setCell (p := ⟨w.heap.size + 1, 2, none⟩) (by simp) _).setCell (p := ⟨w.heap.size, 0, none⟩) (by simp) _).setCell (p := ⟨w.heap.size, 1, none⟩) (by simp) _).setCell (p := ⟨w.heap.size, 2, none⟩) (by simp) _).setCell (p := ⟨w.heap.size, 3, none⟩) (by simp) _).setCell (p := ⟨w.heap.size, 4, none⟩) (by simp) _
set_option maxHeartbeats 4000000 in
theorem one_i (w : World) (b off cap : Nat) (at_ : Nat) (L q op : Nat)  (Q : Ending → World → Prop) (hL2 : L ≤ 1048576) (hlt : at_ < L)
  (hq : q < 256) (hop : op = q % 128) (hlg : false = decide (128 ≤ q)) (c0 : w.cell? ⟨b, off + at_, none⟩ = some (.int .u8 (q : Int))) (h1 : 1 ≤ op) (h2 : op ≤ 22) (n : Nat) (hn : n = sizO op false) (hjp : jmpN op = false) (hfit : at_ + n ≤ L) (hop2 : 10 ≤ op ∧ op ≤ 12) (hbl : b < w.heap.size) (q1 : Nat) (hq1 : q1 < 256) (g1 : w.cell? ⟨b, off + (at_ + 1), none⟩ = some (.int .u8 (q1 : Int)))
  (hQ : ∀ w', Below w.heap.size w w' → Q (.returned (.tuple #[.agg #[.int .i64 (op : Int), .int .i64 ((q1 : Int) % 8), .int .i64 ((q1 : Int) / 8), .int .i64 0, .int .i64 0], .int .i64 (n : Int), .bool true])) w') :
  Calls Tryd.prog 115 #[.slice (some ⟨b, off, none⟩) L cap, .int .i64 (at_ : Int)] w Q := by
 have HS := Lib.hid (fun w' => ssize0 w' op h1 h2 false)
 have hn4 := (sizO_le op false)
 rw [← hn] at HS hn4
 obtain ⟨hn2, hn4⟩ := hn4
 have HQ := Lib.hid hQ
 have n0 : (0 : Int) ≤ n := by omega
 have n4 : (n : Int) ≤ 4 := by omega
 have m0 : (L : Int) ≤ 1048576 := by omega
 clear hQ hn
 have ft : (at_ : Int) + n ≤ L := by omega
 have hne : ¬ (w.heap.size + 1 = b) := by omega
 have hnx : ¬ (b = w.heap.size + 1) := by omega
 have b1 : ((op : Int) == 1) = false := by simp; omega
 have b2 : ((op : Int) == 2) = false := by simp; omega
 have HI0 := Lib.hid (fun w' => l1In_named (op : Int) 15 18 false (by simp [inR]; omega) w')
 have HI1 := Lib.hid (fun w' => l1In_named (op : Int) 3 9 false (by simp [inR]; omega) w')
 have HI2 := Lib.hid (fun w' => l1In_named (op : Int) 10 12 true (by simp [inR]; omega) w')
 clear hop2
 have k0 : (0 : Int) ≤ at_ := by omega
 have k1 : (at_ : Int) < L := by omega
 have e1 : decide ((128 : Int) ≤ (q : Int)) = false := by rw [hlg]; rw [Bool.eq_iff_iff]; simp at hlg ⊢; omega
 have e2 : (q : Int) % 128 = (op : Int) := by omega
 have c1 := fun o => cellB (below1 w o) c0
 have HC0 := Lib.hid c0
 have HW := Lib.hid (fun w' => l22Word_any w' (op : Int))
 unfold WordPost at HW
 have HFN := Lib.hid (fieldStr_ne op h1 h2)
 rw [show opIn (op : Int) = true from inR_iff.mpr ⟨by omega, by omega⟩] at HW
 simp only [if_true] at HW
 generalize nameOf (op : Int) = nm at HW
 generalize fieldStr (op : Int) = fm at HW HFN
 have hfn := HFN.out
 have HJ := Lib.hid (fun w' => sjump_any w' op 0 0 0 0)
 rw [hjp] at HJ
 clear hjp HFN
 clear c0 hlg hop
 go_enter Tryd.func115, Tryd.ntmps115
 go_wp2_with (fail)
 go_at_call 130
 generalize hwa : w.alloc _ = wa
 obtain ⟨hba, _⟩ := box5 hwa
 have hsa : wa.heap.size = w.heap.size + 1 := by rw [← hwa]; simp
 have hra : Blk wa w.heap.size [.int .i64 0, .int .i64 0, .int .i64 0, .int .i64 0, .int .i64 0] := by rw [← hwa]; exact Blk.new w _ _
 generalize hwb : wa.alloc _ = wb
 have hxb : Blk wb (w.heap.size + 1) [.int .i64 (op : Int), .int .i64 0, .int .i64 0, .int .i64 0, .int .i64 0] := by rw [← hwb, ← hsa]; exact Blk.new wa _ _
 have hbb : Below wa.heap.size wa wb := by rw [← hwb]; exact below1 _ _
 have hrb := hra.below hbb
 refine (HW.out wb).mono ?_
 rintro e w2 ⟨rfl, hb2⟩
 have HRB := Lib.hid (hrb.below hb2)
 have HXB := Lib.hid (hxb.below hb2)
 have HB2 := Lib.hid ((hba.trans (hbb.mono hba.size)).trans (hb2.mono (by have := hbb.size; omega)))
 clear hwa hba hsa hra hwb hxb hbb hrb hb2 HW c1 e1 e2 k1
 have HRB2 := HRB; have HXB2 := HXB
 clear HRB HXB
 obtain ⟨x0, x1, x2, x3, x4⟩ := HXB2.out.five
 go_wp2_with (fail)
 go_at_call 138
 refine (HS.out w2).mono ?_
 rintro e w3 ⟨rfl, hb3⟩
 have HRB3 := Lib.hid (HRB2.out.below hb3)
 have HXB3 := Lib.hid (HXB2.out.below hb3)
 have HB3 := Lib.hid (HB2.out.trans (hb3.mono HB2.out.size))
 clear hb3 x0 x1 x2 x3 x4 HRB2 HXB2 HB2
 obtain ⟨x0, x1, x2, x3, x4⟩ := HXB3.out.five
 go_wp2_with (fail)
 go_at_call 116
 refine (HJ.out w3).mono ?_
 rintro e w4 ⟨rfl, hb4⟩
 have HRB4 := Lib.hid (HRB3.out.below hb4)
 have HXB4 := Lib.hid (HXB3.out.below hb4)
 have HB4 := Lib.hid (HB3.out.trans (hb4.mono HB3.out.size))
 clear hb4 x0 x1 x2 x3 x4 HRB3 HXB3 HB3
 obtain ⟨x0, x1, x2, x3, x4⟩ := HXB4.out.five
 go_wp2_with (fail)
 go_at_call 61
 refine (HI0.out _).mono ?_
 rintro e _ ⟨rfl, rfl⟩
 clear HI0
 go_wp2_with (fail)
 go_at_call 61
 refine (HI1.out _).mono ?_
 rintro e _ ⟨rfl, rfl⟩
 clear HI1
 go_wp2_with (fail)
 go_at_call 61
 refine (HI2.out _).mono ?_
 rintro e _ ⟨rfl, rfl⟩
 clear HI2
 have a1 : (at_ : Int) + 1 < L := by omega
 have t1 := cellB HB4.out g1
 have p0 : (0 : Int) ≤ q1 := by omega
 have p1 : (q1 : Int) ≤ 255 := by omega
 have xf := HXB4.out.frozen
 have xf1 := xf 1; have xf2 := xf 2; have xf3 := xf 3; have xf4 := xf 4
 clear xf g1
 obtain ⟨r0, r1, r2, r3, r4⟩ := HRB4.out.five
 have rf := HRB4.out.frozen
 have rf0 := rf 0; have rf1 := rf 1; have rf2 := rf 2; have rf3 := rf 3; have rf4 := rf 4
 clear rf
 go_wp2_with (fail)
 refine bodyPost_ret (v := .tuple #[.agg #[.int .i64 (op : Int), .int .i64 ((q1 : Int) % 8), .int .i64 ((q1 : Int) / 8), .int .i64 0, .int .i64 0], .int .i64 (n : Int), .bool true]) (by simp [results, Tryd.results115, go_sem, r0, r1, r2, r3, r4]) rfl ?_
 refine HQ.out _ ?_
 exact ((((((HB4.out.setCell (p := ⟨w.heap.size + 1, 1, none⟩) (by simp) _).setCell (p := ⟨w.heap.size + 1, 2, none⟩) (by simp) _).setCell (p := ⟨w.heap.size, 0, none⟩) (by simp) _).setCell (p := ⟨w.heap.size, 1, none⟩) (by simp) _).setCell (p := ⟨w.heap.size, 2, none⟩) (by simp) _).setCell (p := ⟨w.heap.size, 3, none⟩) (by simp) _).setCell (p := ⟨w.heap.size, 4, none⟩) (by simp) _
set_option maxHeartbeats 4000000 in
theorem one_j (w : World) (b off cap : Nat) (at_ : Nat) (L q op : Nat)  (Q : Ending → World → Prop) (hL2 : L ≤ 1048576) (hlt : at_ < L)
  (hq : q < 256) (hop : op = q % 128) (hlg : false = decide (128 ≤ q)) (c0 : w.cell? ⟨b, off + at_, none⟩ = some (.int .u8 (q : Int))) (h1 : 1 ≤ op) (h2 : op ≤ 22) (n : Nat) (hn : n = sizO op false) (hjp : jmpN op = false) (hfit : at_ + n ≤ L) (hop2 : op = 14) (hbl : b < w.heap.size) (q1 : Nat) (hq1 : q1 < 256) (g1 : w.cell? ⟨b, off + (at_ + 1), none⟩ = some (.int .u8 (q1 : Int)))
  (hQ : ∀ w', Below w.heap.size w w' → Q (.returned (.tuple #[.agg #[.int .i64 (op : Int), .int .i64 0, .int .i64 0, .int .i64 0, .int .i64 (q1 : Int)], .int .i64 (n : Int), .bool true])) w') :
  Calls Tryd.prog 115 #[.slice (some ⟨b, off, none⟩) L cap, .int .i64 (at_ : Int)] w Q := by
 have HS := Lib.hid (fun w' => ssize0 w' op h1 h2 false)
 have hn4 := (sizO_le op false)
 rw [← hn] at HS hn4
 obtain ⟨hn2, hn4⟩ := hn4
 have HQ := Lib.hid hQ
 have n0 : (0 : Int) ≤ n := by omega
 have n4 : (n : Int) ≤ 4 := by omega
 have m0 : (L : Int) ≤ 1048576 := by omega
 clear hQ hn
 have ft : (at_ : Int) + n ≤ L := by omega
 have hne : ¬ (w.heap.size + 1 = b) := by omega
 have hnx : ¬ (b = w.heap.size + 1) := by omega
 have b1 : ((op : Int) == 1) = false := by simp; omega
 have b2 : ((op : Int) == 2) = false := by simp; omega
 have b14 : ((op : Int) == 14) = true := by simp; omega
 have HI0 := Lib.hid (fun w' => l1In_named (op : Int) 15 18 false (by simp [inR]; omega) w')
 have HI1 := Lib.hid (fun w' => l1In_named (op : Int) 3 9 false (by simp [inR]; omega) w')
 have HI2 := Lib.hid (fun w' => l1In_named (op : Int) 10 12 false (by simp [inR]; omega) w')
 clear hop2
 have k0 : (0 : Int) ≤ at_ := by omega
 have k1 : (at_ : Int) < L := by omega
 have e1 : decide ((128 : Int) ≤ (q : Int)) = false := by rw [hlg]; rw [Bool.eq_iff_iff]; simp at hlg ⊢; omega
 have e2 : (q : Int) % 128 = (op : Int) := by omega
 have c1 := fun o => cellB (below1 w o) c0
 have HC0 := Lib.hid c0
 have HW := Lib.hid (fun w' => l22Word_any w' (op : Int))
 unfold WordPost at HW
 have HFN := Lib.hid (fieldStr_ne op h1 h2)
 rw [show opIn (op : Int) = true from inR_iff.mpr ⟨by omega, by omega⟩] at HW
 simp only [if_true] at HW
 generalize nameOf (op : Int) = nm at HW
 generalize fieldStr (op : Int) = fm at HW HFN
 have hfn := HFN.out
 have HJ := Lib.hid (fun w' => sjump_any w' op 0 0 0 0)
 rw [hjp] at HJ
 clear hjp HFN
 clear c0 hlg hop
 go_enter Tryd.func115, Tryd.ntmps115
 go_wp2_with (fail)
 go_at_call 130
 generalize hwa : w.alloc _ = wa
 obtain ⟨hba, _⟩ := box5 hwa
 have hsa : wa.heap.size = w.heap.size + 1 := by rw [← hwa]; simp
 have hra : Blk wa w.heap.size [.int .i64 0, .int .i64 0, .int .i64 0, .int .i64 0, .int .i64 0] := by rw [← hwa]; exact Blk.new w _ _
 generalize hwb : wa.alloc _ = wb
 have hxb : Blk wb (w.heap.size + 1) [.int .i64 (op : Int), .int .i64 0, .int .i64 0, .int .i64 0, .int .i64 0] := by rw [← hwb, ← hsa]; exact Blk.new wa _ _
 have hbb : Below wa.heap.size wa wb := by rw [← hwb]; exact below1 _ _
 have hrb := hra.below hbb
 refine (HW.out wb).mono ?_
 rintro e w2 ⟨rfl, hb2⟩
 have HRB := Lib.hid (hrb.below hb2)
 have HXB := Lib.hid (hxb.below hb2)
 have HB2 := Lib.hid ((hba.trans (hbb.mono hba.size)).trans (hb2.mono (by have := hbb.size; omega)))
 clear hwa hba hsa hra hwb hxb hbb hrb hb2 HW c1 e1 e2 k1
 have HRB2 := HRB; have HXB2 := HXB
 clear HRB HXB
 obtain ⟨x0, x1, x2, x3, x4⟩ := HXB2.out.five
 go_wp2_with (fail)
 go_at_call 138
 refine (HS.out w2).mono ?_
 rintro e w3 ⟨rfl, hb3⟩
 have HRB3 := Lib.hid (HRB2.out.below hb3)
 have HXB3 := Lib.hid (HXB2.out.below hb3)
 have HB3 := Lib.hid (HB2.out.trans (hb3.mono HB2.out.size))
 clear hb3 x0 x1 x2 x3 x4 HRB2 HXB2 HB2
 obtain ⟨x0, x1, x2, x3, x4⟩ := HXB3.out.five
 go_wp2_with (fail)
 go_at_call 116
 refine (HJ.out w3).mono ?_
 rintro e w4 ⟨rfl, hb4⟩
 have HRB4 := Lib.hid (HRB3.out.below hb4)
 have HXB4 := Lib.hid (HXB3.out.below hb4)
 have HB4 := Lib.hid (HB3.out.trans (hb4.mono HB3.out.size))
 clear hb4 x0 x1 x2 x3 x4 HRB3 HXB3 HB3
 obtain ⟨x0, x1, x2, x3, x4⟩ := HXB4.out.five
 go_wp2_with (fail)
 go_at_call 61
 refine (HI0.out _).mono ?_
 rintro e _ ⟨rfl, rfl⟩
 clear HI0
 go_wp2_with (fail)
 go_at_call 61
 refine (HI1.out _).mono ?_
 rintro e _ ⟨rfl, rfl⟩
 clear HI1
 go_wp2_with (fail)
 go_at_call 61
 refine (HI2.out _).mono ?_
 rintro e _ ⟨rfl, rfl⟩
 clear HI2
 have a1 : (at_ : Int) + 1 < L := by omega
 have t1 := cellB HB4.out g1
 have p0 : (0 : Int) ≤ q1 := by omega
 have p1 : (q1 : Int) ≤ 255 := by omega
 have xf := HXB4.out.frozen
 have xf1 := xf 1; have xf2 := xf 2; have xf3 := xf 3; have xf4 := xf 4
 clear xf g1
 obtain ⟨r0, r1, r2, r3, r4⟩ := HRB4.out.five
 have rf := HRB4.out.frozen
 have rf0 := rf 0; have rf1 := rf 1; have rf2 := rf 2; have rf3 := rf 3; have rf4 := rf 4
 clear rf
 go_wp2_with (fail)
 refine bodyPost_ret (v := .tuple #[.agg #[.int .i64 (op : Int), .int .i64 0, .int .i64 0, .int .i64 0, .int .i64 (q1 : Int)], .int .i64 (n : Int), .bool true]) (by simp [results, Tryd.results115, go_sem, r0, r1, r2, r3, r4]) rfl ?_
 refine HQ.out _ ?_
 exact (((((HB4.out.setCell (p := ⟨w.heap.size + 1, 4, none⟩) (by simp) _).setCell (p := ⟨w.heap.size, 0, none⟩) (by simp) _).setCell (p := ⟨w.heap.size, 1, none⟩) (by simp) _).setCell (p := ⟨w.heap.size, 2, none⟩) (by simp) _).setCell (p := ⟨w.heap.size, 3, none⟩) (by simp) _).setCell (p := ⟨w.heap.size, 4, none⟩) (by simp) _
set_option maxHeartbeats 4000000 in
theorem one_k (w : World) (b off cap : Nat) (at_ : Nat) (L q op : Nat)  (Q : Ending → World → Prop) (hL2 : L ≤ 1048576) (hlt : at_ < L)
  (hq : q < 256) (hop : op = q % 128) (hlg : false = decide (128 ≤ q)) (c0 : w.cell? ⟨b, off + at_, none⟩ = some (.int .u8 (q : Int))) (h1 : 1 ≤ op) (h2 : op ≤ 22) (n : Nat) (hn : n = sizO op false) (hjp : jmpN op = false) (hfit : at_ + n ≤ L) (hop2 : op = 13 ∨ op = 19 ∨ op = 22) (hbl : b < w.heap.size) (q1 : Nat) (hq1 : q1 < 256) (g1 : w.cell? ⟨b, off + (at_ + 1), none⟩ = some (.int .u8 (q1 : Int)))
  (hQ : ∀ w', Below w.heap.size w w' → Q (.returned (.tuple #[.agg #[.int .i64 (op : Int), .int .i64 (q1 : Int), .int .i64 0, .int .i64 0, .int .i64 0], .int .i64 (n : Int), .bool true])) w') :
  Calls Tryd.prog 115 #[.slice (some ⟨b, off, none⟩) L cap, .int .i64 (at_ : Int)] w Q := by
 have HS := Lib.hid (fun w' => ssize0 w' op h1 h2 false)
 have hn4 := (sizO_le op false)
 rw [← hn] at HS hn4
 obtain ⟨hn2, hn4⟩ := hn4
 have HQ := Lib.hid hQ
 have n0 : (0 : Int) ≤ n := by omega
 have n4 : (n : Int) ≤ 4 := by omega
 have m0 : (L : Int) ≤ 1048576 := by omega
 clear hQ hn
 have ft : (at_ : Int) + n ≤ L := by omega
 have hne : ¬ (w.heap.size + 1 = b) := by omega
 have hnx : ¬ (b = w.heap.size + 1) := by omega
 have b1 : ((op : Int) == 1) = false := by simp; omega
 have b2 : ((op : Int) == 2) = false := by simp; omega
 have b14 : ((op : Int) == 14) = false := by simp; omega
 have HI0 := Lib.hid (fun w' => l1In_named (op : Int) 15 18 false (by simp [inR]; omega) w')
 have HI1 := Lib.hid (fun w' => l1In_named (op : Int) 3 9 false (by simp [inR]; omega) w')
 have HI2 := Lib.hid (fun w' => l1In_named (op : Int) 10 12 false (by simp [inR]; omega) w')
 clear hop2
 have k0 : (0 : Int) ≤ at_ := by omega
 have k1 : (at_ : Int) < L := by omega
 have e1 : decide ((128 : Int) ≤ (q : Int)) = false := by rw [hlg]; rw [Bool.eq_iff_iff]; simp at hlg ⊢; omega
 have e2 : (q : Int) % 128 = (op : Int) := by omega
 have c1 := fun o => cellB (below1 w o) c0
 have HC0 := Lib.hid c0
 have HW := Lib.hid (fun w' => l22Word_any w' (op : Int))
 unfold WordPost at HW
 have HFN := Lib.hid (fieldStr_ne op h1 h2)
 rw [show opIn (op : Int) = true from inR_iff.mpr ⟨by omega, by omega⟩] at HW
 simp only [if_true] at HW
 generalize nameOf (op : Int) = nm at HW
 generalize fieldStr (op : Int) = fm at HW HFN
 have hfn := HFN.out
 have HJ := Lib.hid (fun w' => sjump_any w' op 0 0 0 0)
 rw [hjp] at HJ
 clear hjp HFN
 clear c0 hlg hop
 go_enter Tryd.func115, Tryd.ntmps115
 go_wp2_with (fail)
 go_at_call 130
 generalize hwa : w.alloc _ = wa
 obtain ⟨hba, _⟩ := box5 hwa
 have hsa : wa.heap.size = w.heap.size + 1 := by rw [← hwa]; simp
 have hra : Blk wa w.heap.size [.int .i64 0, .int .i64 0, .int .i64 0, .int .i64 0, .int .i64 0] := by rw [← hwa]; exact Blk.new w _ _
 generalize hwb : wa.alloc _ = wb
 have hxb : Blk wb (w.heap.size + 1) [.int .i64 (op : Int), .int .i64 0, .int .i64 0, .int .i64 0, .int .i64 0] := by rw [← hwb, ← hsa]; exact Blk.new wa _ _
 have hbb : Below wa.heap.size wa wb := by rw [← hwb]; exact below1 _ _
 have hrb := hra.below hbb
 refine (HW.out wb).mono ?_
 rintro e w2 ⟨rfl, hb2⟩
 have HRB := Lib.hid (hrb.below hb2)
 have HXB := Lib.hid (hxb.below hb2)
 have HB2 := Lib.hid ((hba.trans (hbb.mono hba.size)).trans (hb2.mono (by have := hbb.size; omega)))
 clear hwa hba hsa hra hwb hxb hbb hrb hb2 HW c1 e1 e2 k1
 have HRB2 := HRB; have HXB2 := HXB
 clear HRB HXB
 obtain ⟨x0, x1, x2, x3, x4⟩ := HXB2.out.five
 go_wp2_with (fail)
 go_at_call 138
 refine (HS.out w2).mono ?_
 rintro e w3 ⟨rfl, hb3⟩
 have HRB3 := Lib.hid (HRB2.out.below hb3)
 have HXB3 := Lib.hid (HXB2.out.below hb3)
 have HB3 := Lib.hid (HB2.out.trans (hb3.mono HB2.out.size))
 clear hb3 x0 x1 x2 x3 x4 HRB2 HXB2 HB2
 obtain ⟨x0, x1, x2, x3, x4⟩ := HXB3.out.five
 go_wp2_with (fail)
 go_at_call 116
 refine (HJ.out w3).mono ?_
 rintro e w4 ⟨rfl, hb4⟩
 have HRB4 := Lib.hid (HRB3.out.below hb4)
 have HXB4 := Lib.hid (HXB3.out.below hb4)
 have HB4 := Lib.hid (HB3.out.trans (hb4.mono HB3.out.size))
 clear hb4 x0 x1 x2 x3 x4 HRB3 HXB3 HB3
 obtain ⟨x0, x1, x2, x3, x4⟩ := HXB4.out.five
 go_wp2_with (fail)
 go_at_call 61
 refine (HI0.out _).mono ?_
 rintro e _ ⟨rfl, rfl⟩
 clear HI0
 go_wp2_with (fail)
 go_at_call 61
 refine (HI1.out _).mono ?_
 rintro e _ ⟨rfl, rfl⟩
 clear HI1
 go_wp2_with (fail)
 go_at_call 61
 refine (HI2.out _).mono ?_
 rintro e _ ⟨rfl, rfl⟩
 clear HI2
 have a1 : (at_ : Int) + 1 < L := by omega
 have t1 := cellB HB4.out g1
 have p0 : (0 : Int) ≤ q1 := by omega
 have p1 : (q1 : Int) ≤ 255 := by omega
 have xf := HXB4.out.frozen
 have xf1 := xf 1; have xf2 := xf 2; have xf3 := xf 3; have xf4 := xf 4
 clear xf g1
 obtain ⟨r0, r1, r2, r3, r4⟩ := HRB4.out.five
 have rf := HRB4.out.frozen
 have rf0 := rf 0; have rf1 := rf 1; have rf2 := rf 2; have rf3 := rf 3; have rf4 := rf 4
 clear rf
 go_wp2_with (fail)
 refine bodyPost_ret (v := .tuple #[.agg #[.int .i64 (op : Int), .int .i64 (q1 : Int), .int .i64 0, .int .i64 0, .int .i64 0], .int .i64 (n : Int), .bool true]) (by simp [results, Tryd.results115, go_sem, r0, r1, r2, r3, r4]) rfl ?_
 refine HQ.out _ ?_
 exact (((((HB4.out.setCell (p := ⟨w.heap.size + 1, 1, none⟩) (by simp) _).setCell (p := ⟨w.heap.size, 0, none⟩) (by simp) _).setCell (p := ⟨w.heap.size, 1, none⟩) (by simp) _).setCell (p := ⟨w.heap.size, 2, none⟩) (by simp) _).setCell (p := ⟨w.heap.size, 3, none⟩) (by simp) _).setCell (p := ⟨w.heap.size, 4, none⟩) (by simp) _
end Go.Proofs.YtbdbmmdnidonjaaDoor
set_option maxRecDepth 100000
namespace Go.Proofs.YtbdbmmdnidonjaaDoor
open Go.RowKit
theorem ssizeC (w : World) (op : Nat) (h1 : 1 ≤ op) (h2 : op ≤ 22) (lg : Bool) (z : Int) (hz : ((sizO op lg : Nat) : Int) = z) : Calls Tryd.prog 138 #[.agg #[.int .i64 (op : Int), .int .i64 0, .int .i64 0, .int .i64 0, .int .i64 0], .bool lg] w fun e w' => e = .returned (.int .i64 z) ∧ Below w.heap.size w w' := by
 subst hz; exact ssize0 w op h1 h2 lg
set_option maxHeartbeats 4000000 in
theorem one_l (w : World) (b off cap : Nat) (at_ : Nat) (L q op : Nat)  (Q : Ending → World → Prop) (hL2 : L ≤ 1048576) (hlt : at_ < L)
  (hq : q < 256) (hop : op = q % 128) (hlg : true = decide (128 ≤ q)) (c0 : w.cell? ⟨b, off + at_, none⟩ = some (.int .u8 (q : Int))) (hope : op = 20) (hbl : b < w.heap.size) (q1 q2 : Nat) (hq1 : q1 < 256) (g1 : w.cell? ⟨b, off + (at_ + 1), none⟩ = some (.int .u8 (q1 : Int))) (hq2 : q2 < 256) (g2 : w.cell? ⟨b, off + (at_ + 2), none⟩ = some (.int .u8 (q2 : Int))) (hfit : at_ + 3 ≤ L)
  (hQ : ∀ w', Below w.heap.size w w' → Q (.returned (.tuple #[.agg #[.int .i64 (op : Int), .int .i64 0, .int .i64 0, .int .i64 0, .int .i64 ((q1 : Int) + 256 * (q2 : Int))], .int .i64 3, .bool true])) w') :
  Calls Tryd.prog 115 #[.slice (some ⟨b, off, none⟩) L cap, .int .i64 (at_ : Int)] w Q := by
 have h1 : 1 ≤ op := by omega
 have h2 : op ≤ 22 := by omega
 have hjp : jmpN op = true := by rw [hope]; rfl
 have HS := Lib.hid (fun w' => ssizeC w' op h1 h2 true 3 (by rw [hope]; rfl))
 have HQ := Lib.hid hQ
 have m0 : (L : Int) ≤ 1048576 := by omega
 have ft : (at_ : Int) + 3 ≤ L := by omega
 have hne : ¬ (w.heap.size + 1 = b) := by omega
 have hnx : ¬ (b = w.heap.size + 1) := by omega
 have b21 : ((op : Int) == 21) = false := by simp; omega
 have p1 : (0 : Int) ≤ q1 := by omega
 have r1 : (q1 : Int) ≤ 255 := by omega
 have p2 : (0 : Int) ≤ q2 := by omega
 have r2 : (q2 : Int) ≤ 255 := by omega
 clear hope hQ
 have k0 : (0 : Int) ≤ at_ := by omega
 have k1 : (at_ : Int) < L := by omega
 have e1 : decide ((128 : Int) ≤ (q : Int)) = true := by rw [hlg]; rw [Bool.eq_iff_iff]; simp; omega
 have e2 : (q : Int) % 128 = (op : Int) := by omega
 have c1 := fun o => cellB (below1 w o) c0
 have HC0 := Lib.hid c0
 have HW := Lib.hid (fun w' => l22Word_any w' (op : Int))
 unfold WordPost at HW
 have HFN := Lib.hid (fieldStr_ne op h1 h2)
 rw [show opIn (op : Int) = true from inR_iff.mpr ⟨by omega, by omega⟩] at HW
 simp only [if_true] at HW
 generalize nameOf (op : Int) = nm at HW
 generalize fieldStr (op : Int) = fm at HW HFN
 have hfn := HFN.out
 have HJ := Lib.hid (fun w' => sjump_any w' op 0 0 0 0)
 rw [hjp] at HJ
 clear hjp HFN
 clear c0 hlg hop
 go_enter Tryd.func115, Tryd.ntmps115
 go_wp2_with (fail)
 go_at_call 130
 generalize hwa : w.alloc _ = wa
 obtain ⟨hba, _⟩ := box5 hwa
 have hsa : wa.heap.size = w.heap.size + 1 := by rw [← hwa]; simp
 have hra : Blk wa w.heap.size [.int .i64 0, .int .i64 0, .int .i64 0, .int .i64 0, .int .i64 0] := by rw [← hwa]; exact Blk.new w _ _
 generalize hwb : wa.alloc _ = wb
 have hxb : Blk wb (w.heap.size + 1) [.int .i64 (op : Int), .int .i64 0, .int .i64 0, .int .i64 0, .int .i64 0] := by rw [← hwb, ← hsa]; exact Blk.new wa _ _
 have hbb : Below wa.heap.size wa wb := by rw [← hwb]; exact below1 _ _
 have hrb := hra.below hbb
 refine (HW.out wb).mono ?_
 rintro e w2 ⟨rfl, hb2⟩
 have HRB := Lib.hid (hrb.below hb2)
 have HXB := Lib.hid (hxb.below hb2)
 have HB2 := Lib.hid ((hba.trans (hbb.mono hba.size)).trans (hb2.mono (by have := hbb.size; omega)))
 clear hwa hba hsa hra hwb hxb hbb hrb hb2 HW c1 e1 e2 k1
 have HRB2 := HRB; have HXB2 := HXB
 clear HRB HXB
 obtain ⟨x0, x1, x2, x3, x4⟩ := HXB2.out.five
 go_wp2_with (fail)
 go_at_call 116
 refine (HJ.out w2).mono ?_
 rintro e w3 ⟨rfl, hb3⟩
 have HRB3 := Lib.hid (HRB2.out.below hb3)
 have HXB3 := Lib.hid (HXB2.out.below hb3)
 have HB3 := Lib.hid (HB2.out.trans (hb3.mono HB2.out.size))
 clear hb3 x0 x1 x2 x3 x4 HRB2 HXB2 HB2
 obtain ⟨x0, x1, x2, x3, x4⟩ := HXB3.out.five
 go_wp2_with (fail)
 go_at_call 138
 refine (HS.out w3).mono ?_
 rintro e w4 ⟨rfl, hb4⟩
 have HRB4 := Lib.hid (HRB3.out.below hb4)
 have HXB4 := Lib.hid (HXB3.out.below hb4)
 have HB4 := Lib.hid (HB3.out.trans (hb4.mono HB3.out.size))
 clear hb4 x0 x1 x2 x3 x4 HRB3 HXB3 HB3
 obtain ⟨x0, x1, x2, x3, x4⟩ := HXB4.out.five
 go_wp2_with (fail)
 go_at_call 116
 refine (HJ.out w4).mono ?_
 rintro e w5 ⟨rfl, hb5⟩
 have HRB5 := Lib.hid (HRB4.out.below hb5)
 have HXB5 := Lib.hid (HXB4.out.below hb5)
 have HB5 := Lib.hid (HB4.out.trans (hb5.mono HB4.out.size))
 clear hb5 x0 x1 x2 x3 x4 HRB4 HXB4 HB4
 obtain ⟨x0, x1, x2, x3, x4⟩ := HXB5.out.five
 have a1 : (at_ : Int) + 1 < L := by omega
 have a2 : (at_ : Int) + 2 < L := by omega
 have t1 := cellB HB5.out g1
 have t2 := cellB HB5.out g2
 have xf := HXB5.out.frozen
 have xf1 := xf 1; have xf2 := xf 2; have xf3 := xf 3; have xf4 := xf 4
 clear xf g1 g2
 have S1 := Lib.hid (show IntKind.i64.wrap ((at_ : Int) + 3) = (at_ : Int) + 3 from IntWalk.i64_in _ (by omega))
 have S2 := Lib.hid (show IntKind.i64.wrap ((at_ : Int) + 3 - 2) = (at_ : Int) + 1 from by rw [IntWalk.i64_in _ (by omega)]; omega)
 have S3 := Lib.hid (show IntKind.i64.wrap ((at_ : Int) + 3 - 1) = (at_ : Int) + 2 from by rw [IntWalk.i64_in _ (by omega)]; omega)
 have S4 := Lib.hid (show IntKind.i64.wrap (256 * (q2 : Int)) = 256 * (q2 : Int) from IntWalk.i64_in _ (by omega))
 have S5 := Lib.hid (show IntKind.i64.wrap ((q1 : Int) + 256 * (q2 : Int)) = (q1 : Int) + 256 * (q2 : Int) from IntWalk.i64_in _ (by omega))
 have i1 : (0 : Int) ≤ (at_ : Int) + 1 := by omega
 have i2 : (0 : Int) ≤ (at_ : Int) + 2 := by omega
 have i3 : ((at_ : Int) + 1).toNat = at_ + 1 := by omega
 have i4 : ((at_ : Int) + 2).toNat = at_ + 2 := by omega
 go_wp2_with (fail)
 have s1 := S1.out; have s2 := S2.out; have s3 := S3.out; have s4 := S4.out; have s5 := S5.out
 go_still_tail 19, (by kernel_rfl)
 change wpList _ _ _ _ _ w5.drew
 have HRB6 := Lib.hid (HRB5.out.drew)
 have HXB6 := Lib.hid (HXB5.out.drew)
 have HB6 := Lib.hid (HB5.out.drew)
 clear x0 x1 x2 x3 x4 xf1 xf2 xf3 xf4 HRB5 HXB5 HB5 t1 t2 s1 s2 s3 s4 s5 S1 S2 S3 S4 S5
 generalize w5.drew = w6 at *
 obtain ⟨x0, x1, x2, x3, x4⟩ := HXB6.out.five
 have xf := HXB6.out.frozen
 have xf1 := xf 1; have xf2 := xf 2; have xf3 := xf 3; have xf4 := xf 4
 clear xf
 obtain ⟨r0, r1, r2, r3, r4⟩ := HRB6.out.five
 have rf := HRB6.out.frozen
 have rf0 := rf 0; have rf1 := rf 1; have rf2 := rf 2; have rf3 := rf 3; have rf4 := rf 4
 clear rf
 go_wp2_with (fail)
 refine bodyPost_ret (v := .tuple #[.agg #[.int .i64 (op : Int), .int .i64 0, .int .i64 0, .int .i64 0, .int .i64 ((q1 : Int) + 256 * (q2 : Int))], .int .i64 3, .bool true]) (by simp [results, Tryd.results115, go_sem, r0, r1, r2, r3, r4]) rfl ?_
 refine HQ.out _ ?_
 exact (((((HB6.out.setCell (p := ⟨w.heap.size + 1, 4, none⟩) (by simp) _).setCell (p := ⟨w.heap.size, 0, none⟩) (by simp) _).setCell (p := ⟨w.heap.size, 1, none⟩) (by simp) _).setCell (p := ⟨w.heap.size, 2, none⟩) (by simp) _).setCell (p := ⟨w.heap.size, 3, none⟩) (by simp) _).setCell (p := ⟨w.heap.size, 4, none⟩) (by simp) _
set_option maxHeartbeats 4000000 in
theorem one_m (w : World) (b off cap : Nat) (at_ : Nat) (L q op : Nat)  (Q : Ending → World → Prop) (hL2 : L ≤ 1048576) (hlt : at_ < L)
  (hq : q < 256) (hop : op = q % 128) (hlg : true = decide (128 ≤ q)) (c0 : w.cell? ⟨b, off + at_, none⟩ = some (.int .u8 (q : Int))) (hope : op = 21) (hbl : b < w.heap.size) (q1 q2 q3 : Nat) (hq1 : q1 < 256) (g1 : w.cell? ⟨b, off + (at_ + 1), none⟩ = some (.int .u8 (q1 : Int))) (hq2 : q2 < 256) (g2 : w.cell? ⟨b, off + (at_ + 2), none⟩ = some (.int .u8 (q2 : Int))) (hq3 : q3 < 256) (g3 : w.cell? ⟨b, off + (at_ + 3), none⟩ = some (.int .u8 (q3 : Int))) (hfit : at_ + 4 ≤ L)
  (hQ : ∀ w', Below w.heap.size w w' → Q (.returned (.tuple #[.agg #[.int .i64 (op : Int), .int .i64 (q1 : Int), .int .i64 0, .int .i64 0, .int .i64 ((q2 : Int) + 256 * (q3 : Int))], .int .i64 4, .bool true])) w') :
  Calls Tryd.prog 115 #[.slice (some ⟨b, off, none⟩) L cap, .int .i64 (at_ : Int)] w Q := by
 have h1 : 1 ≤ op := by omega
 have h2 : op ≤ 22 := by omega
 have hjp : jmpN op = true := by rw [hope]; rfl
 have HS := Lib.hid (fun w' => ssizeC w' op h1 h2 true 4 (by rw [hope]; rfl))
 have HQ := Lib.hid hQ
 have m0 : (L : Int) ≤ 1048576 := by omega
 have ft : (at_ : Int) + 4 ≤ L := by omega
 have hne : ¬ (w.heap.size + 1 = b) := by omega
 have hnx : ¬ (b = w.heap.size + 1) := by omega
 have b21 : ((op : Int) == 21) = true := by simp; omega
 have p1 : (0 : Int) ≤ q1 := by omega
 have r1 : (q1 : Int) ≤ 255 := by omega
 have p2 : (0 : Int) ≤ q2 := by omega
 have r2 : (q2 : Int) ≤ 255 := by omega
 have p3 : (0 : Int) ≤ q3 := by omega
 have r3 : (q3 : Int) ≤ 255 := by omega
 clear hope hQ
 have k0 : (0 : Int) ≤ at_ := by omega
 have k1 : (at_ : Int) < L := by omega
 have e1 : decide ((128 : Int) ≤ (q : Int)) = true := by rw [hlg]; rw [Bool.eq_iff_iff]; simp; omega
 have e2 : (q : Int) % 128 = (op : Int) := by omega
 have c1 := fun o => cellB (below1 w o) c0
 have HC0 := Lib.hid c0
 have HW := Lib.hid (fun w' => l22Word_any w' (op : Int))
 unfold WordPost at HW
 have HFN := Lib.hid (fieldStr_ne op h1 h2)
 rw [show opIn (op : Int) = true from inR_iff.mpr ⟨by omega, by omega⟩] at HW
 simp only [if_true] at HW
 generalize nameOf (op : Int) = nm at HW
 generalize fieldStr (op : Int) = fm at HW HFN
 have hfn := HFN.out
 have HJ := Lib.hid (fun w' => sjump_any w' op 0 0 0 0)
 rw [hjp] at HJ
 clear hjp HFN
 clear c0 hlg hop
 go_enter Tryd.func115, Tryd.ntmps115
 go_wp2_with (fail)
 go_at_call 130
 generalize hwa : w.alloc _ = wa
 obtain ⟨hba, _⟩ := box5 hwa
 have hsa : wa.heap.size = w.heap.size + 1 := by rw [← hwa]; simp
 have hra : Blk wa w.heap.size [.int .i64 0, .int .i64 0, .int .i64 0, .int .i64 0, .int .i64 0] := by rw [← hwa]; exact Blk.new w _ _
 generalize hwb : wa.alloc _ = wb
 have hxb : Blk wb (w.heap.size + 1) [.int .i64 (op : Int), .int .i64 0, .int .i64 0, .int .i64 0, .int .i64 0] := by rw [← hwb, ← hsa]; exact Blk.new wa _ _
 have hbb : Below wa.heap.size wa wb := by rw [← hwb]; exact below1 _ _
 have hrb := hra.below hbb
 refine (HW.out wb).mono ?_
 rintro e w2 ⟨rfl, hb2⟩
 have HRB := Lib.hid (hrb.below hb2)
 have HXB := Lib.hid (hxb.below hb2)
 have HB2 := Lib.hid ((hba.trans (hbb.mono hba.size)).trans (hb2.mono (by have := hbb.size; omega)))
 clear hwa hba hsa hra hwb hxb hbb hrb hb2 HW c1 e1 e2 k1
 have HRB2 := HRB; have HXB2 := HXB
 clear HRB HXB
 obtain ⟨x0, x1, x2, x3, x4⟩ := HXB2.out.five
 go_wp2_with (fail)
 go_at_call 116
 refine (HJ.out w2).mono ?_
 rintro e w3 ⟨rfl, hb3⟩
 have HRB3 := Lib.hid (HRB2.out.below hb3)
 have HXB3 := Lib.hid (HXB2.out.below hb3)
 have HB3 := Lib.hid (HB2.out.trans (hb3.mono HB2.out.size))
 clear hb3 x0 x1 x2 x3 x4 HRB2 HXB2 HB2
 obtain ⟨x0, x1, x2, x3, x4⟩ := HXB3.out.five
 go_wp2_with (fail)
 go_at_call 138
 refine (HS.out w3).mono ?_
 rintro e w4 ⟨rfl, hb4⟩
 have HRB4 := Lib.hid (HRB3.out.below hb4)
 have HXB4 := Lib.hid (HXB3.out.below hb4)
 have HB4 := Lib.hid (HB3.out.trans (hb4.mono HB3.out.size))
 clear hb4 x0 x1 x2 x3 x4 HRB3 HXB3 HB3
 obtain ⟨x0, x1, x2, x3, x4⟩ := HXB4.out.five
 go_wp2_with (fail)
 go_at_call 116
 refine (HJ.out w4).mono ?_
 rintro e w5 ⟨rfl, hb5⟩
 have HRB5 := Lib.hid (HRB4.out.below hb5)
 have HXB5 := Lib.hid (HXB4.out.below hb5)
 have HB5 := Lib.hid (HB4.out.trans (hb5.mono HB4.out.size))
 clear hb5 x0 x1 x2 x3 x4 HRB4 HXB4 HB4
 obtain ⟨x0, x1, x2, x3, x4⟩ := HXB5.out.five
 have a1 : (at_ : Int) + 1 < L := by omega
 have a2 : (at_ : Int) + 2 < L := by omega
 have a3 : (at_ : Int) + 3 < L := by omega
 have t1 := cellB HB5.out g1
 have t2 := cellB HB5.out g2
 have t3 := cellB HB5.out g3
 have xf := HXB5.out.frozen
 have xf1 := xf 1; have xf2 := xf 2; have xf3 := xf 3; have xf4 := xf 4
 have G2 := Lib.hid g2
 have G3 := Lib.hid g3
 clear xf g1 g2 g3
 have S1 := Lib.hid (show IntKind.i64.wrap ((at_ : Int) + 4) = (at_ : Int) + 4 from IntWalk.i64_in _ (by omega))
 have S2 := Lib.hid (show IntKind.i64.wrap ((at_ : Int) + 4 - 2) = (at_ : Int) + 2 from by rw [IntWalk.i64_in _ (by omega)]; omega)
 have S3 := Lib.hid (show IntKind.i64.wrap ((at_ : Int) + 4 - 1) = (at_ : Int) + 3 from by rw [IntWalk.i64_in _ (by omega)]; omega)
 have S4 := Lib.hid (show IntKind.i64.wrap (256 * (q3 : Int)) = 256 * (q3 : Int) from IntWalk.i64_in _ (by omega))
 have S5 := Lib.hid (show IntKind.i64.wrap ((q2 : Int) + 256 * (q3 : Int)) = (q2 : Int) + 256 * (q3 : Int) from IntWalk.i64_in _ (by omega))
 have i1 : (0 : Int) ≤ (at_ : Int) + 1 := by omega
 have i2 : (0 : Int) ≤ (at_ : Int) + 2 := by omega
 have i3 : ((at_ : Int) + 1).toNat = at_ + 1 := by omega
 have i4 : ((at_ : Int) + 2).toNat = at_ + 2 := by omega
 have i5 : (0 : Int) ≤ (at_ : Int) + 3 := by omega
 have i6 : ((at_ : Int) + 3).toNat = at_ + 3 := by omega
 go_wp2_with (fail)
 generalize hw6 : w5.setCell _ _ = w6
 have HXB6 := Lib.hid (show Blk w6 (w.heap.size + 1) [.int .i64 (op : Int), .int .i64 (q1 : Int), .int .i64 0, .int .i64 0, .int .i64 0] from by rw [← hw6]; exact HXB5.out.set 1 _)
 have HRB6 := Lib.hid (show Blk w6 w.heap.size [.int .i64 0, .int .i64 0, .int .i64 0, .int .i64 0, .int .i64 0] from by rw [← hw6]; exact HRB5.out.other (by simp) _)
 have HB6 := Lib.hid (show Below w.heap.size w w6 from by rw [← hw6]; exact HB5.out.setCell (by simp) _)
 clear hw6 x0 x1 x2 x3 x4 xf1 xf2 xf3 xf4 HRB5 HXB5 HB5 t1 t2 t3
 have t2 := cellB HB6.out G2.out
 have t3 := cellB HB6.out G3.out
 obtain ⟨x0, x1, x2, x3, x4⟩ := HXB6.out.five
 have xf := HXB6.out.frozen
 have xf1 := xf 1; have xf2 := xf 2; have xf3 := xf 3; have xf4 := xf 4
 clear xf
 have s1 := S1.out; have s2 := S2.out; have s3 := S3.out; have s4 := S4.out; have s5 := S5.out
 go_still_tail 19, (by kernel_rfl)
 change wpList _ _ _ _ _ w6.drew
 have HRB7 := Lib.hid (HRB6.out.drew)
 have HXB7 := Lib.hid (HXB6.out.drew)
 have HB7 := Lib.hid (HB6.out.drew)
 clear x0 x1 x2 x3 x4 xf1 xf2 xf3 xf4 HRB6 HXB6 HB6 t2 t3 G2 G3 s1 s2 s3 s4 s5 S1 S2 S3 S4 S5
 generalize w6.drew = w7 at *
 obtain ⟨x0, x1, x2, x3, x4⟩ := HXB7.out.five
 have xf := HXB7.out.frozen
 have xf1 := xf 1; have xf2 := xf 2; have xf3 := xf 3; have xf4 := xf 4
 clear xf
 obtain ⟨r0, r1, r2, r3, r4⟩ := HRB7.out.five
 have rf := HRB7.out.frozen
 have rf0 := rf 0; have rf1 := rf 1; have rf2 := rf 2; have rf3 := rf 3; have rf4 := rf 4
 clear rf
 go_wp2_with (fail)
 refine bodyPost_ret (v := .tuple #[.agg #[.int .i64 (op : Int), .int .i64 (q1 : Int), .int .i64 0, .int .i64 0, .int .i64 ((q2 : Int) + 256 * (q3 : Int))], .int .i64 4, .bool true]) (by simp [results, Tryd.results115, go_sem, r0, r1, r2, r3, r4]) rfl ?_
 refine HQ.out _ ?_
 exact (((((HB7.out.setCell (p := ⟨w.heap.size + 1, 4, none⟩) (by simp) _).setCell (p := ⟨w.heap.size, 0, none⟩) (by simp) _).setCell (p := ⟨w.heap.size, 1, none⟩) (by simp) _).setCell (p := ⟨w.heap.size, 2, none⟩) (by simp) _).setCell (p := ⟨w.heap.size, 3, none⟩) (by simp) _).setCell (p := ⟨w.heap.size, 4, none⟩) (by simp) _
set_option maxHeartbeats 4000000 in
theorem one_n (w : World) (b off cap : Nat) (at_ : Nat) (L q op : Nat)  (Q : Ending → World → Prop) (hL2 : L ≤ 1048576) (hlt : at_ < L)
  (hq : q < 256) (hop : op = q % 128) (hlg : false = decide (128 ≤ q)) (c0 : w.cell? ⟨b, off + at_, none⟩ = some (.int .u8 (q : Int))) (hope : op = 20) (hbl : b < w.heap.size) (q1 : Nat) (hq1 : q1 < 256) (g1 : w.cell? ⟨b, off + (at_ + 1), none⟩ = some (.int .u8 (q1 : Int))) (hfit : at_ + 2 ≤ L) (p : Bool) (t : Nat) (hp : p = decide (127 < q1)) (ht : t = if p then 1 else 0)
  (hQ : ∀ w', Below w.heap.size w w' → Q (.returned (.tuple #[.agg #[.int .i64 (op : Int), .int .i64 0, .int .i64 0, .int .i64 0, .int .i64 ((at_ : Int) + 2 + (q1 : Int) - 256 * (t : Int))], .int .i64 2, .bool true])) w') :
  Calls Tryd.prog 115 #[.slice (some ⟨b, off, none⟩) L cap, .int .i64 (at_ : Int)] w Q := by
 have h1 : 1 ≤ op := by omega
 have h2 : op ≤ 22 := by omega
 have hjp : jmpN op = true := by rw [hope]; rfl
 have HS := Lib.hid (fun w' => ssizeC w' op h1 h2 false 2 (by rw [hope]; rfl))
 have HQ := Lib.hid hQ
 have m0 : (L : Int) ≤ 1048576 := by omega
 have ft : (at_ : Int) + 2 ≤ L := by omega
 have hne : ¬ (w.heap.size + 1 = b) := by omega
 have hnx : ¬ (b = w.heap.size + 1) := by omega
 have b21 : ((op : Int) == 21) = false := by simp; omega
 have p1 : (0 : Int) ≤ q1 := by omega
 have r1 : (q1 : Int) ≤ 255 := by omega
 have hp2 : decide ((127 : Int) < (q1 : Int)) = p := by rw [hp]; rw [Bool.eq_iff_iff]; simp; omega
 have htt : t ≤ 1 := by rw [ht]; split <;> omega
 have HT := Lib.hid (fun w' => struth_any w' p t ht)
 have HP2 := Lib.hid hp2
 clear hp ht hp2
 clear hope hQ
 have k0 : (0 : Int) ≤ at_ := by omega
 have k1 : (at_ : Int) < L := by omega
 have e1 : decide ((128 : Int) ≤ (q : Int)) = false := by rw [hlg]; rw [Bool.eq_iff_iff]; simp at hlg ⊢; omega
 have e2 : (q : Int) % 128 = (op : Int) := by omega
 have c1 := fun o => cellB (below1 w o) c0
 have HC0 := Lib.hid c0
 have HW := Lib.hid (fun w' => l22Word_any w' (op : Int))
 unfold WordPost at HW
 have HFN := Lib.hid (fieldStr_ne op h1 h2)
 rw [show opIn (op : Int) = true from inR_iff.mpr ⟨by omega, by omega⟩] at HW
 simp only [if_true] at HW
 generalize nameOf (op : Int) = nm at HW
 generalize fieldStr (op : Int) = fm at HW HFN
 have hfn := HFN.out
 have HJ := Lib.hid (fun w' => sjump_any w' op 0 0 0 0)
 rw [hjp] at HJ
 clear hjp HFN
 clear c0 hlg hop
 go_enter Tryd.func115, Tryd.ntmps115
 go_wp2_with (fail)
 go_at_call 130
 generalize hwa : w.alloc _ = wa
 obtain ⟨hba, _⟩ := box5 hwa
 have hsa : wa.heap.size = w.heap.size + 1 := by rw [← hwa]; simp
 have hra : Blk wa w.heap.size [.int .i64 0, .int .i64 0, .int .i64 0, .int .i64 0, .int .i64 0] := by rw [← hwa]; exact Blk.new w _ _
 generalize hwb : wa.alloc _ = wb
 have hxb : Blk wb (w.heap.size + 1) [.int .i64 (op : Int), .int .i64 0, .int .i64 0, .int .i64 0, .int .i64 0] := by rw [← hwb, ← hsa]; exact Blk.new wa _ _
 have hbb : Below wa.heap.size wa wb := by rw [← hwb]; exact below1 _ _
 have hrb := hra.below hbb
 refine (HW.out wb).mono ?_
 rintro e w2 ⟨rfl, hb2⟩
 have HRB := Lib.hid (hrb.below hb2)
 have HXB := Lib.hid (hxb.below hb2)
 have HB2 := Lib.hid ((hba.trans (hbb.mono hba.size)).trans (hb2.mono (by have := hbb.size; omega)))
 clear hwa hba hsa hra hwb hxb hbb hrb hb2 HW c1 e1 e2 k1
 have HRB2 := HRB; have HXB2 := HXB
 clear HRB HXB
 obtain ⟨x0, x1, x2, x3, x4⟩ := HXB2.out.five
 go_wp2_with (fail)
 go_at_call 138
 refine (HS.out w2).mono ?_
 rintro e w3 ⟨rfl, hb3⟩
 have HRB3 := Lib.hid (HRB2.out.below hb3)
 have HXB3 := Lib.hid (HXB2.out.below hb3)
 have HB3 := Lib.hid (HB2.out.trans (hb3.mono HB2.out.size))
 clear hb3 x0 x1 x2 x3 x4 HRB2 HXB2 HB2
 obtain ⟨x0, x1, x2, x3, x4⟩ := HXB3.out.five
 go_wp2_with (fail)
 go_at_call 116
 refine (HJ.out w3).mono ?_
 rintro e w4 ⟨rfl, hb4⟩
 have HRB4 := Lib.hid (HRB3.out.below hb4)
 have HXB4 := Lib.hid (HXB3.out.below hb4)
 have HB4 := Lib.hid (HB3.out.trans (hb4.mono HB3.out.size))
 clear hb4 x0 x1 x2 x3 x4 HRB3 HXB3 HB3
 obtain ⟨x0, x1, x2, x3, x4⟩ := HXB4.out.five
 have a1 : (at_ : Int) + 1 < L := by omega
 have t1 := cellB HB4.out g1
 have xf := HXB4.out.frozen
 have xf1 := xf 1; have xf2 := xf 2; have xf3 := xf 3; have xf4 := xf 4
 clear xf g1
 have S1 := Lib.hid (show IntKind.i64.wrap ((at_ : Int) + 2) = (at_ : Int) + 2 from IntWalk.i64_in _ (by omega))
 have S3 := Lib.hid (show IntKind.i64.wrap ((at_ : Int) + 2 - 1) = (at_ : Int) + 1 from by rw [IntWalk.i64_in _ (by omega)]; omega)
 have S4 := Lib.hid (show IntKind.i64.wrap (256 * (t : Int)) = 256 * (t : Int) from IntWalk.i64_in _ (by omega))
 have S5 := Lib.hid (show IntKind.i64.wrap ((at_ : Int) + 2 + (q1 : Int)) = (at_ : Int) + 2 + (q1 : Int) from IntWalk.i64_in _ (by omega))
 have S6 := Lib.hid (show IntKind.i64.wrap ((at_ : Int) + 2 + (q1 : Int) - 256 * (t : Int)) = (at_ : Int) + 2 + (q1 : Int) - 256 * (t : Int) from IntWalk.i64_in _ (by omega))
 have S7 := Lib.hid (show IntKind.i64.wrap (q1 : Int) = (q1 : Int) from IntWalk.i64_in _ (by omega))
 have i1 : (0 : Int) ≤ (at_ : Int) + 1 := by omega
 have i2 : (0 : Int) ≤ (at_ : Int) + 2 := by omega
 have i3 : ((at_ : Int) + 1).toNat = at_ + 1 := by omega
 have i4 : ((at_ : Int) + 2).toNat = at_ + 2 := by omega
 go_wp2_with (fail)
 have s1 := S1.out; have s3 := S3.out; have s4 := S4.out; have s5 := S5.out; have s6 := S6.out; have s7 := S7.out; have hp2 := HP2.out
 clear htt
 refine wp_region_still_tail 25 (by kernel_rfl) (by kernel_rfl) ?_
 simp only [List.take_succ_cons, List.take_zero, List.drop_succ_cons, List.drop_zero]
 repeat still_step
 still_call (HT.out _)
 repeat still_step
 try refine wpStill_nil ?_
 change wpList _ _ _ _ _ w4.drew
 have HRB5 := Lib.hid (HRB4.out.drew)
 have HXB5 := Lib.hid (HXB4.out.drew)
 have HB5 := Lib.hid (HB4.out.drew)
 clear x0 x1 x2 x3 x4 xf1 xf2 xf3 xf4 HRB4 HXB4 HB4 t1 s1 s3 s4 s5 s6 s7 hp2 S1 S3 S4 S5 S6 S7 HP2 HT
 generalize w4.drew = w5 at *
 obtain ⟨x0, x1, x2, x3, x4⟩ := HXB5.out.five
 have xf := HXB5.out.frozen
 have xf1 := xf 1; have xf2 := xf 2; have xf3 := xf 3; have xf4 := xf 4
 clear xf
 obtain ⟨r0, r1, r2, r3, r4⟩ := HRB5.out.five
 have rf := HRB5.out.frozen
 have rf0 := rf 0; have rf1 := rf 1; have rf2 := rf 2; have rf3 := rf 3; have rf4 := rf 4
 clear rf
 go_wp2_with (fail)
 refine bodyPost_ret (v := .tuple #[.agg #[.int .i64 (op : Int), .int .i64 0, .int .i64 0, .int .i64 0, .int .i64 ((at_ : Int) + 2 + (q1 : Int) - 256 * (t : Int))], .int .i64 2, .bool true]) (by simp [results, Tryd.results115, go_sem, r0, r1, r2, r3, r4]) rfl ?_
 refine HQ.out _ ?_
 exact (((((HB5.out.setCell (p := ⟨w.heap.size + 1, 4, none⟩) (by simp) _).setCell (p := ⟨w.heap.size, 0, none⟩) (by simp) _).setCell (p := ⟨w.heap.size, 1, none⟩) (by simp) _).setCell (p := ⟨w.heap.size, 2, none⟩) (by simp) _).setCell (p := ⟨w.heap.size, 3, none⟩) (by simp) _).setCell (p := ⟨w.heap.size, 4, none⟩) (by simp) _
set_option maxHeartbeats 4000000 in
theorem one_o (w : World) (b off cap : Nat) (at_ : Nat) (L q op : Nat)  (Q : Ending → World → Prop) (hL2 : L ≤ 1048576) (hlt : at_ < L)
  (hq : q < 256) (hop : op = q % 128) (hlg : false = decide (128 ≤ q)) (c0 : w.cell? ⟨b, off + at_, none⟩ = some (.int .u8 (q : Int))) (hope : op = 21) (hbl : b < w.heap.size) (q1 q2 : Nat) (hq1 : q1 < 256) (g1 : w.cell? ⟨b, off + (at_ + 1), none⟩ = some (.int .u8 (q1 : Int))) (hq2 : q2 < 256) (g2 : w.cell? ⟨b, off + (at_ + 2), none⟩ = some (.int .u8 (q2 : Int))) (hfit : at_ + 3 ≤ L) (p : Bool) (t : Nat) (hp : p = decide (127 < q2)) (ht : t = if p then 1 else 0)
  (hQ : ∀ w', Below w.heap.size w w' → Q (.returned (.tuple #[.agg #[.int .i64 (op : Int), .int .i64 (q1 : Int), .int .i64 0, .int .i64 0, .int .i64 ((at_ : Int) + 3 + (q2 : Int) - 256 * (t : Int))], .int .i64 3, .bool true])) w') :
  Calls Tryd.prog 115 #[.slice (some ⟨b, off, none⟩) L cap, .int .i64 (at_ : Int)] w Q := by
 have h1 : 1 ≤ op := by omega
 have h2 : op ≤ 22 := by omega
 have hjp : jmpN op = true := by rw [hope]; rfl
 have HS := Lib.hid (fun w' => ssizeC w' op h1 h2 false 3 (by rw [hope]; rfl))
 have HQ := Lib.hid hQ
 have m0 : (L : Int) ≤ 1048576 := by omega
 have ft : (at_ : Int) + 3 ≤ L := by omega
 have hne : ¬ (w.heap.size + 1 = b) := by omega
 have hnx : ¬ (b = w.heap.size + 1) := by omega
 have b21 : ((op : Int) == 21) = true := by simp; omega
 have p1 : (0 : Int) ≤ q1 := by omega
 have r1 : (q1 : Int) ≤ 255 := by omega
 have p2 : (0 : Int) ≤ q2 := by omega
 have r2 : (q2 : Int) ≤ 255 := by omega
 have hp2 : decide ((127 : Int) < (q2 : Int)) = p := by rw [hp]; rw [Bool.eq_iff_iff]; simp; omega
 have htt : t ≤ 1 := by rw [ht]; split <;> omega
 have HT := Lib.hid (fun w' => struth_any w' p t ht)
 have HP2 := Lib.hid hp2
 clear hp ht hp2
 clear hope hQ
 have k0 : (0 : Int) ≤ at_ := by omega
 have k1 : (at_ : Int) < L := by omega
 have e1 : decide ((128 : Int) ≤ (q : Int)) = false := by rw [hlg]; rw [Bool.eq_iff_iff]; simp at hlg ⊢; omega
 have e2 : (q : Int) % 128 = (op : Int) := by omega
 have c1 := fun o => cellB (below1 w o) c0
 have HC0 := Lib.hid c0
 have HW := Lib.hid (fun w' => l22Word_any w' (op : Int))
 unfold WordPost at HW
 have HFN := Lib.hid (fieldStr_ne op h1 h2)
 rw [show opIn (op : Int) = true from inR_iff.mpr ⟨by omega, by omega⟩] at HW
 simp only [if_true] at HW
 generalize nameOf (op : Int) = nm at HW
 generalize fieldStr (op : Int) = fm at HW HFN
 have hfn := HFN.out
 have HJ := Lib.hid (fun w' => sjump_any w' op 0 0 0 0)
 rw [hjp] at HJ
 clear hjp HFN
 clear c0 hlg hop
 go_enter Tryd.func115, Tryd.ntmps115
 go_wp2_with (fail)
 go_at_call 130
 generalize hwa : w.alloc _ = wa
 obtain ⟨hba, _⟩ := box5 hwa
 have hsa : wa.heap.size = w.heap.size + 1 := by rw [← hwa]; simp
 have hra : Blk wa w.heap.size [.int .i64 0, .int .i64 0, .int .i64 0, .int .i64 0, .int .i64 0] := by rw [← hwa]; exact Blk.new w _ _
 generalize hwb : wa.alloc _ = wb
 have hxb : Blk wb (w.heap.size + 1) [.int .i64 (op : Int), .int .i64 0, .int .i64 0, .int .i64 0, .int .i64 0] := by rw [← hwb, ← hsa]; exact Blk.new wa _ _
 have hbb : Below wa.heap.size wa wb := by rw [← hwb]; exact below1 _ _
 have hrb := hra.below hbb
 refine (HW.out wb).mono ?_
 rintro e w2 ⟨rfl, hb2⟩
 have HRB := Lib.hid (hrb.below hb2)
 have HXB := Lib.hid (hxb.below hb2)
 have HB2 := Lib.hid ((hba.trans (hbb.mono hba.size)).trans (hb2.mono (by have := hbb.size; omega)))
 clear hwa hba hsa hra hwb hxb hbb hrb hb2 HW c1 e1 e2 k1
 have HRB2 := HRB; have HXB2 := HXB
 clear HRB HXB
 obtain ⟨x0, x1, x2, x3, x4⟩ := HXB2.out.five
 go_wp2_with (fail)
 go_at_call 138
 refine (HS.out w2).mono ?_
 rintro e w3 ⟨rfl, hb3⟩
 have HRB3 := Lib.hid (HRB2.out.below hb3)
 have HXB3 := Lib.hid (HXB2.out.below hb3)
 have HB3 := Lib.hid (HB2.out.trans (hb3.mono HB2.out.size))
 clear hb3 x0 x1 x2 x3 x4 HRB2 HXB2 HB2
 obtain ⟨x0, x1, x2, x3, x4⟩ := HXB3.out.five
 go_wp2_with (fail)
 go_at_call 116
 refine (HJ.out w3).mono ?_
 rintro e w4 ⟨rfl, hb4⟩
 have HRB4 := Lib.hid (HRB3.out.below hb4)
 have HXB4 := Lib.hid (HXB3.out.below hb4)
 have HB4 := Lib.hid (HB3.out.trans (hb4.mono HB3.out.size))
 clear hb4 x0 x1 x2 x3 x4 HRB3 HXB3 HB3
 obtain ⟨x0, x1, x2, x3, x4⟩ := HXB4.out.five
 have a1 : (at_ : Int) + 1 < L := by omega
 have a2 : (at_ : Int) + 2 < L := by omega
 have t1 := cellB HB4.out g1
 have t2 := cellB HB4.out g2
 have xf := HXB4.out.frozen
 have xf1 := xf 1; have xf2 := xf 2; have xf3 := xf 3; have xf4 := xf 4
 have G2 := Lib.hid g2
 clear xf g1 g2
 have S1 := Lib.hid (show IntKind.i64.wrap ((at_ : Int) + 3) = (at_ : Int) + 3 from IntWalk.i64_in _ (by omega))
 have S3 := Lib.hid (show IntKind.i64.wrap ((at_ : Int) + 3 - 1) = (at_ : Int) + 2 from by rw [IntWalk.i64_in _ (by omega)]; omega)
 have S4 := Lib.hid (show IntKind.i64.wrap (256 * (t : Int)) = 256 * (t : Int) from IntWalk.i64_in _ (by omega))
 have S5 := Lib.hid (show IntKind.i64.wrap ((at_ : Int) + 3 + (q2 : Int)) = (at_ : Int) + 3 + (q2 : Int) from IntWalk.i64_in _ (by omega))
 have S6 := Lib.hid (show IntKind.i64.wrap ((at_ : Int) + 3 + (q2 : Int) - 256 * (t : Int)) = (at_ : Int) + 3 + (q2 : Int) - 256 * (t : Int) from IntWalk.i64_in _ (by omega))
 have S7 := Lib.hid (show IntKind.i64.wrap (q2 : Int) = (q2 : Int) from IntWalk.i64_in _ (by omega))
 have i1 : (0 : Int) ≤ (at_ : Int) + 1 := by omega
 have i2 : (0 : Int) ≤ (at_ : Int) + 2 := by omega
 have i3 : ((at_ : Int) + 1).toNat = at_ + 1 := by omega
 have i4 : ((at_ : Int) + 2).toNat = at_ + 2 := by omega
 go_wp2_with (fail)
 generalize hw5 : w4.setCell _ _ = w5
 have HXB5 := Lib.hid (show Blk w5 (w.heap.size + 1) [.int .i64 (op : Int), .int .i64 (q1 : Int), .int .i64 0, .int .i64 0, .int .i64 0] from by rw [← hw5]; exact HXB4.out.set 1 _)
 have HRB5 := Lib.hid (show Blk w5 w.heap.size [.int .i64 0, .int .i64 0, .int .i64 0, .int .i64 0, .int .i64 0] from by rw [← hw5]; exact HRB4.out.other (by simp) _)
 have HB5 := Lib.hid (show Below w.heap.size w w5 from by rw [← hw5]; exact HB4.out.setCell (by simp) _)
 clear hw5 x0 x1 x2 x3 x4 xf1 xf2 xf3 xf4 HRB4 HXB4 HB4 t1 t2
 have t2 := cellB HB5.out G2.out
 obtain ⟨x0, x1, x2, x3, x4⟩ := HXB5.out.five
 have xf := HXB5.out.frozen
 have xf1 := xf 1; have xf2 := xf 2; have xf3 := xf 3; have xf4 := xf 4
 clear xf
 have s1 := S1.out; have s3 := S3.out; have s4 := S4.out; have s5 := S5.out; have s6 := S6.out; have s7 := S7.out; have hp2 := HP2.out
 clear htt
 refine wp_region_still_tail 25 (by kernel_rfl) (by kernel_rfl) ?_
 simp only [List.take_succ_cons, List.take_zero, List.drop_succ_cons, List.drop_zero]
 repeat still_step
 still_call (HT.out _)
 repeat still_step
 try refine wpStill_nil ?_
 change wpList _ _ _ _ _ w5.drew
 have HRB6 := Lib.hid (HRB5.out.drew)
 have HXB6 := Lib.hid (HXB5.out.drew)
 have HB6 := Lib.hid (HB5.out.drew)
 clear x0 x1 x2 x3 x4 xf1 xf2 xf3 xf4 HRB5 HXB5 HB5 t2 G2 s1 s3 s4 s5 s6 s7 hp2 S1 S3 S4 S5 S6 S7 HP2 HT
 generalize w5.drew = w6 at *
 obtain ⟨x0, x1, x2, x3, x4⟩ := HXB6.out.five
 have xf := HXB6.out.frozen
 have xf1 := xf 1; have xf2 := xf 2; have xf3 := xf 3; have xf4 := xf 4
 clear xf
 obtain ⟨r0, r1, r2, r3, r4⟩ := HRB6.out.five
 have rf := HRB6.out.frozen
 have rf0 := rf 0; have rf1 := rf 1; have rf2 := rf 2; have rf3 := rf 3; have rf4 := rf 4
 clear rf
 go_wp2_with (fail)
 refine bodyPost_ret (v := .tuple #[.agg #[.int .i64 (op : Int), .int .i64 (q1 : Int), .int .i64 0, .int .i64 0, .int .i64 ((at_ : Int) + 3 + (q2 : Int) - 256 * (t : Int))], .int .i64 3, .bool true]) (by simp [results, Tryd.results115, go_sem, r0, r1, r2, r3, r4]) rfl ?_
 refine HQ.out _ ?_
 exact (((((HB6.out.setCell (p := ⟨w.heap.size + 1, 4, none⟩) (by simp) _).setCell (p := ⟨w.heap.size, 0, none⟩) (by simp) _).setCell (p := ⟨w.heap.size, 1, none⟩) (by simp) _).setCell (p := ⟨w.heap.size, 2, none⟩) (by simp) _).setCell (p := ⟨w.heap.size, 3, none⟩) (by simp) _).setCell (p := ⟨w.heap.size, 4, none⟩) (by simp) _
end Go.Proofs.YtbdbmmdnidonjaaDoor
set_option maxRecDepth 100000
namespace Go.Proofs.YtbdbmmdnidonjaaDoor
open Go.RowKit
theorem sizO_of {op : Nat} {lg : Bool} : sizO op lg = if jmpN op then 2 + (if op = 21 then 1 else 0) + (if lg then 1 else 0) else if shN op = 0 ∨ shN op = 2 then 3 else 2 := by
 unfold sizO sizN
 cases hj : jmpN op with
 |true => simp
 |false =>
  simp only [Bool.false_eq_true, if_false]
  unfold encB
  repeat' split
  all_goals simp_all
theorem one_any (w : World) (v : Value) (cs : List Nat) (at_ : Nat) (h : CsAt w v cs) (hlt : at_ < cs.length) (hle : cs.length ≤ 1048576) :
  Calls Tryd.prog 115 #[v, .int .i64 (at_ : Int)] w (OneP (oneN cs at_) w) := by
 obtain ⟨a, cap, rfl, hs, hc⟩ := h
 obtain ⟨b, off, rfl, c0⟩ := hc at_ hlt
 have hq := byteN_lt hs at_
 have hbl := World.block_lt_of_cell? w _ c0
 simp only at hbl
 have hcell : ∀ i, i < cs.length → w.cell? ⟨b, off + i, none⟩ = some (.int .u8 ((byteN cs i : Nat) : Int)) := fun i hi => by
  obtain ⟨b', off', he, h1⟩ := hc i hi
  injection he with he; injection he with e1 e2 e3; subst e1 e2; exact h1
 have hno : ∀ x : Mi, ∀ n : Nat, oneN cs at_ = none → ∀ w', Below w.heap.size w w' → OneP (oneN cs at_) w (.returned (.tuple #[x.val, .int .i64 (n : Int), .bool false])) w' := fun x n hn w' hb =>
  ⟨x, n, false, rfl, (fun h => by cases h), fun _ => hn, hb⟩
 have hyes : ∀ x : Mi, ∀ n : Nat, oneN cs at_ = some (x, n) → ∀ w', Below w.heap.size w w' → OneP (oneN cs at_) w (.returned (.tuple #[x.val, .int .i64 (n : Int), .bool true])) w' := fun x n hn w' hb =>
  ⟨x, n, true, rfl, fun _ => hn, (fun h => by cases h), hb⟩
 by_cases hop : 1 ≤ opAt cs at_ ∧ opAt cs at_ ≤ 22
 rotate_left
 ·refine one_a w b off cap at_ cs.length (byteN cs at_) (opAt cs at_) _ _ hle hlt hq rfl rfl c0 ?_ ?_
  ·cases hh : opIn (opAt cs at_ : Int) with
   |false => rfl
   |true => have := inR_iff.mp hh; omega
  ·refine hno ⟨opAt cs at_, 0, 0, 0, 0⟩ 0 ?_
   unfold oneN isOp
   rw [if_neg]
   simp only [Bool.and_eq_true, decide_eq_true_eq]
   omega
 obtain ⟨h1, h2⟩ := hop
 cases hj : jmpN (opAt cs at_) with
 |false =>
  cases hl : lgAt cs at_ with
  |true =>
   refine one_b w b off cap at_ cs.length (byteN cs at_) (opAt cs at_) _ hle hlt hq rfl hl.symm c0 h1 h2 hj ?_
   refine hno ⟨opAt cs at_, 0, 0, 0, 0⟩ 0 ?_
   unfold oneN isOp
   rw [if_neg]
   rw [hj, hl]
   simp
  |false =>
   have hio : isOp cs at_ = true := by
    unfold isOp; rw [hl]; simp [h1, h2]
   have hsz : sizAt cs at_ = sizO (opAt cs at_) false := by unfold sizAt; rw [hl]
   have hs0 := sizO_le (opAt cs at_) false
   by_cases hfit : at_ + sizAt cs at_ ≤ cs.length
   rotate_left
   ·refine one_c w b off cap at_ cs.length (byteN cs at_) (opAt cs at_) _ hle hlt hq rfl hl.symm c0 h1 h2 _ hsz _ hj (by omega) ?_
    refine hno ⟨opAt cs at_, 0, 0, 0, 0⟩ 0 ?_
    unfold oneN
    rw [if_neg]
    simp only [Bool.and_eq_true, decide_eq_true_eq]
    omega
   have hone : oneN cs at_ = some (decI cs at_ (opAt cs at_) false (sizAt cs at_), sizAt cs at_) := by
    unfold oneN; rw [hio, hl]; simp [hfit]
   have hdec : decI cs at_ (opAt cs at_) false (sizAt cs at_) = if shN (opAt cs at_) = 0 then ⟨(opAt cs at_ : Nat), byteN cs (at_ + 1), 0, 0, byteN cs (at_ + 2)⟩
     else if shN (opAt cs at_) = 1 then ⟨(opAt cs at_ : Nat), ((byteN cs (at_ + 1) % 8 : Nat) : Int), ((byteN cs (at_ + 1) / 8 : Nat) : Int), 0, 0⟩
     else if shN (opAt cs at_) = 2 then ⟨(opAt cs at_ : Nat), ((byteN cs (at_ + 1) % 8 : Nat) : Int), ((byteN cs (at_ + 1) / 8 : Nat) : Int), byteN cs (at_ + 2), 0⟩
     else if shN (opAt cs at_) = 4 then ⟨(opAt cs at_ : Nat), 0, 0, 0, byteN cs (at_ + 1)⟩ else ⟨(opAt cs at_ : Nat), byteN cs (at_ + 1), 0, 0, 0⟩ := by
    unfold decI; rw [hj]; simp only [Bool.false_eq_true, if_false]
   have hszv := hsz
   rw [sizO_of, hj] at hszv
   simp only [Bool.false_eq_true, if_false] at hszv
   have hj' : opAt cs at_ ≠ 20 ∧ opAt cs at_ ≠ 21 := by
    unfold jmpN at hj
    simpa using hj
   have b1 := byteN_lt hs (at_ + 1)
   have b2 := byteN_lt hs (at_ + 2)
   rcases (show opAt cs at_ = 1 ∨ (15 ≤ opAt cs at_ ∧ opAt cs at_ ≤ 18) ∨ (3 ≤ opAt cs at_ ∧ opAt cs at_ ≤ 9) ∨ opAt cs at_ = 2 ∨ (10 ≤ opAt cs at_ ∧ opAt cs at_ ≤ 12) ∨ opAt cs at_ = 14 ∨ (opAt cs at_ = 13 ∨ opAt cs at_ = 19 ∨ opAt cs at_ = 22) by omega) with ho | ho | ho | ho | ho | ho | ho
   ·have hsh : shN (opAt cs at_) = 0 := by unfold shN; rw [if_pos (by omega)]
    rw [hsh] at hdec hszv; simp only [if_true, true_or] at hdec hszv
    refine one_e w b off cap at_ cs.length (byteN cs at_) (opAt cs at_) _ hle hlt hq rfl hl.symm c0 h1 h2 _ hsz hj hfit ho hbl _ _ b1 b2 (hcell _ (by omega)) (by omega) (hcell _ (by omega)) ?_
    rw [hdec] at hone
    exact hyes _ _ hone
   ·have hsh : shN (opAt cs at_) = 0 := by unfold shN; rw [if_pos (by omega)]
    rw [hsh] at hdec hszv; simp only [if_true, true_or] at hdec hszv
    refine one_f w b off cap at_ cs.length (byteN cs at_) (opAt cs at_) _ hle hlt hq rfl hl.symm c0 h1 h2 _ hsz hj hfit ho hbl _ _ b1 b2 (hcell _ (by omega)) (by omega) (hcell _ (by omega)) ?_
    rw [hdec] at hone
    exact hyes _ _ hone
   ·have hsh : shN (opAt cs at_) = 2 := by unfold shN; (repeat' split) <;> omega
    rw [hsh] at hdec hszv; simp at hdec hszv
    refine one_g w b off cap at_ cs.length (byteN cs at_) (opAt cs at_) _ hle hlt hq rfl hl.symm c0 h1 h2 _ hsz hj hfit ho hbl _ _ b1 b2 (hcell _ (by omega)) (by omega) (hcell _ (by omega)) ?_
    rw [hdec] at hone
    exact hyes _ _ hone
   ·have hsh : shN (opAt cs at_) = 1 := by unfold shN; (repeat' split) <;> omega
    rw [hsh] at hdec hszv; simp at hdec hszv
    refine one_h w b off cap at_ cs.length (byteN cs at_) (opAt cs at_) _ hle hlt hq rfl hl.symm c0 h1 h2 _ hsz hj hfit ho hbl _ b1 (hcell _ (by omega)) ?_
    rw [hdec] at hone
    exact hyes _ _ hone
   ·have hsh : shN (opAt cs at_) = 1 := by unfold shN; (repeat' split) <;> omega
    rw [hsh] at hdec hszv; simp at hdec hszv
    refine one_i w b off cap at_ cs.length (byteN cs at_) (opAt cs at_) _ hle hlt hq rfl hl.symm c0 h1 h2 _ hsz hj hfit ho hbl _ b1 (hcell _ (by omega)) ?_
    rw [hdec] at hone
    exact hyes _ _ hone
   ·have hsh : shN (opAt cs at_) = 4 := by unfold shN; (repeat' split) <;> omega
    rw [hsh] at hdec hszv; simp at hdec hszv
    refine one_j w b off cap at_ cs.length (byteN cs at_) (opAt cs at_) _ hle hlt hq rfl hl.symm c0 h1 h2 _ hsz hj hfit ho hbl _ b1 (hcell _ (by omega)) ?_
    rw [hdec] at hone
    exact hyes _ _ hone
   ·have hsh : shN (opAt cs at_) = 3 := by unfold shN; (repeat' split) <;> omega
    rw [hsh] at hdec hszv; simp at hdec hszv
    refine one_k w b off cap at_ cs.length (byteN cs at_) (opAt cs at_) _ hle hlt hq rfl hl.symm c0 h1 h2 _ hsz hj hfit ho hbl _ b1 (hcell _ (by omega)) ?_
    rw [hdec] at hone
    exact hyes _ _ hone
 |true =>
  have ho : opAt cs at_ = 20 ∨ opAt cs at_ = 21 := by
   unfold jmpN at hj
   simpa using hj
  cases hl : lgAt cs at_ with
  |true =>
   have hio : isOp cs at_ = true := by
    unfold isOp; rw [hl, hj]; simp [h1, h2]
   have hsz : sizAt cs at_ = sizO (opAt cs at_) true := by unfold sizAt; rw [hl]
   by_cases hfit : at_ + sizAt cs at_ ≤ cs.length
   rotate_left
   ·refine one_d w b off cap at_ cs.length (byteN cs at_) (opAt cs at_) _ hle hlt hq rfl hl.symm c0 h1 h2 _ hsz hj (by omega) ?_
    refine hno ⟨opAt cs at_, 0, 0, 0, 0⟩ 0 ?_
    unfold oneN
    rw [if_neg]
    simp only [Bool.and_eq_true, decide_eq_true_eq]
    omega
   have hone : oneN cs at_ = some (decI cs at_ (opAt cs at_) true (sizAt cs at_), sizAt cs at_) := by
    unfold oneN; rw [hio, hl]; simp [hfit]
   rcases ho with ho | ho
   ·have hz : sizAt cs at_ = 3 := by rw [hsz, sizO_of, hj, ho]; rfl
    rw [hz] at hone hfit
    refine one_l w b off cap at_ cs.length (byteN cs at_) (opAt cs at_) _ hle hlt hq rfl hl.symm c0 ho hbl _ _ (byteN_lt hs _) (hcell _ (by omega)) (byteN_lt hs _) (hcell _ (by omega)) hfit ?_
    have := hyes _ _ hone
    unfold decI at this
    rw [hj] at this
    simp only [if_true, show at_ + 3 - 2 = at_ + 1 by omega, show at_ + 3 - 1 = at_ + 2 by omega, ho] at this
    simp only [ho]
    exact this
   ·have hz : sizAt cs at_ = 4 := by rw [hsz, sizO_of, hj, ho]; rfl
    rw [hz] at hone hfit
    refine one_m w b off cap at_ cs.length (byteN cs at_) (opAt cs at_) _ hle hlt hq rfl hl.symm c0 ho hbl _ _ _ (byteN_lt hs _) (hcell _ (by omega)) (byteN_lt hs _) (hcell _ (by omega)) (byteN_lt hs _) (hcell _ (by omega)) hfit ?_
    have := hyes _ _ hone
    unfold decI at this
    rw [hj] at this
    simp only [if_true, show at_ + 4 - 2 = at_ + 2 by omega, show at_ + 4 - 1 = at_ + 3 by omega, ho] at this
    simp only [ho]
    exact this
  |false =>
   have hio : isOp cs at_ = true := by
    unfold isOp; rw [hl]; simp [h1, h2]
   have hsz : sizAt cs at_ = sizO (opAt cs at_) false := by unfold sizAt; rw [hl]
   by_cases hfit : at_ + sizAt cs at_ ≤ cs.length
   rotate_left
   ·refine one_c w b off cap at_ cs.length (byteN cs at_) (opAt cs at_) _ hle hlt hq rfl hl.symm c0 h1 h2 _ hsz _ hj (by omega) ?_
    refine hno ⟨opAt cs at_, 0, 0, 0, 0⟩ 0 ?_
    unfold oneN
    rw [if_neg]
    simp only [Bool.and_eq_true, decide_eq_true_eq]
    omega
   have hone : oneN cs at_ = some (decI cs at_ (opAt cs at_) false (sizAt cs at_), sizAt cs at_) := by
    unfold oneN; rw [hio, hl]; simp [hfit]
   have hsg : ∀ q : Nat, ∀ z : Int, z + q - 256 * ((if decide (127 < q) then 1 else 0 : Nat) : Int) = z + sgnN q := fun q z => by
    unfold sgnN
    by_cases h : 127 < q
    ·simp [h]; omega
    ·simp [h]
   rcases ho with ho | ho
   ·have hz : sizAt cs at_ = 2 := by rw [hsz, sizO_of, hj, ho]; rfl
    rw [hz] at hone hfit
    refine one_n w b off cap at_ cs.length (byteN cs at_) (opAt cs at_) _ hle hlt hq rfl hl.symm c0 ho hbl _ (byteN_lt hs _) (hcell _ (by omega)) hfit _ _ rfl rfl ?_
    have := hyes _ _ hone
    unfold decI at this
    rw [hj] at this
    simp only [if_true, show at_ + 2 - 1 = at_ + 1 by omega, ho] at this
    simp only [ho]
    rw [hsg]
    exact this
   ·have hz : sizAt cs at_ = 3 := by rw [hsz, sizO_of, hj, ho]; rfl
    rw [hz] at hone hfit
    refine one_o w b off cap at_ cs.length (byteN cs at_) (opAt cs at_) _ hle hlt hq rfl hl.symm c0 ho hbl _ _ (byteN_lt hs _) (hcell _ (by omega)) (byteN_lt hs _) (hcell _ (by omega)) hfit _ _ rfl rfl ?_
    have := hyes _ _ hone
    unfold decI at this
    rw [hj] at this
    simp only [if_true, show at_ + 3 - 1 = at_ + 2 by omega, ho] at this
    simp only [ho]
    rw [hsg]
    exact this
end Go.Proofs.YtbdbmmdnidonjaaDoor
