/- impl's triesOf, InputsFor. impl's ApartOn. Trees of the call's own: each row a block, what hangs below an element in an interval of blocks of its own. No program in sight. -/
import Derived.Test.YtpnliencahnmoaaGreatDoorQ23
import Derived.Test.YtpnliencahnmoaaGreatDoorQ19
import Derived.Test.YtpnliencahnmoaaGreatDoorQ2
import Derived.Test.YtpnliencahnmoaaGreatDoorQ1
set_option linter.unusedVariables false
set_option linter.unusedSimpArgs false
set_option linter.unusedVariables false
set_option linter.unusedSimpArgs false
set_option maxRecDepth 100000
namespace Go.Proofs.YtpnliencahnmoaaGreatDoor
open Go.RowKit
/-- the numbers to try lie in their variable -/
def TriesAt (w : World) : Prop := Blk w 0 (nats [0, 0, 0, 1, 2, 3, 255, 16, 7])
theorem TriesAt.below {w w' : World} (h : TriesAt w) (hb : Below w.heap.size w w') : TriesAt w' := Blk.below h hb
set_option maxHeartbeats 4000000 in
theorem triesOf_any (w : World) (n : Nat) (hn : n ≤ 3) (hT : TriesAt w) : Calls Tryz.prog 50 #[.int .i64 (n : Int)] w (InsP n w) := by
  obtain ⟨j0, hj, hy0, hy1, hy2⟩ := info_parts info_ints
  have c0 : w.cell? ⟨0, 0, none⟩ = some (.int .i64 0) := (hT.cell 0).trans rfl
  have c1 : w.cell? ⟨0, 1, none⟩ = some (.int .i64 0) := (hT.cell 1).trans rfl
  have c2 : w.cell? ⟨0, 2, none⟩ = some (.int .i64 0) := (hT.cell 2).trans rfl
  have c3 : w.cell? ⟨0, 3, none⟩ = some (.int .i64 1) := (hT.cell 3).trans rfl
  have c4 : w.cell? ⟨0, 4, none⟩ = some (.int .i64 2) := (hT.cell 4).trans rfl
  have c5 : w.cell? ⟨0, 5, none⟩ = some (.int .i64 3) := (hT.cell 5).trans rfl
  have c6 : w.cell? ⟨0, 6, none⟩ = some (.int .i64 255) := (hT.cell 6).trans rfl
  have c7 : w.cell? ⟨0, 7, none⟩ = some (.int .i64 16) := (hT.cell 7).trans rfl
  have c8 : w.cell? ⟨0, 8, none⟩ = some (.int .i64 7) := (hT.cell 8).trans rfl
  clear hT
  go_enter Tryz.func50, Tryz.ntmps50
  go_wp2_with (fail)
  clear c0 c1 c2 c3 c4 c5 c6 c7 c8
  go_loopw [3, 7] (fun v i wr => ∃ (j : Nat) (rs : List Value), j ≤ 3 ∧ i = .int .i64 j ∧ Hid (InsAt wr w.heap.size v j n rs) ∧ Hid (Below w.heap.size w wr)) (fun _ i _ => 3 - (intOf i).toNat)
  case atStart => exact ⟨0, [], Nat.zero_le _, rfl, Lib.hid ⟨World.ownsRow_nil _ _ _ _, fun i hi => by omega⟩, Lib.hid (Below.refl _ _)⟩
  case round =>
  obtain ⟨j, rs, hj3, rfl, HI, HB⟩ := hrel
  obtain ⟨va, vc, hvf⟩ := rowForm HI.out.row
  subst hvf
  by_cases hlt : j < 3
  · have hj4 : j = 0 ∨ j = 1 ∨ j = 2 := by omega
    have hws : w.heap.size ≤ wr.heap.size := HB.out.size
    have k0 : (0 : Int) ≤ j := by omega
    have k1 : (j : Int) < 3 := by omega
    have n0 : (0 : Int) ≤ n := by omega
    have n1 : (n : Int) ≤ 3 := by omega
    rcases hj4 with rfl | rfl | rfl
    · obtain ⟨X, hX⟩ : ∃ X, X = wr.heap.size := ⟨_, rfl⟩
      obtain ⟨w1, hw1⟩ : ∃ w1, w1 = wr.alloc (.cells #[.int .i64 0, .int .i64 0, .int .i64 0] 119) := ⟨_, rfl⟩
      have hb1 : Below wr.heap.size wr w1 := by rw [hw1]; exact below1 _ _
      have hk1 : Blk w1 X (nats (inp 0)) := by rw [hw1]; exact Blk.fresh hX rfl
      have hlen : ((inp 0).take n).length = n := by rw [List.length_take, inp_len]; omega
      have HC : Hid (Calls Tryz.prog 77 #[.slice (some ⟨X, 0, none⟩) n 3] w1 (ClP ((inp 0).take n) w1)) := Lib.hid (iclone_any w1 X 0 n 3 _ hlen (by omega) (fun i hi => by
        rw [Nat.zero_add, hk1.cell, nats_get (by rw [inp_len]; omega)]
        congr 3
        rw [List.getD_eq_getElem?_getD, List.getD_eq_getElem?_getD, List.getElem?_take_of_lt hi]))
      have HB1 := Lib.hid hb1; have HX := Lib.hid hX; have HLE := Lib.hid hlen
      have hXl : X < w1.heap.size := hk1.lt
      clear hb1 hlen hk1
      have hix : ∀ w' : World, (Instr.index 120 (.agg #[.int .i64 0, .int .i64 0, .int .i64 0, .int .i64 1, .int .i64 2, .int .i64 3, .int .i64 255, .int .i64 16, .int .i64 7]) (.int .i64 0)).run Tryz.prog w' = .ok (.agg #[.int .i64 0, .int .i64 0, .int .i64 0]) w' := fun w' => by rfl
      go_upto_region 5 with (fail)
      rw [← hX, ← hw1]
      clear hX hw1
      go_wp2_with (fail)
      go_at_call 77
      refine HC.out.mono ?_
      rintro e w3 ⟨rv, rfl, hb3, hown⟩
      rw [HLE.out] at hown
      obtain ⟨na, nc, hnf⟩ := rowForm hown
      subst hnf
      have HO := Lib.hid (ownsRow_mono hown (Nat.le_trans hws HB1.out.size))
      have HN3 := Lib.hid (fun q (hq : (Value.slice na n nc).ownBlock = some q) => Nat.le_trans HB1.out.size (World.ownsRow.lt hown q hq).1)
      have HB3 := Lib.hid (HB1.out.trans (hb3.mono HB1.out.size))
      clear hown hb3 HC
      have hws3 : w.heap.size ≤ w3.heap.size := Nat.le_trans hws HB3.out.size
      go_wp2_with (at_builtin; refine wpList_append_lies _ rfl (.tmp 10) (.tmp 14) 50 (by rfl) w.heap.size 26 j0 _ 1 24 Tryz.underlying50 hj hy0 hy1 hy2 rfl (by decide) _ 0 rs (by rfl) ((HI.out.below HB3.out).row.alloc _) ⟨w3.heap.size, 0, none⟩ 1 1 [.slice na n nc] (by rfl) rfl (World.news_of_block (heap_alloc_new _ _)) (by simp [Value.oneCell']) (by decide) (by unfold maxLen; omega) (by omega) (by simp; omega) _ rfl ?_; intro g9 c9 w9 ho9 hg9 hat9 _; have HI9 := Lib.hid (HI.out.snoc HB3.out HO.out HN3.out hg9 hat9 ho9); have HB9 : Hid (Below w.heap.size w w9) := Lib.hid (below_grown (HB.out.trans ((HB3.out.trans ((below1 w3 _).mono HB3.out.size)).mono HB.out.size)) hg9 (by simp; omega) (fun z hz => ownBlock_of HI.out.row z hz)); clear ho9 hg9 hat9)
      exact ⟨⟨0 + 1, _, by omega, by go_num, HI9, HB9⟩, by simp [intOf]⟩
    · obtain ⟨X, hX⟩ : ∃ X, X = wr.heap.size := ⟨_, rfl⟩
      obtain ⟨w1, hw1⟩ : ∃ w1, w1 = wr.alloc (.cells #[.int .i64 1, .int .i64 2, .int .i64 3] 119) := ⟨_, rfl⟩
      have hb1 : Below wr.heap.size wr w1 := by rw [hw1]; exact below1 _ _
      have hk1 : Blk w1 X (nats (inp 1)) := by rw [hw1]; exact Blk.fresh hX rfl
      have hlen : ((inp 1).take n).length = n := by rw [List.length_take, inp_len]; omega
      have HC : Hid (Calls Tryz.prog 77 #[.slice (some ⟨X, 0, none⟩) n 3] w1 (ClP ((inp 1).take n) w1)) := Lib.hid (iclone_any w1 X 0 n 3 _ hlen (by omega) (fun i hi => by
        rw [Nat.zero_add, hk1.cell, nats_get (by rw [inp_len]; omega)]
        congr 3
        rw [List.getD_eq_getElem?_getD, List.getD_eq_getElem?_getD, List.getElem?_take_of_lt hi]))
      have HB1 := Lib.hid hb1; have HX := Lib.hid hX; have HLE := Lib.hid hlen
      have hXl : X < w1.heap.size := hk1.lt
      clear hb1 hlen hk1
      have hix : ∀ w' : World, (Instr.index 120 (.agg #[.int .i64 0, .int .i64 0, .int .i64 0, .int .i64 1, .int .i64 2, .int .i64 3, .int .i64 255, .int .i64 16, .int .i64 7]) (.int .i64 1)).run Tryz.prog w' = .ok (.agg #[.int .i64 1, .int .i64 2, .int .i64 3]) w' := fun w' => by rfl
      go_upto_region 5 with (fail)
      rw [← hX, ← hw1]
      clear hX hw1
      go_wp2_with (fail)
      go_at_call 77
      refine HC.out.mono ?_
      rintro e w3 ⟨rv, rfl, hb3, hown⟩
      rw [HLE.out] at hown
      obtain ⟨na, nc, hnf⟩ := rowForm hown
      subst hnf
      have HO := Lib.hid (ownsRow_mono hown (Nat.le_trans hws HB1.out.size))
      have HN3 := Lib.hid (fun q (hq : (Value.slice na n nc).ownBlock = some q) => Nat.le_trans HB1.out.size (World.ownsRow.lt hown q hq).1)
      have HB3 := Lib.hid (HB1.out.trans (hb3.mono HB1.out.size))
      clear hown hb3 HC
      have hws3 : w.heap.size ≤ w3.heap.size := Nat.le_trans hws HB3.out.size
      go_wp2_with (at_builtin; refine wpList_append_lies _ rfl (.tmp 10) (.tmp 14) 50 (by rfl) w.heap.size 26 j0 _ 1 24 Tryz.underlying50 hj hy0 hy1 hy2 rfl (by decide) _ 1 rs (by rfl) ((HI.out.below HB3.out).row.alloc _) ⟨w3.heap.size, 0, none⟩ 1 1 [.slice na n nc] (by rfl) rfl (World.news_of_block (heap_alloc_new _ _)) (by simp [Value.oneCell']) (by decide) (by unfold maxLen; omega) (by omega) (by simp; omega) _ rfl ?_; intro g9 c9 w9 ho9 hg9 hat9 _; have HI9 := Lib.hid (HI.out.snoc HB3.out HO.out HN3.out hg9 hat9 ho9); have HB9 : Hid (Below w.heap.size w w9) := Lib.hid (below_grown (HB.out.trans ((HB3.out.trans ((below1 w3 _).mono HB3.out.size)).mono HB.out.size)) hg9 (by simp; omega) (fun z hz => ownBlock_of HI.out.row z hz)); clear ho9 hg9 hat9)
      exact ⟨⟨1 + 1, _, by omega, by go_num, HI9, HB9⟩, by simp [intOf]⟩
    · obtain ⟨X, hX⟩ : ∃ X, X = wr.heap.size := ⟨_, rfl⟩
      obtain ⟨w1, hw1⟩ : ∃ w1, w1 = wr.alloc (.cells #[.int .i64 255, .int .i64 16, .int .i64 7] 119) := ⟨_, rfl⟩
      have hb1 : Below wr.heap.size wr w1 := by rw [hw1]; exact below1 _ _
      have hk1 : Blk w1 X (nats (inp 2)) := by rw [hw1]; exact Blk.fresh hX rfl
      have hlen : ((inp 2).take n).length = n := by rw [List.length_take, inp_len]; omega
      have HC : Hid (Calls Tryz.prog 77 #[.slice (some ⟨X, 0, none⟩) n 3] w1 (ClP ((inp 2).take n) w1)) := Lib.hid (iclone_any w1 X 0 n 3 _ hlen (by omega) (fun i hi => by
        rw [Nat.zero_add, hk1.cell, nats_get (by rw [inp_len]; omega)]
        congr 3
        rw [List.getD_eq_getElem?_getD, List.getD_eq_getElem?_getD, List.getElem?_take_of_lt hi]))
      have HB1 := Lib.hid hb1; have HX := Lib.hid hX; have HLE := Lib.hid hlen
      have hXl : X < w1.heap.size := hk1.lt
      clear hb1 hlen hk1
      have hix : ∀ w' : World, (Instr.index 120 (.agg #[.int .i64 0, .int .i64 0, .int .i64 0, .int .i64 1, .int .i64 2, .int .i64 3, .int .i64 255, .int .i64 16, .int .i64 7]) (.int .i64 2)).run Tryz.prog w' = .ok (.agg #[.int .i64 255, .int .i64 16, .int .i64 7]) w' := fun w' => by rfl
      go_upto_region 5 with (fail)
      rw [← hX, ← hw1]
      clear hX hw1
      go_wp2_with (fail)
      go_at_call 77
      refine HC.out.mono ?_
      rintro e w3 ⟨rv, rfl, hb3, hown⟩
      rw [HLE.out] at hown
      obtain ⟨na, nc, hnf⟩ := rowForm hown
      subst hnf
      have HO := Lib.hid (ownsRow_mono hown (Nat.le_trans hws HB1.out.size))
      have HN3 := Lib.hid (fun q (hq : (Value.slice na n nc).ownBlock = some q) => Nat.le_trans HB1.out.size (World.ownsRow.lt hown q hq).1)
      have HB3 := Lib.hid (HB1.out.trans (hb3.mono HB1.out.size))
      clear hown hb3 HC
      have hws3 : w.heap.size ≤ w3.heap.size := Nat.le_trans hws HB3.out.size
      go_wp2_with (at_builtin; refine wpList_append_lies _ rfl (.tmp 10) (.tmp 14) 50 (by rfl) w.heap.size 26 j0 _ 1 24 Tryz.underlying50 hj hy0 hy1 hy2 rfl (by decide) _ 2 rs (by rfl) ((HI.out.below HB3.out).row.alloc _) ⟨w3.heap.size, 0, none⟩ 1 1 [.slice na n nc] (by rfl) rfl (World.news_of_block (heap_alloc_new _ _)) (by simp [Value.oneCell']) (by decide) (by unfold maxLen; omega) (by omega) (by simp; omega) _ rfl ?_; intro g9 c9 w9 ho9 hg9 hat9 _; have HI9 := Lib.hid (HI.out.snoc HB3.out HO.out HN3.out hg9 hat9 ho9); have HB9 : Hid (Below w.heap.size w w9) := Lib.hid (below_grown (HB.out.trans ((HB3.out.trans ((below1 w3 _).mono HB3.out.size)).mono HB.out.size)) hg9 (by simp; omega) (fun z hz => ownBlock_of HI.out.row z hz)); clear ho9 hg9 hat9)
      exact ⟨⟨2 + 1, _, by omega, by go_num, HI9, HB9⟩, by simp [intOf]⟩
  · obtain rfl : j = 3 := by omega
    go_wp2_with (fail)
    go_ret
    exact ⟨_, rs, rfl, HB.out, HI.out⟩
set_option maxHeartbeats 4000000 in
theorem implFor_any (w : World) (fs : List Fx) (v : Value) (hK : KS w) (hT : TriesAt w) (hW : FxsW fs) (hcap : CapOk v) (hX : FxsAt w v fs) (hle : fxsW fs ≤ 4194304) : Calls Tryz.prog 24 #[.agg #[v]] w (ForP fs w) := by
  obtain ⟨fa, fc, hvf, hfm⟩ := hX.form
  by_cases hp : prFine isNB fs
  · have h0 := hp.1
    unfold prVal at h0
    simp only [Bool.and_eq_true, decide_eq_true_eq] at h0
    obtain ⟨k, hk⟩ : ∃ k, fs.length = k + 1 := ⟨fs.length - 1, by omega⟩
    obtain ⟨f, hf⟩ : ∃ f, fs[k]? = some f := ⟨_, List.getElem?_eq_getElem (by omega)⟩
    have hfo := List.all_eq_true.1 h0.1.2 f (List.mem_of_getElem? hf)
    simp only [fxOk, Bool.and_eq_true, decide_eq_true_eq] at hfo
    have hn3 := hfo.1.1.2
    rw [hk] at hvf hfm
    subst hvf
    obtain ⟨_, fb, fo, pv, bv, rfl, hbl, x0, x1, x2, hpv, hbv⟩ := hX.get hf
    obtain ⟨pa, pc, hpf, hpm⟩ := hpv.form
    obtain ⟨n, hn⟩ : ∃ n, n = f.params.length := ⟨_, rfl⟩
    rw [← hn] at hpf hpm hn3
    subst hpf
    have hb1 := below1 w (.cells #[.slice (some ⟨fb, fo, none⟩) (k + 1) fc] 31)
    have HFI := Lib.hid (implFine_any fs _ (.slice (some ⟨fb, fo, none⟩) (k + 1) fc) true (hK.below hb1) hW (hX.below hb1) hcap hle ⟨fun _ => hp, fun _ => rfl⟩)
    have HX1 := Lib.hid x1; have HB1 := Lib.hid hb1; have HP := Lib.hid hp; have HF : Hid (fs[fs.length - 1]? = some f) := Lib.hid (by rw [hk, Nat.add_sub_cancel]; exact hf)
    have HN := Lib.hid hn
    have HIN := Lib.hid (fun w' (hb : Below w.heap.size w w') => triesOf_any w' n hn3 (hT.below hb))
    unfold big at hfm hpm
    have k0 : (0 : Int) ≤ k := by omega
    clear hK hT hW hcap hX hle hp hk hf hbv hpv hn x0 x1 x2 hb1 h0 hfo
    go_enter Tryz.func24, Tryz.ntmps24
    go_wp2_with (fail)
    go_at_call 33
    refine HFI.out.mono ?_
    rintro e w2 ⟨rfl, hb2⟩
    have hbw := HB1.out.trans (hb2.mono HB1.out.size)
    have x1 := cellB hbw HX1.out
    have q0 : w2.cell? ⟨w.heap.size, 0, none⟩ = some (.slice (some ⟨fb, fo, none⟩) (k + 1) fc) := by
      have hq : Blk (w.alloc (.cells #[.slice (some ⟨fb, fo, none⟩) (k + 1) fc] 31)) w.heap.size [.slice (some ⟨fb, fo, none⟩) (k + 1) fc] := Blk.new _ _ _
      rw [(hq.below hb2).cell]; rfl
    have HBW := Lib.hid hbw
    clear hb2 hbw
    go_wp2_with (fail)
    go_at_call 50
    refine (HIN.out w2 HBW.out).mono ?_
    rintro e w3 ⟨v, rs, rfl, hb3, hI⟩
    have HI := Lib.hid hI; have HB3 := Lib.hid (HBW.out.trans (hb3.mono HBW.out.size))
    obtain ⟨va, vc, hvf⟩ := rowForm hI.row
    subst hvf
    clear hI hb3
    go_wp2_with (fail)
    go_ret
    exact ⟨_, 3, n, rs, rfl, HB3.out, HI.out.mono HBW.out.size, fun _ => ⟨rfl, hn3, f, HF.out, HN.out⟩, fun h => absurd HP.out h⟩
  · subst hvf
    have hb1 := below1 w (.cells #[.slice fa fs.length fc] 31)
    have HFI := Lib.hid (implFine_any fs _ (.slice fa fs.length fc) false (hK.below hb1) hW (hX.below hb1) hcap hle ⟨fun h => (by cases h), fun h => absurd h hp⟩)
    have HB1 := Lib.hid hb1; have HP := Lib.hid hp
    clear hK hT hW hcap hX hle hp hb1
    go_enter Tryz.func24, Tryz.ntmps24
    go_wp2_with (fail)
    go_at_call 33
    refine HFI.out.mono ?_
    rintro e w2 ⟨rfl, hb2⟩
    have HBW := Lib.hid (HB1.out.trans (hb2.mono HB1.out.size))
    clear hb2
    go_wp2_with (fail)
    go_ret
    exact ⟨_, 0, 0, [], rfl, HBW.out, ⟨World.ownsRow_nil _ _ _ _, fun i hi => by omega⟩, fun h => absurd h HP.out, fun _ => rfl⟩
end Go.Proofs.YtpnliencahnmoaaGreatDoor

set_option linter.unusedVariables false
set_option linter.unusedSimpArgs false
set_option maxRecDepth 100000
namespace Go.Proofs.YtpnliencahnmoaaGreatDoor
open Go.RowKit
theorem OutI.en_eq {w : World} {v0 v3 : Value} {en z : Int} {r : Rs} (h : OutI w (.agg #[v0, .int .i64 en, .int .i64 z, v3]) r) : en = (r.en : Int) := by
  obtain ⟨sa, ca, sc, cc, h1, _⟩ := h
  simp only [Value.agg.injEq, Array.mk.injEq, List.cons.injEq, Value.int.injEq] at h1
  exact h1.2.1.2
theorem runFormI {v : Value} {b : Bool} (hz : b = false → v = .agg #[.slice none 0 0, .int .i64 0, .int .i64 0, .slice none 0 0]) {fs : List Fx} {xs : List Nat} {w : World} (ht : b = true → ∃ r g, evC fs g (fs.length - 1) xs (startCm 400) = some r ∧ OutI w v r) : ∃ (sa : Option Addr) (sl sc : Nat) (en z : Int) (ca : Option Addr) (cl cc : Nat), v = .agg #[.slice sa sl sc, .int .i64 en, .int .i64 z, .slice ca cl cc] := by
  cases b
  · exact ⟨none, 0, 0, 0, 0, none, 0, 0, hz rfl⟩
  · obtain ⟨r, g, _, h⟩ := ht rfl
    exact h.form
/-- whether a program fits turns on the number of inputs alone -/
theorem fits_len {fs : List Fx} {xs ys : List Nat} (h : Fits fs xs) (hl : xs.length = ys.length) : Fits fs ys := ⟨h.1, by obtain ⟨f, h1, h2⟩ := h.2; exact ⟨f, h1, by rw [← hl]; exact h2⟩⟩
set_option maxHeartbeats 8000000 in
theorem implApart_any (w : World) (fa fb : List Fx) (va vb : Value) (hK : KS w) (hT : TriesAt w) (hWa : FxsW fa) (hWb : FxsW fb) (hca : CapOk va) (hcb : CapOk vb) (hXa : FxsAt w va fa) (hXb : FxsAt w vb fb) (hla : fxsW fa ≤ 4194304) (hlb : fxsW fb ≤ 4194304) : Calls Tryz.prog 8 #[.agg #[va], .agg #[vb]] w (ApartP fa fb w) := by
  obtain ⟨aa, ac, hvf, hfm⟩ := hXa.form
  obtain ⟨ba, bc, hvg, hfn⟩ := hXb.form
  obtain ⟨la, hla2⟩ : ∃ l, l = fa.length := ⟨_, rfl⟩
  obtain ⟨lb, hlb2⟩ : ∃ l, l = fb.length := ⟨_, rfl⟩
  rw [← hla2] at hvf
  rw [← hlb2] at hvg
  subst hvf hvg
  obtain ⟨PA, hPA⟩ : ∃ p, p = w.heap.size := ⟨_, rfl⟩
  obtain ⟨PB, hPB⟩ : ∃ p, p = PA + 1 := ⟨_, rfl⟩
  obtain ⟨w1, hw1⟩ : ∃ w1, w1 = (w.alloc (.cells #[.slice aa la ac] 31)).alloc (.cells #[.slice ba lb bc] 31) := ⟨_, rfl⟩
  have hb1 : Below w.heap.size w w1 := by rw [hw1]; exact below2 _ _ _
  have hbx : Blk w1 PA [.slice aa la ac] := by rw [hw1, hPA]; exact (Blk.new w _ _).alloc _
  have hby : Blk w1 PB [.slice ba lb bc] := by rw [hw1]; exact Blk.fresh (by rw [hPB, hPA]; simp) rfl
  have HB1 := Lib.hid hb1; have HBX := Lib.hid hbx; have HBY := Lib.hid hby
  have HFO := Lib.hid (implFor_any w1 fa _ (hK.below hb1) (hT.below hb1) hWa hca (hXa.below hb1) hla)
  have HRB := Lib.hid (fun w' (hb : Below w.heap.size w w') iv xs => implRun_any w' fb _ iv xs (hK.below hb) hWb hcb (hXb.below hb) hlb)
  have HRA := Lib.hid (fun w' (hb : Below w.heap.size w w') iv xs => implRun_any w' fa _ iv xs (hK.below hb) hWa hca (hXa.below hb) hla)
  clear hXa hXb hb1 hbx hby hla hlb hla2 hlb2 hfm hfn hK hT hWa hWb hca hcb
  go_enter Tryz.func8, Tryz.ntmps8
  go_upto_region 1 with (fail)
  rw [← hPA, ← hPB, ← hw1]
  clear hPA hPB hw1
  have x0 : w1.cell? ⟨PA, 0, none⟩ = some (.slice aa la ac) := by rw [HBX.out.cell]; rfl
  go_wp2_with (fail)
  go_at_call 24
  refine HFO.out.mono ?_
  rintro e wl ⟨v, J, n, rs, rfl, hbl, hI, hJ1, hJ0⟩
  have HBL := Lib.hid (HB1.out.trans (hbl.mono HB1.out.size)); have HI := Lib.hid hI; have HJ1 := Lib.hid hJ1; have HJ0 := Lib.hid hJ0
  have HLW : Hid (w.heap.size ≤ w1.heap.size) := Lib.hid HB1.out.size
  obtain ⟨ga, gc, hvf⟩ := rowForm hI.row
  subst hvf
  have HBXL := Lib.hid (HBX.out.below hbl); have HBYL := Lib.hid (HBY.out.below hbl)
  have hJ3 : J ≤ 3 := by
    by_cases hp : prFine isNB fa
    · rw [(hJ1 hp).1]; omega
    · rw [hJ0 hp]; omega
  clear hI hJ1 hJ0 hbl x0
  go_wp2_with (fail)
  go_loopw [15] (fun i wr => ∃ j : Nat, j ≤ J ∧ i = .int .i64 (j : Int) ∧ Hid (Below wl.heap.size wl wr ∧ ∀ i, i < j → ¬ Ap1 fa fb ((inp i).take n))) (fun i _ => J - (intOf i).toNat)
  case atStart => exact ⟨0, Nat.zero_le _, rfl, Lib.hid ⟨Below.refl _ _, fun i hi => by omega⟩⟩
  case round =>
  obtain ⟨j, hj, rfl, HB⟩ := hrel
  by_cases hlt : j < J
  · obtain ⟨rv, hrv, hro, _⟩ := HI.out.each j hlt
    obtain ⟨ra, rc, hrf⟩ := rowForm hro
    subst hrf
    obtain ⟨g, c', hf⟩ := own_form HI.out.row (by omega)
    injection hf with hf _ hf2
    subst hf hf2
    have hp : prFine isNB fa := Classical.byContradiction (fun h => by have := HJ0.out h; omega)
    obtain ⟨hje, hn3, f, hfl, hnl⟩ := HJ1.out hp
    have hxl : ((inp j).take n).length = n := by rw [List.length_take, inp_len]; omega
    have c0 := own_cell1 HI.out.row hlt
    rw [hrv] at c0
    have hwr := HBL.out.trans (HB.out.1.mono HBL.out.size)
    have HRUN := Lib.hid (HRA.out wr hwr (.slice ra n rc) ((inp j).take n) (by rw [hxl]; exact ownsRow_mono (ownsRow_below hro HB.out.1) (Nat.zero_le _)) (inp_small j n) (by omega))
    have HRUN2 := Lib.hid (fun w' (hb : Below wr.heap.size wr w') => HRB.out w' (hwr.trans (hb.mono hwr.size)) (.slice ra n rc) ((inp j).take n) (by rw [hxl]; exact ownsRow_mono (ownsRow_below hro (HB.out.1.trans (hb.mono HB.out.1.size))) (Nat.zero_le _)) (inp_small j n) (by omega))
    have c0 := cellB HB.out.1 c0
    have HX0 : Hid (wr.cell? ⟨PA, 0, none⟩ = some (.slice aa la ac) ∧ wr.cell? ⟨PB, 0, none⟩ = some (.slice ba lb bc)) := Lib.hid ⟨by rw [(HBXL.out.below HB.out.1).cell]; rfl, by rw [(HBYL.out.below HB.out.1).cell]; rfl⟩
    have x0 := HX0.out.1
    have k0 : (0 : Int) ≤ j := by omega
    have k1 : (j : Int) < J := by omega
    have HPF := Lib.hid hp
    have HMN : Hid (mainN fa = n) := Lib.hid (by unfold mainN; rw [hfl]; exact hnl.symm)
    have HTL : Hid (∀ i, ((inp i).take n).length = n) := Lib.hid (fun i => by rw [List.length_take, inp_len]; omega)
    have HROW : Hid (∀ W, Below wl.heap.size wl W → W.ownsRow w.heap.size 3 1 (.slice ra n rc) ((inp j).take n).length (nats ((inp j).take n))) := Lib.hid (fun W hb => by rw [hxl]; exact ownsRow_mono (ownsRow_below hro hb) HLW.out)
    clear hro hrv hxl hwr hp hfl hnl hje
    go_wp2_with (fail)
    go_at_call 17
    refine HRUN.out.mono ?_
    rintro e w2 ⟨v1, b1, rfl, hb2, hq1, hz1, ht1⟩
    obtain ⟨sa, sl, sc, en, z, ca, cl, cc, hof⟩ := runFormI hz1 ht1
    subst hof
    obtain ⟨X, hX⟩ : ∃ p, p = w2.heap.size := ⟨_, rfl⟩
    obtain ⟨w3, hw3⟩ : ∃ w3, w3 = w2.alloc (.cells #[.slice sa sl sc, .int .i64 en, .int .i64 z, .slice ca cl cc] 44) := ⟨_, rfl⟩
    have hb3 : Below w2.heap.size w2 w3 := by rw [hw3]; exact below1 _ _
    have HB3 : Hid (Below wr.heap.size wr w3) := Lib.hid (hb2.trans (hb3.mono hb2.size))
    have HX3 : Hid (Blk w3 X [.slice sa sl sc, .int .i64 en, .int .i64 z, .slice ca cl cc]) := Lib.hid (by rw [hw3]; exact Blk.fresh hX rfl)
    have HQ1 := Lib.hid hq1
    have HT1 : Hid (b1 = true → ∃ r g, evC fa g (fa.length - 1) ((inp j).take n) (startCm 400) = some r ∧ OutI w3 (.agg #[.slice sa sl sc, .int .i64 en, .int .i64 z, .slice ca cl cc]) r) := Lib.hid (fun h => by obtain ⟨r, g, h1, h2⟩ := ht1 h; exact ⟨r, g, h1, h2.below hb3⟩)
    clear hb2 hq1 hz1 ht1 hb3 x0 c0
    go_upto_region 5 with (fail)
    rw [← hX, ← hw3]
    clear hX hw3
    have y0 := cellB HB3.out HX0.out.2
    have HRUN3 := Lib.hid (HRUN2.out w3 HB3.out)
    clear HRUN HRUN2
    go_wp2_with (fail)
    go_at_call 17
    refine HRUN3.out.mono ?_
    rintro e w4 ⟨v2, b2, rfl, hb4, hq2, hz2, ht2⟩
    obtain ⟨sb, tl, tc, en2, z2, cb, dl, dc, hof⟩ := runFormI hz2 ht2
    subst hof
    obtain ⟨Y, hY⟩ : ∃ p, p = w4.heap.size := ⟨_, rfl⟩
    obtain ⟨wc, hwc⟩ : ∃ wc, wc = w4.alloc (.cells #[.slice sb tl tc, .int .i64 en2, .int .i64 z2, .slice cb dl dc] 44) := ⟨_, rfl⟩
    have hb5 : Below w4.heap.size w4 wc := by rw [hwc]; exact below1 _ _
    have HBD : Hid (Below w3.heap.size w3 wc) := Lib.hid (hb4.trans (hb5.mono hb4.size))
    have HX5 : Hid (Blk wc Y [.slice sb tl tc, .int .i64 en2, .int .i64 z2, .slice cb dl dc]) := Lib.hid (by rw [hwc]; exact Blk.fresh hY rfl)
    have HQ2 := Lib.hid hq2
    have HT2 : Hid (b2 = true → ∃ r g, evC fb g (fb.length - 1) ((inp j).take n) (startCm 400) = some r ∧ OutI wc (.agg #[.slice sb tl tc, .int .i64 en2, .int .i64 z2, .slice cb dl dc]) r) := Lib.hid (fun h => by obtain ⟨r, g, h1, h2⟩ := ht2 h; exact ⟨r, g, h1, h2.below hb5⟩)
    clear hb4 hq2 hz2 ht2 hb5 y0
    go_upto_region 6 with (fail)
    rw [← hY, ← hwc]
    clear hY hwc HRUN3
    have HBT : Hid (Below wr.heap.size wr wc) := Lib.hid (HB3.out.trans (HBD.out.mono HB3.out.size))
    have HLB : Hid (Below wl.heap.size wl wc) := Lib.hid (HB.out.1.trans (HBT.out.mono HB.out.1.size))
    have HNO : Hid (∀ i, i < j → ¬ Ap1 fa fb ((inp i).take n)) := Lib.hid HB.out.2
    obtain ⟨p0, p1, p2, p3⟩ := blkc4 (HX3.out.below HBD.out)
    obtain ⟨q0, q1, q2, q3⟩ := blkc4 HX5.out
    have HGO : Hid (¬ Ap1 fa fb ((inp j).take n) → ∀ i, i < j + 1 → ¬ Ap1 fa fb ((inp i).take n)) := Lib.hid (fun h i hi => by
      rcases Nat.lt_or_ge i j with e | e
      · exact HNO.out i e
      · obtain rfl : i = j := by omega
        exact h)
    cases b1
    · have HNX : Hid (∀ i, i < 3 → ¬ ApIn fa fb i) := Lib.hid (fun i hi h => by
        unfold ApIn at h
        rw [HMN.out] at h
        have := HQ1.out.2 (fits_len h.1 (by rw [HTL.out, HTL.out]))
        cases this)
      go_wp2_with (fail)
      refine bodyPost_ret (v := .tuple #[.slice none 0 0, .bool false]) (by simp [results, Tryz.results8, go_sem]) rfl ?_
      exact ⟨_, false, [], rfl, HBL.out.trans (HLB.out.mono HBL.out.size), World.ownsRow_nil _ _ _ _, .inr ⟨rfl, rfl, HNX.out⟩⟩
    · cases b2
      · have HNX : Hid (∀ i, i < 3 → ¬ ApIn fa fb i) := Lib.hid (fun i hi h => by
          unfold ApIn at h
          rw [HMN.out] at h
          have := HQ2.out.2 (fits_len h.2.1 (by rw [HTL.out, HTL.out]))
          cases this)
        go_wp2_with (fail)
        refine bodyPost_ret (v := .tuple #[.slice none 0 0, .bool false]) (by simp [results, Tryz.results8, go_sem]) rfl ?_
        exact ⟨_, false, [], rfl, HBL.out.trans (HLB.out.mono HBL.out.size), World.ownsRow_nil _ _ _ _, .inr ⟨rfl, rfl, HNX.out⟩⟩
      · obtain ⟨r, gr, hev, hout⟩ := HT1.out rfl
        obtain ⟨q, gq, hev2, hout2⟩ := HT2.out rfl
        have HE1 := Lib.hid hev; have HE2 := Lib.hid hev2
        have HU1 := Lib.hid (hout.below HBD.out); have HU2 := Lib.hid hout2
        obtain rfl := hout.en_eq
        obtain rfl := hout2.en_eq
        clear hev hev2 hout hout2
        by_cases e1 : r.en = 3
        · have HNA : Hid (¬ Ap1 fa fb ((inp j).take n)) := Lib.hid (fun h => by
            obtain ⟨_, _, ra', ga', rb', gb', h1, h2, h3, h4, h5⟩ := h
            obtain rfl := evC_one HE1.out h1
            exact h3 e1)
          have e3 : ((r.en : Int) != 3) = false := by rw [e1]; rfl
          have e4 : decide ((r.en : Int) = 3) = true := by rw [e1]; rfl
          have e5 : ((r.en : Int) == 3) = true := by rw [e1]; rfl
          have e6 : (r.en : Int) = 3 := by rw [e1]; rfl
          clear e1
          go_wp2_with (fail)
          go_roundw
          case rel => exact ⟨j + 1, by omega, by go_num, Lib.hid ⟨HLB.out, HGO.out HNA.out⟩⟩
          case measure => simp [intOf]; omega
        · have e3 : ((r.en : Int) != 3) = true := by simp; omega
          have e4 : ¬ (r.en : Int) = 3 := by omega
          by_cases e2 : q.en = 3
          · have HNA : Hid (¬ Ap1 fa fb ((inp j).take n)) := Lib.hid (fun h => by
              obtain ⟨_, _, ra', ga', rb', gb', h1, h2, h3, h4, h5⟩ := h
              obtain rfl := evC_one HE2.out h2
              exact h4 e2)
            have f3 : ((q.en : Int) != 3) = false := by rw [e2]; rfl
            have f6 : (q.en : Int) = 3 := by rw [e2]; rfl
            clear e1 e2
            go_wp2_with (fail)
            go_roundw
            case rel => exact ⟨j + 1, by omega, by go_num, Lib.hid ⟨HLB.out, HGO.out HNA.out⟩⟩
            case measure => simp [intOf]; omega
          · have f3 : ((q.en : Int) != 3) = true := by simp; omega
            have f4 : ¬ (q.en : Int) = 3 := by omega
            have HNE := Lib.hid (And.intro e1 e2)
            obtain ⟨p, hp⟩ : ∃ p, p = decide (Alike r q) := ⟨_, rfl⟩
            have HSM := Lib.hid (isame_any wc _ _ r q HU1.out HU2.out)
            rw [← hp] at HSM
            have HP := Lib.hid hp
            clear e1 e2 hp
            go_wp2_with (fail)
            go_at_call 18
            refine HSM.out.mono ?_
            rintro e w5 ⟨rfl, hb5⟩
            have HL5 : Hid (Below wl.heap.size wl w5) := Lib.hid (HLB.out.trans (hb5.mono HLB.out.size))
            clear hb5
            cases p
            · have hal : ¬ Alike r q := of_decide_eq_false HP.out.symm
              have HYE : Hid (Ap1 fa fb ((inp j).take n)) := Lib.hid (by
                exact ⟨HQ1.out.1 (by trivial), HQ2.out.1 (by trivial), r, gr, q, gq, HE1.out, HE2.out, HNE.out.1, HNE.out.2, hal⟩)
              clear hal
              go_wp2_with (fail)
              refine bodyPost_ret (v := .tuple #[.slice ra n rc, .bool true]) (by simp [results, Tryz.results8, go_sem]) rfl ?_
              exact ⟨_, true, (inp j).take n, rfl, HBL.out.trans (HL5.out.mono HBL.out.size), HROW.out w5 HL5.out, .inl ⟨rfl, j, by rw [← HJ1.out HPF.out |>.1]; exact hlt, fun k hk h => HNO.out k hk (by unfold ApIn at h; rw [HMN.out] at h; exact h), by unfold ApIn; rw [HMN.out]; exact HYE.out, by rw [HMN.out]⟩⟩
            · have hal : Alike r q := of_decide_eq_true HP.out.symm
              have HNA : Hid (¬ Ap1 fa fb ((inp j).take n)) := Lib.hid (fun h => by
                obtain ⟨_, _, ra', ga', rb', gb', h1, h2, h3, h4, h5⟩ := h
                obtain rfl := evC_one HE1.out h1
                obtain rfl := evC_one HE2.out h2
                exact h5 hal)
              clear hal
              go_wp2_with (fail)
              go_roundw
              case rel => exact ⟨j + 1, by omega, by go_num, Lib.hid ⟨HL5.out, HGO.out HNA.out⟩⟩
              case measure => simp [intOf]; omega
  · obtain rfl : j = J := by omega
    have HNX : Hid (∀ i, i < 3 → ¬ ApIn fa fb i) := Lib.hid (fun i hi h => by
      have hp : prFine isNB fa := h.1.1
      obtain ⟨rfl, hn3, f, hfl, hnl⟩ := HJ1.out hp
      have hmn : mainN fa = n := by unfold mainN; rw [hfl]; exact hnl.symm
      unfold ApIn at h
      rw [hmn] at h
      exact HB.out.2 i hi h)
    go_wp2_with (fail)
    refine bodyPost_ret (v := .tuple #[.slice none 0 0, .bool false]) (by simp [results, Tryz.results8, go_sem]) rfl ?_
    exact ⟨_, false, [], rfl, HBL.out.trans (HB.out.1.mono HBL.out.size), World.ownsRow_nil _ _ _ _, .inr ⟨rfl, rfl, HNX.out⟩⟩
end Go.Proofs.YtpnliencahnmoaaGreatDoor

set_option linter.unusedVariables false
set_option linter.unusedSimpArgs false
set_option maxRecDepth 100000
namespace Go.Proofs.YtpnliencahnmoaaGreatDoor
open Go.RowKit
def strsV (ss : List ByteArray) : List Value := ss.map Value.string
/-- texts of the call's own -/
def OStrs (w : World) (lo hi : Nat) (v : Value) (ss : List ByteArray) : Prop :=
  ∃ g, v = .slice (some ⟨g, 0, none⟩) ss.length ss.length ∧ lo ≤ g ∧ g < hi ∧ ss.length ≤ big ∧ (∀ s ∈ ss, s.size ≤ big) ∧ w.ownsRow lo 9 1 (.slice (some ⟨g, 0, none⟩) ss.length ss.length) ss.length (strsV ss)
theorem OStrs.read {w : World} {lo hi : Nat} {v : Value} {ss : List ByteArray} (h : OStrs w lo hi v ss) : StrsAt w v ss := by
  obtain ⟨g, rfl, _, _, hm, hs, ho⟩ := h
  refine ⟨_, _, rfl, hm, fun i s hi => ⟨hs s (List.mem_of_getElem? hi), g, 0, rfl, ?_⟩⟩
  rw [Nat.zero_add, ho.cellAt i (by have := idx_lt hi; omega)]
  simp [strsV, hi]
theorem OStrs.keep {w w' : World} {lo hi : Nat} {v : Value} {ss : List ByteArray} (h : OStrs w lo hi v ss) (hh : ∀ k, lo ≤ k → k < hi → w'.heap[k]? = w.heap[k]?) : OStrs w' lo hi v ss := by
  obtain ⟨g, rfl, h1, h2, hm, hs, ho⟩ := h
  refine ⟨g, rfl, h1, h2, hm, hs, ownsRow_same ho fun k hk => ?_⟩
  have hk : g = k := by simpa [Value.ownBlock] using hk
  subst hk
  exact hh g h1 h2
def ExIn (ys : List Value) (i : Nat) (e : Ex) (kv : Value) : Prop :=
  ys[i * 4]? = some (.int .i64 e.op) ∧ ys[i * 4 + 1]? = some (.int .i64 e.n) ∧ ys[i * 4 + 2]? = some (.string e.name) ∧ ys[i * 4 + 3]? = some kv
/-- expressions of the call's own -/
inductive OExs (w : World) : Nat → Nat → Value → List Ex → Prop where
  | mk (lo hi g n : Nat) (es : List Ex) (ys : List Value) (vals : Nat → Value) (ls hs : Nat → Nat) (hn : n = es.length) (hm : es.length ≤ big) (hsz : ∀ (i : Nat) (e : Ex), es[i]? = some e → e.name.size ≤ big)
      (hg : lo ≤ g) (hgh : g < hi) (hlo : ∀ i, i < n → g < ls i) (hhi : ∀ i, i < n → hs i ≤ hi) (hd : ∀ i j, i < j → j < n → hs i ≤ ls j)
      (hrow : w.ownsRow lo 67 4 (.slice (some ⟨g, 0, none⟩) n n) n ys) (hc : ∀ (i : Nat) (e : Ex), es[i]? = some e → ExIn ys i e (vals i))
      (hk : ∀ (i : Nat) (e : Ex), es[i]? = some e → OExs w (ls i) (hs i) (vals i) e.kids) : OExs w lo hi (.slice (some ⟨g, 0, none⟩) n n) es
theorem OExs.read {w : World} {lo hi : Nat} {v : Value} {es : List Ex} (h : OExs w lo hi v es) : ExsAt w v es := by
  induction h with
  | mk lo hi g n es ys vals ls hs hn hm hsz hg hgh hlo hhi hd hrow hc hk ih =>
    refine .mk _ n n es vals hn hm hsz (fun i e hi => ⟨g, 0, rfl, ?_⟩) ih
    obtain ⟨c0, c1, c2, c3⟩ := hc i e hi
    have hil := idx_lt hi
    simp only [Nat.zero_add]
    rw [hrow.cellAt (i * 4) (by omega), hrow.cellAt (i * 4 + 1) (by omega), hrow.cellAt (i * 4 + 2) (by omega), hrow.cellAt (i * 4 + 3) (by omega)]
    exact ⟨c0, c1, c2, c3⟩
theorem OExs.keep {w w' : World} {lo hi : Nat} {v : Value} {es : List Ex} (h : OExs w lo hi v es) (hh : ∀ k, lo ≤ k → k < hi → w'.heap[k]? = w.heap[k]?) : OExs w' lo hi v es := by
  induction h with
  | mk lo hi g n es ys vals ls hs hn hm hsz hg hgh hlo hhi hd hrow hc hk ih =>
    refine .mk lo hi g n es ys vals ls hs hn hm hsz hg hgh hlo hhi hd (ownsRow_same hrow fun k hk => ?_) hc (fun i e hi => ih i e hi (fun k h1 h2 => ?_))
    · have hk : g = k := by simpa [Value.ownBlock] using hk
      subst hk
      exact hh g hg hgh
    · have hil : i < n := by rw [hn]; exact idx_lt hi
      have := hlo i hil; have := hhi i hil
      exact hh k (by omega) (by omega)
theorem OExs.wide {w : World} {lo hi lo' hi' : Nat} {v : Value} {es : List Ex} (h : OExs w lo hi v es) (h1 : lo' ≤ lo) (h2 : hi ≤ hi') : OExs w lo' hi' v es := by
  cases h with
  | mk lo hi g n es ys vals ls hs hn hm hsz hg hgh hlo hhi hd hrow hc hk =>
    exact .mk lo' hi' g n es ys vals ls hs hn hm hsz (by omega) (by omega) hlo (fun i hi => Nat.le_trans (hhi i hi) h2) hd (ownsRow_mono hrow h1) hc hk
def StIn (ys : List Value) (i : Nat) (s : St) (av bv ev : Value) : Prop :=
  ys[i * 5]? = some (.int .i64 s.op) ∧ ys[i * 5 + 1]? = some (.string s.name) ∧ ys[i * 5 + 2]? = some av ∧ ys[i * 5 + 3]? = some bv ∧ ys[i * 5 + 4]? = some ev
/-- statements of the call's own -/
inductive OSts (w : World) : Nat → Nat → Value → List St → Prop where
  | mk (lo hi g n : Nat) (ss : List St) (ys : List Value) (av bv ev : Nat → Value) (ls m1 m2 hs : Nat → Nat) (hn : n = ss.length) (hm : ss.length ≤ big) (hsz : ∀ (i : Nat) (s : St), ss[i]? = some s → s.name.size ≤ big)
      (hg : lo ≤ g) (hgh : g < hi) (hlo : ∀ i, i < n → g < ls i) (hhi : ∀ i, i < n → hs i ≤ hi) (hmid : ∀ i, i < n → ls i ≤ m1 i ∧ m1 i ≤ m2 i ∧ m2 i ≤ hs i) (hd : ∀ i j, i < j → j < n → hs i ≤ ls j)
      (hrow : w.ownsRow lo 70 5 (.slice (some ⟨g, 0, none⟩) n n) n ys) (hc : ∀ (i : Nat) (s : St), ss[i]? = some s → StIn ys i s (av i) (bv i) (ev i))
      (ha : ∀ (i : Nat) (s : St), ss[i]? = some s → OExs w (ls i) (m1 i) (av i) s.args)
      (hb : ∀ (i : Nat) (s : St), ss[i]? = some s → OSts w (m1 i) (m2 i) (bv i) s.body)
      (he : ∀ (i : Nat) (s : St), ss[i]? = some s → OSts w (m2 i) (hs i) (ev i) s.els) : OSts w lo hi (.slice (some ⟨g, 0, none⟩) n n) ss
theorem OSts.read {w : World} {lo hi : Nat} {v : Value} {ss : List St} (h : OSts w lo hi v ss) : StsAt w v ss := by
  induction h with
  | mk lo hi g n ss ys av bv ev ls m1 m2 hs hn hm hsz hg hgh hlo hhi hmid hd hrow hc ha hb he ihb ihe =>
    refine .mk _ n n ss av bv ev hn hm hsz (fun i s hi => ⟨g, 0, rfl, ?_⟩) (fun i s hi => (ha i s hi).read) ihb ihe
    obtain ⟨c0, c1, c2, c3, c4⟩ := hc i s hi
    have hil := idx_lt hi
    simp only [Nat.zero_add]
    rw [hrow.cellAt (i * 5) (by omega), hrow.cellAt (i * 5 + 1) (by omega), hrow.cellAt (i * 5 + 2) (by omega), hrow.cellAt (i * 5 + 3) (by omega), hrow.cellAt (i * 5 + 4) (by omega)]
    exact ⟨c0, c1, c2, c3, c4⟩
theorem OSts.keep {w w' : World} {lo hi : Nat} {v : Value} {ss : List St} (h : OSts w lo hi v ss) (hh : ∀ k, lo ≤ k → k < hi → w'.heap[k]? = w.heap[k]?) : OSts w' lo hi v ss := by
  induction h with
  | mk lo hi g n ss ys av bv ev ls m1 m2 hs hn hm hsz hg hgh hlo hhi hmid hd hrow hc ha hb he ihb ihe =>
    have hx : ∀ (i : Nat) (s : St), ss[i]? = some s → g < ls i ∧ hs i ≤ hi ∧ ls i ≤ m1 i ∧ m1 i ≤ m2 i ∧ m2 i ≤ hs i := fun i s hi => by
      have hil : i < n := by rw [hn]; exact idx_lt hi
      exact ⟨hlo i hil, hhi i hil, hmid i hil⟩
    refine .mk lo hi g n ss ys av bv ev ls m1 m2 hs hn hm hsz hg hgh hlo hhi hmid hd (ownsRow_same hrow fun k hk => ?_) hc (fun i s hi => (ha i s hi).keep (fun k h1 h2 => ?_)) (fun i s hi => ihb i s hi (fun k h1 h2 => ?_)) (fun i s hi => ihe i s hi (fun k h1 h2 => ?_))
    · have hk : g = k := by simpa [Value.ownBlock] using hk
      subst hk
      exact hh g hg hgh
    · have := hx i s hi; exact hh k (by omega) (by omega)
    · have := hx i s hi; exact hh k (by omega) (by omega)
    · have := hx i s hi; exact hh k (by omega) (by omega)
theorem OSts.wide {w : World} {lo hi lo' hi' : Nat} {v : Value} {ss : List St} (h : OSts w lo hi v ss) (h1 : lo' ≤ lo) (h2 : hi ≤ hi') : OSts w lo' hi' v ss := by
  cases h with
  | mk lo hi g n ss ys av bv ev ls m1 m2 hs hn hm hsz hg hgh hlo hhi hmid hd hrow hc ha hb he =>
    exact .mk lo' hi' g n ss ys av bv ev ls m1 m2 hs hn hm hsz (by omega) (by omega) hlo (fun i hi => Nat.le_trans (hhi i hi) h2) hmid hd (ownsRow_mono hrow h1) hc ha hb he
def FxIn (ys : List Value) (i : Nat) (f : Fx) (pv bv : Value) : Prop := ys[i * 3]? = some (.string f.name) ∧ ys[i * 3 + 1]? = some pv ∧ ys[i * 3 + 2]? = some bv
/-- functions of the call's own -/
structure OFxs (w : World) (lo hi g n : Nat) (fs : List Fx) (ys : List Value) (pv bv : Nat → Value) (ls m1 hs : Nat → Nat) : Prop where
  hn : n = fs.length
  hm : fs.length ≤ big
  hsz : ∀ (i : Nat) (f : Fx), fs[i]? = some f → f.name.size ≤ big
  hg : lo ≤ g
  hgh : g < hi
  hlo : ∀ i, i < n → g < ls i
  hhi : ∀ i, i < n → hs i ≤ hi
  hmid : ∀ i, i < n → ls i ≤ m1 i ∧ m1 i ≤ hs i
  hd : ∀ i j, i < j → j < n → hs i ≤ ls j
  hrow : w.ownsRow lo 64 3 (.slice (some ⟨g, 0, none⟩) n n) n ys
  hc : ∀ (i : Nat) (f : Fx), fs[i]? = some f → FxIn ys i f (pv i) (bv i)
  hp : ∀ (i : Nat) (f : Fx), fs[i]? = some f → OStrs w (ls i) (m1 i) (pv i) f.params
  hb : ∀ (i : Nat) (f : Fx), fs[i]? = some f → OSts w (m1 i) (hs i) (bv i) f.body
theorem OFxs.read {w : World} {lo hi g n : Nat} {fs : List Fx} {ys : List Value} {pv bv : Nat → Value} {ls m1 hs : Nat → Nat} (h : OFxs w lo hi g n fs ys pv bv ls m1 hs) : FxsAt w (.slice (some ⟨g, 0, none⟩) n n) fs := by
  refine ⟨_, n, by rw [← h.hn], h.hm, fun i f hi => ⟨h.hsz i f hi, g, 0, pv i, bv i, rfl, ?_⟩⟩
  obtain ⟨c0, c1, c2⟩ := h.hc i f hi
  have hil := idx_lt hi
  have hn := h.hn
  simp only [Nat.zero_add]
  rw [h.hrow.cellAt (i * 3) (by omega), h.hrow.cellAt (i * 3 + 1) (by omega), h.hrow.cellAt (i * 3 + 2) (by omega)]
  exact ⟨c0, c1, c2, (h.hp i f hi).read, (h.hb i f hi).read⟩
theorem OFxs.keep {w w' : World} {lo hi g n : Nat} {fs : List Fx} {ys : List Value} {pv bv : Nat → Value} {ls m1 hs : Nat → Nat} (h : OFxs w lo hi g n fs ys pv bv ls m1 hs) (hh : ∀ k, lo ≤ k → k < hi → w'.heap[k]? = w.heap[k]?) : OFxs w' lo hi g n fs ys pv bv ls m1 hs := by
  have hx : ∀ (i : Nat) (f : Fx), fs[i]? = some f → g < ls i ∧ hs i ≤ hi ∧ ls i ≤ m1 i ∧ m1 i ≤ hs i := fun i f hi => by
    have hil : i < n := by rw [h.hn]; exact idx_lt hi
    exact ⟨h.hlo i hil, h.hhi i hil, h.hmid i hil⟩
  have hg := h.hg
  refine ⟨h.hn, h.hm, h.hsz, h.hg, h.hgh, h.hlo, h.hhi, h.hmid, h.hd, ownsRow_same h.hrow fun k hk => ?_, h.hc, fun i f hi => (h.hp i f hi).keep (fun k h1 h2 => ?_), fun i f hi => (h.hb i f hi).keep (fun k h1 h2 => ?_)⟩
  · have hk : g = k := by simpa [Value.ownBlock] using hk
    subst hk
    exact hh g h.hg h.hgh
  · have := hx i f hi; exact hh k (by omega) (by omega)
  · have := hx i f hi; exact hh k (by omega) (by omega)
end Go.Proofs.YtpnliencahnmoaaGreatDoor
