/- The function of bytes, on impl's side: DecodeFn. -/
import Derived.Test.YtbdbmmdnidonjaaDoorUJv
import Derived.Test.YtbdbmmdnidonjaaDoorUDi
set_option linter.unusedVariables false
set_option linter.unusedSimpArgs false
set_option maxRecDepth 100000
namespace Go.Proofs.YtbdbmmdnidonjaaDoor
open Go.RowKit
set_option maxHeartbeats 8000000 in
theorem idecfn_any (w : World) (p s : Int) (v : Value) (cs : List Nat) (hF : Forms w) (h : CsC w v cs) (hle : cs.length ≤ 1048576) :
  Calls Tryd.prog 89 #[.int .i64 p, .int .i64 s, v] w (DecP p s cs w) := by
 obtain ⟨j0, hj, hw0, hw1, hw2⟩ := info_parts info_mi
 have HCS := Lib.hid h
 have HFO := Lib.hid hF
 obtain ⟨a, cap, rfl, hcap⟩ := h.2
 obtain ⟨L, hL⟩ : ∃ L, L = cs.length := ⟨_, rfl⟩
 have HONE := Lib.hid (fun w' (at_ : Nat) h hlt => idec_any w' (.slice a cs.length cap) cs at_ h hlt hle)
 have HNX : Hid (∀ (xs : List Mi) (ps : List Nat) (at_ : Nat), DecTo cs xs ps at_ → xs.length = ps.length ∧ 2 * xs.length ≤ at_ ∧ at_ ≤ L ∧ ∀ q ∈ ps, q < at_) := Lib.hid (fun xs ps at_ h => by rw [hL]; exact ⟨h.lens.1, h.lens.2.1, h.lens.2.2.1, h.lens.2.2.2.2⟩)
 have HSZ : Hid (∀ (x : Mi) (n at_ : Nat), oneN cs at_ = some (x, n) → 2 ≤ n ∧ n ≤ 4 ∧ at_ + n ≤ L) := Lib.hid (fun x n at_ h => by rw [hL]; exact oneN_size h)
 have HBD : Hid (∀ (xs : List Mi) (ps : List Nat) (at_ : Nat), DecTo cs xs ps at_ → ∀ x ∈ xs, -1000 ≤ x.n ∧ x.n ≤ 2000000) := Lib.hid (fun xs ps at_ h => h.bound HCS.out.1.choose_spec.choose_spec.2.1 hle)
 have HLN := Lib.hid hL
 rw [← hL] at HCS HONE hle hcap ⊢
 have HNO : Hid (∀ w', decR p s cs = none → Below w.heap.size w w' → DecP p s cs w (.returned (.tuple #[.agg #[.int .i64 0, .int .i64 0, .slice none 0 0], .bool false])) w') := Lib.hid (fun w' hd hb =>
  ⟨⟨0, 0, []⟩, .slice none 0 0, false, rfl, (fun h => by cases h), fun _ => ⟨hd, rfl⟩, ⟨[], World.ownsRow_nil _ _ _ _, fun i f hi => by simp at hi⟩, hb⟩)
 have HYES : Hid (∀ w' (iv : Value) (f : Mf), decR p s cs = some f → OwnIns w.heap.size w' iv f.ins → Below w.heap.size w w' → DecP p s cs w (.returned (.tuple #[.agg #[.int .i64 f.params, .int .i64 f.slots, iv], .bool true])) w') := Lib.hid (fun w' iv f hd ho hb =>
  ⟨f, iv, true, rfl, fun _ => hd, (fun h => by cases h), ho, hb⟩)
 obtain ⟨Q, hQ⟩ : ∃ Q, Q = DecP p s cs w := ⟨_, rfl⟩
 rw [← hQ] at HNO HYES ⊢
 have hmm := @run_makeMap Tryd.prog
 clear hQ hL hF
 go_enter Tryd.func89, Tryd.ntmps89
 go_wp2_with (fail)
 generalize hwa : w.alloc _ = w1
 have hR1 : Blk w1 w.heap.size [.int .i64 0, .int .i64 0, .slice none 0 0] := by rw [← hwa]; exact Blk.new _ _ _
 have hb1 : Below w.heap.size w w1 := by rw [← hwa]; exact below1 _ _
 have hs1 : w1.heap.size = w.heap.size + 1 := by rw [← hwa]; simp
 generalize hwb : w1.alloc _ = w2
 have hF2 : Blk w2 (w.heap.size + 1) [.int .i64 p, .int .i64 s, .slice none 0 0] := by rw [← hwb, ← hs1]; exact Blk.new _ _ _
 have hb2 : Below w1.heap.size w1 w2 := by rw [← hwb]; exact below1 _ _
 have hs2 : w2.heap.size = w.heap.size + 1 + 1 := by rw [← hwb]; simp [hs1]
 generalize hwc : w2.alloc _ = w3
 have hb3 : Below w2.heap.size w2 w3 := by rw [← hwc]; exact below1 _ _
 have hs3 : w3.heap.size = w.heap.size + 1 + 1 + 1 := by rw [← hwc]; simp [hs2]
 have hM3 : w3.ownsMap Tryd.prog 3 (plainElem (H := Unit) Tryd.prog 3) (w.heap.size + 1 + 1) 0 (.map []) := by
  rw [← hwc, ← hs2]; exact World.ownsMap_made _ _ _ _
 have HB3 := Lib.hid ((hb1.trans (hb2.mono hb1.size)).trans (hb3.mono (by omega)))
 have HR3 := Lib.hid ((hR1.below hb2).below hb3)
 have HD3 : Hid (DiS w3.heap.size (w.heap.size + 1) (w.heap.size + 1 + 1) p s w3 w3 (.slice none 0 0) [] []) := Lib.hid ⟨hF2.below hb3, ⟨[], World.ownsRow_nil _ _ _ _, fun i f hi => by simp at hi⟩, hM3, Only.refl _ _, ⟨by omega, by omega, by omega⟩, rfl⟩
 have HS3 := Lib.hid hs3
 clear hwa hwb hwc hR1 hb1 hs1 hF2 hb2 hb3 hM3 hs2 hs3 hmm
 go_loopw [10] (fun iv wr => ∃ (xs : List Mi) (ps : List Nat) (at_ : Nat) (ia : Option Addr) (ic : Nat), iv = .int .i64 (at_ : Int) ∧ Hid (DecTo cs xs ps at_) ∧ Hid (Looks (plcD ps) ps) ∧ Hid (DiS w3.heap.size (w.heap.size + 1) (w.heap.size + 1 + 1) p s w3 wr (.slice ia xs.length ic) xs ps)) (fun iv _ => L - (intOf iv).toNat)
 case atStart => exact ⟨[], [], 0, none, 0, rfl, Lib.hid .start, Lib.hid looks_nil, HD3⟩
 case round =>
  obtain ⟨xs, ps, at_, ia, ic, rfl, HDT, HLK, HD⟩ := hrel
  obtain ⟨wo, rfl⟩ : ∃ wo : World, wo = wr := ⟨_, rfl⟩
  obtain ⟨hxp, hx2, hatL, hrise⟩ := HNX.out xs ps at_ HDT.out
  obtain ⟨n, hn⟩ : ∃ n, n = xs.length := ⟨_, rfl⟩
  rw [← hn] at HD hxp hx2
  have HN := Lib.hid hn
  have HXP := Lib.hid hxp
  have HRISE := Lib.hid hrise
  clear hn hxp hrise
  have q0 : (0 : Int) ≤ at_ := by omega
  have hs3 := HS3.out
  have HBO : Hid (Below w.heap.size w wo) := Lib.hid (Only.below HB3.out HD.out.only HB3.out.size (fun b hb => by simp only [List.mem_cons, List.not_mem_nil, or_false] at hb; omega))
  have HRO : Hid (Blk wo w.heap.size [.int .i64 0, .int .i64 0, .slice none 0 0]) := Lib.hid (HR3.out.same (HD.out.only.block _ HR3.out.lt (by simp; omega)))
  clear hs3
  by_cases hlt : at_ < L
  ·have q1 : (at_ : Int) < L := by omega
   go_wp2_with (fail)
   go_at_call 119
   refine (HONE.out wo at_ (HCS.out.below HBO.out) hlt).mono ?_
   rintro e w5 ⟨o, a1, b1, c1, z, m, rfl, hor, hb5⟩
   have HD5 := Lib.hid (HD.out.below hb5)
   have HB5 := Lib.hid (HBO.out.trans (hb5.mono HBO.out.size))
   have HR5 := Lib.hid (HRO.out.below hb5)
   clear hb5 HD HBO HRO
   rcases hor with hy | ⟨hno, rfl⟩
   ·obtain ⟨hm2, hm4, hmL⟩ := HSZ.out _ _ _ hy
    have HDT2 := Lib.hid (HDT.out.more (by rw [← HLN.out]; exact hlt) hy)
    have HLK2 := Lib.hid (looks_snoc HLK.out HRISE.out)
    have bm0 : ((m : Int) == 0) = false := by simp; omega
    have f2 := fun o => (HD5.out.below (below1 w5 o)).c3.2.2.1
    have HDX := Lib.hid (HD5.out.below (below1 w5 (.cells #[.int .i64 o, .int .i64 a1, .int .i64 b1, .int .i64 c1, .int .i64 z] 124)))
    have HMX : Hid ((w5.alloc (.cells #[.int .i64 o, .int .i64 a1, .int .i64 b1, .int .i64 c1, .int .i64 z] 124)).ownsMap Tryd.prog 3 (plainElem (H := Unit) Tryd.prog 3) (w.heap.size + 1 + 1) n (plcD ps)) := Lib.hid (by rw [HXP.out]; exact HDX.out.mp)
    have hX5 : Blk (w5.alloc (.cells #[.int .i64 o, .int .i64 a1, .int .i64 b1, .int .i64 c1, .int .i64 z] 124)) w5.heap.size [.int .i64 o, .int .i64 a1, .int .i64 b1, .int .i64 c1, .int .i64 z] := Blk.new _ _ _
    have HX5 := Lib.hid hX5
    have hs5 := HD5.out.size
    have hs3 := HS3.out
    have m0 : (0 : Int) ≤ m := by omega
    have hn4 : n ≤ 1048576 := by omega
    have hwm : w.heap.size + 1 + 1 < w5.heap.size := by omega
    clear hy HDT HLK hX5 hs3
    go_wp2_with (first | (at_mapUpdate; refine wpList_mapUpdate_own _ rfl _ _ _ 155 rfl 3 3 int_keyed3 Tryd.underlying155 _ (w.heap.size + 1 + 1) n _ rfl HMX.out (by unfold maxLen; omega) _ _ _ rfl rfl (Go.Maps.keyOf_int_mk Tryd.underlying3 (wf_int (by omega) (by omega))) _ [] (plainElem_int Tryd.underlying3 (wf_int (by omega) (by omega))) ?_; intro w6 hm6 hg6; have HD6 := Lib.hid (HDX.out.upd HXP.out hm6 hg6); have HX6 := Lib.hid (HX5.out.grown hg6 (fun e => by injection e with e; omega)); obtain ⟨_, _, f26, ff6⟩ := HD6.out.c3; obtain ⟨z0, z1, z2, z3, z4⟩ := c5_of HX6.out; obtain ⟨ys, hys, hxs⟩ := HD6.out.ins; rw [← HN.out] at hys; have HYS := Lib.hid hys; have HXS := Lib.hid hxs; have hs6 := HD6.out.size; clear hm6 hg6 hys hxs HDX HMX) | (at_builtin; refine wpList_append_own _ rfl _ _ 103 (by rfl) w3.heap.size 124 j0 _ 5 40 Tryd.underlying103 hj hw0 hw1 hw2 rfl (by decide) _ n ys (by rfl) (HYS.out.alloc _) ⟨w6.heap.size, 0, none⟩ 1 1 [.int .i64 o, .int .i64 a1, .int .i64 b1, .int .i64 c1, .int .i64 z] (by rfl) rfl (World.news_of_block (heap_alloc_new w6 _)) (by simp [Value.oneCell']) (by unfold maxLen; omega) (by omega) (by simp; omega) ?_; intro v7 w7 ho7 hg7 _; obtain ⟨g7, c7, rfl⟩ := own_form ho7 (by omega); obtain ⟨hF7, hD8⟩ := DiS.app (HD6.out.below (below1 w6 _)) (by rw [← HN.out]; exact HYS.out.alloc _) HXS.out (by rw [← HN.out]; exact ho7) hg7; have m2 : w7.cell? ⟨w.heap.size + 1, 2, none⟩ = some (.slice ia n ic) := (by rw [hF7.cell]; rfl); have mf := hF7.frozen 2; have HD8 := Lib.hid hD8; clear ho7 hg7 hF7 hD8) | fail)
    go_roundw
    case rel =>
     refine ⟨xs ++ [⟨o, a1, b1, c1, z⟩], ps ++ [at_], at_ + m, some ⟨g7, 0, none⟩, c7, by go_num, HDT2, HLK2, ?_⟩
     rw [List.length_append, List.length_singleton, ← HN.out]
     exact HD8
    case measure => simp [intOf]; omega
   ·have HX : Hid (decR p s cs = none) := Lib.hid (decR_none (HDT.out.none (by rw [← HLN.out]; exact hlt) hno))
    have r0 := fun o => (c3_of (HR5.out.alloc o)).1
    have r1 := fun o => (c3_of (HR5.out.alloc o)).2.1
    have r2 := fun o => (c3_of (HR5.out.alloc o)).2.2
    have rf0 := fun o => (HR5.out.alloc o).frozen 0
    have rf1 := fun o => (HR5.out.alloc o).frozen 1
    have rf2 := fun o => (HR5.out.alloc o).frozen 2
    clear hno
    go_wp2_with (fail)
    refine bodyPost_ret (v := .tuple #[.agg #[.int .i64 0, .int .i64 0, .slice none 0 0], .bool false]) (by simp [results, Tryd.results89, go_sem, r0, r1, r2]) rfl ?_
    refine HNO.out _ HX.out ?_
    have hsw := HB5.out.size
    have hbb := HB5.out
    (repeat' (first | exact Below.refl _ _ | assumption | (refine Below.setCell ?_ ?_ _) | (refine Below.alloc ?_ ?_ _) | (refine belowDrewN ?_ _) | omega | (simp; done) | (simp; omega)))
  ·have HEX : Hid (decA cs = some (xs, ps)) := Lib.hid (HDT.out.all (by rw [← HLN.out]; exact hlt))
   have HNT : Hid (∀ x ∈ xs, ∃ o : Nat, x.op = (o : Int)) := Lib.hid HDT.out.nat
   have HNG := Lib.hid HDT.out.nonneg
   have HBN := Lib.hid (HBD.out xs ps at_ HDT.out)
   have hn8 : n ≤ 1048576 := by omega
   have HDK : Hid (DiS w3.heap.size (w.heap.size + 1) (w.heap.size + 1 + 1) p s w3 wo (.slice ia n ic) (rsvK ps xs 0) ps) := Lib.hid (by rw [rsvK_zero]; exact HD.out)
   have f2 := HDK.out.c3.2.2.1
   have g1 : decide ((at_ : Int) < L) = false := by simp; omega
   clear HDT HBO HRO HD hx2 HRISE
   go_wp2_with (fail)
   clear f2 g1 hlt
   go_loopw [53] (fun i wr => ∃ k : Nat, k ≤ n ∧ i = .int .i64 (k : Int) ∧ Hid (DiS w3.heap.size (w.heap.size + 1) (w.heap.size + 1 + 1) p s w3 wr (.slice ia n ic) (rsvK ps xs k) ps)) (fun i _ => n - (intOf i).toNat)
   case atStart => exact ⟨0, Nat.zero_le _, rfl, HDK⟩
   case round =>
    obtain ⟨k, hk, rfl, HK⟩ := hrel
    obtain ⟨wi, rfl⟩ : ∃ wi : World, wi = wr := ⟨_, rfl⟩
    have hs3 := HS3.out
    have HBI : Hid (Below w.heap.size w wi) := Lib.hid (Only.below HB3.out HK.out.only HB3.out.size (fun b hb => by simp only [List.mem_cons, List.not_mem_nil, or_false] at hb; omega))
    have HRI : Hid (Blk wi w.heap.size [.int .i64 0, .int .i64 0, .slice none 0 0]) := Lib.hid (HR3.out.same (HK.out.only.block _ HR3.out.lt (by simp; omega)))
    clear hs3
    by_cases hkn : k < n
    ·have k0 : (0 : Int) ≤ k := by omega
     have k1 : (k : Int) < n := by omega
     have HKL : Hid ((rsvK ps xs k).length = n) := Lib.hid (by rw [rsvK_len, ← HN.out])
     obtain ⟨g, rfl⟩ := HK.out.insForm HKL.out (by omega)
     obtain ⟨x, hx⟩ : ∃ x, xs[k]? = some x := ⟨_, List.getElem?_eq_getElem (by rw [← HN.out]; exact hkn)⟩
     have HXK : Hid ((rsvK ps xs k)[k]? = some x) := Lib.hid (by rw [rsvK_at _ _ _ (by rw [← HN.out]; exact hkn)]; exact hx)
     have HSU : Hid (rsvK ps xs (k + 1) = (rsvK ps xs k).set k (rsv ps x)) := Lib.hid (by
      have hkl := idx_lt hx
      rw [rsvK_succ _ _ _ hkl]
      rw [List.getElem?_eq_getElem hkl] at hx
      injection hx with hx; rw [hx])
     have hmx := List.mem_of_getElem? hx
     have HMX := Lib.hid hmx
     obtain ⟨o, ho⟩ := HNT.out x hmx
     have hbz := HBN.out x hmx
     obtain ⟨xo, xa, xb, xc, z⟩ := x
     simp only at ho hbz
     subst ho
     obtain ⟨c0, c1, c2, c3, c4, cf⟩ := HK.out.cells HKL.out HXK.out
     simp only at c0 c1 c2 c3 c4
     obtain ⟨jp, hjp⟩ : ∃ jp, jp = jmpN o := ⟨_, rfl⟩
     have HJ := Lib.hid (fun w' => jump_any w' o)
     rw [← hjp] at HJ
     have HJP := Lib.hid hjp
     clear hx hjp hmx
     go_wp2_with (fail)
     go_at_call 120
     refine (HJ.out _).mono ?_
     rintro e _ ⟨rfl, rfl⟩
     have hxb : Blk (wi.alloc (.cells #[.int .i64 (o : Int), .int .i64 xa, .int .i64 xb, .int .i64 xc, .int .i64 z] 124)) wi.heap.size [.int .i64 (o : Int), .int .i64 xa, .int .i64 xb, .int .i64 xc, .int .i64 z] := Blk.new _ _ _
     have hbx : Below wi.heap.size wi (wi.alloc (.cells #[.int .i64 (o : Int), .int .i64 xa, .int .i64 xb, .int .i64 xc, .int .i64 z] 124)) := below1 _ _
     generalize wi.alloc _ = wx at *
     have HKX := Lib.hid (HK.out.below hbx)
     have HRX := Lib.hid (HRI.out.below hbx)
     have HBX := Lib.hid (HBI.out.trans (hbx.mono HBI.out.size))
     obtain ⟨e0, e1, e2, e3, e4⟩ := c5_of hxb
     have hwix := hxb.lt
     clear hbx hxb c0 c1 c2 c3 c4 cf HJ HK HRI HBI
     cases jp with
     |false =>
      have HRS : Hid (rsv ps ⟨(o : Int), xa, xb, xc, z⟩ = ⟨(o : Int), xa, xb, xc, z⟩) := Lib.hid (by unfold rsv jmpI; simp [← HJP.out])
      go_wp2_with (fail)
      go_roundw
      case rel =>
       refine ⟨k + 1, by omega, by go_num, Lib.hid ?_⟩
       rw [HSU.out, HRS.out, set_same HXK.out]
       exact HKX.out
      case measure => simp [intOf]; omega
     |true =>
      have HMP := Lib.hid HKX.out.mp
      rcases HLK.out z with ⟨ha, hhas⟩ | ⟨k', ha, hk', hhas, hat'⟩
      ·have HX : Hid (decR p s cs = none) := Lib.hid (decR_no HEX.out (fun h => no_place HMX.out (by unfold jmpI; simp [← HJP.out]) ha h.1))
       obtain ⟨r0, r1, r2⟩ := c3_of HRX.out
       have rf0 := HRX.out.frozen 0; have rf1 := HRX.out.frozen 1; have rf2 := HRX.out.frozen 2
       have HHAS := Lib.hid hhas
       clear ha hhas
       go_wp2_with (first | (at_lookup; refine wpList_lookup_own_ok_int _ rfl _ _ 155 rfl 3 3 .i64 int_keyed3 Tryd.underlying155 Tryd.underlying3 (zero_int _) (w.heap.size + 1 + 1) ps.length _ rfl HMP.out _ _ rfl (Go.Maps.keyOf_int_mk Tryd.underlying3 (wf_int (by omega) (by omega))) ?_; intro c hat hwc; rw [HHAS.out]; clear hat hwc) | fail)
       refine bodyPost_ret (v := .tuple #[.agg #[.int .i64 0, .int .i64 0, .slice none 0 0], .bool false]) (by simp [results, Tryd.results89, go_sem, r0, r1, r2]) rfl ?_
       refine HNO.out _ HX.out ?_
       exact ((HBX.out.setCell (p := ⟨w.heap.size, 0, none⟩) (by simp) _).setCell (p := ⟨w.heap.size, 1, none⟩) (by simp) _).setCell (p := ⟨w.heap.size, 2, none⟩) (by simp) _
      ·have HRS : Hid (rsv ps ⟨(o : Int), xa, xb, xc, z⟩ = ⟨(o : Int), xa, xb, xc, (k' : Int)⟩) := Lib.hid (by unfold rsv jmpI; simp [← HJP.out, ha])
       have HST := Lib.hid (HKX.out.set HKL.out HXK.out (k' : Int))
       obtain ⟨d0, d1, d2, d3, d4, df⟩ := HKX.out.cells HKL.out HXK.out
       simp only at d0 d1 d2 d3 d4
       have f2 := HKX.out.c3.2.2.1
       have HHAS := Lib.hid hhas; have HAT := Lib.hid hat'
       clear ha hhas hat' hk'
       go_wp2_with (first | (at_lookup; refine wpList_lookup_own_ok_int _ rfl _ _ 155 rfl 3 3 .i64 int_keyed3 Tryd.underlying155 Tryd.underlying3 (zero_int _) (w.heap.size + 1 + 1) ps.length _ rfl HMP.out _ _ rfl (Go.Maps.keyOf_int_mk Tryd.underlying3 (wf_int (by omega) (by omega))) ?_; intro c hat hwc; rw [HHAS.out]; rw [HAT.out] at hat; obtain rfl : c = (k' : Int) := (by simpa using hat.symm); clear hat hwc) | fail)
       go_roundw
       case rel =>
        refine ⟨k + 1, by omega, by go_num, Lib.hid ?_⟩
        rw [HSU.out, HRS.out]
        exact HST.out
       case measure => simp [intOf]; omega
    ·obtain rfl : n = k := by omega
     have HF : Hid (rsvK ps xs n = xs.map (rsv ps)) := Lib.hid (by rw [HN.out, rsvK_all])
     have HK2 := Lib.hid (HF.out ▸ HK.out)
     obtain ⟨f0, f1, f2, _⟩ := HK.out.c3
     have HML : Hid ((xs.map (rsv ps)).length = n) := Lib.hid (by rw [List.length_map, ← HN.out])
     have HEN := Lib.hid (ienc_any wi p s (.slice ia n ic) (xs.map (rsv ps)) (HFO.out.below HBI.out) HK2.out.ins.at (by rw [HML.out]; exact hn8) (rsv_ge HNG.out))
     unfold EncPost at HEN
     clear HK
     go_wp2_with (fail)
     go_at_call 121
     refine (HEN.out).mono ?_
     rintro e w5 ⟨bv, b, bs, rfl, hbc, hbe, hbo, hb5⟩
     obtain ⟨f, hf⟩ : ∃ f : Mf, f = ⟨p, s, xs.map (rsv ps)⟩ := ⟨_, rfl⟩
     have HNONE : Hid (¬ (CanS f ∧ encO f = cs) → decR p s cs = none) := Lib.hid (fun hno => decR_no HEX.out (by rw [← hf]; exact hno))
     have HSOME : Hid (CanS f → encO f = cs → decR p s cs = some f) := Lib.hid (fun hc he => by rw [hf] at hc he ⊢; exact decR_yes HEX.out hc he)
     rw [← hf] at hbc hbe
     have HFI : Hid (f.ins = xs.map (rsv ps)) := Lib.hid (by rw [hf])
     have HFP : Hid (f.params = p) := Lib.hid (by rw [hf])
     have HFS : Hid (f.slots = s) := Lib.hid (by rw [hf])
     have HK5 := Lib.hid (HK2.out.below hb5)
     have HB5 := Lib.hid (HBI.out.trans (hb5.mono HBI.out.size))
     have HR5 := Lib.hid (HRI.out.below hb5)
     have HBC := Lib.hid hbc; have HBE := Lib.hid hbe; have HBO := Lib.hid hbo
     clear hb5 hbc hbe hbo hf f0 f1 f2 HEN HK2 HBI HRI HEX HNT HDK
     obtain ⟨r0, r1, r2⟩ := c3_of HR5.out
     have rf0 := HR5.out.frozen 0
     have rf1 := HR5.out.frozen 1
     have rf2 := HR5.out.frozen 2
     cases b with
     |false =>
      have HX : Hid (decR p s cs = none) := Lib.hid (HNONE.out (fun h => by have := HBC.out.2 h.1; cases this))
      go_wp2_with (fail)
      refine bodyPost_ret (v := .tuple #[.agg #[.int .i64 0, .int .i64 0, .slice none 0 0], .bool false]) (by simp [results, Tryd.results89, go_sem, r0, r1, r2]) rfl ?_
      refine HNO.out _ HX.out ?_
      exact ((HB5.out.setCell (p := ⟨w.heap.size, 0, none⟩) (by simp) _).setCell (p := ⟨w.heap.size, 1, none⟩) (by simp) _).setCell (p := ⟨w.heap.size, 2, none⟩) (by simp) _
     |true =>
      have hcan := HBC.out.1 rfl
      have hbs : bs = encO f := HBE.out rfl
      have hsm : ∀ x ∈ bs, x < 256 := by rw [hbs]; exact encO_small hcan
      have hcs := HCS.out.1.below HB5.out
      have HBQ := Lib.hid (beq_any w5 bv (.slice a L cap) bs cs (CsAt.of HBO.out hsm) hcs)
      obtain ⟨qq, hq⟩ : ∃ q, q = decide (bs = cs) := ⟨_, rfl⟩
      rw [← hq] at HBQ
      have HQ := Lib.hid hq; have HCAN := Lib.hid hcan; have HBS := Lib.hid hbs
      clear hq hcan hbs hsm hcs
      obtain ⟨f0, f1, f2, _⟩ := HK5.out.c3
      go_wp2_with (fail)
      go_at_call 91
      refine HBQ.out.mono ?_
      rintro e _ ⟨rfl, rfl⟩
      cases qq with
      |false =>
       have HX : Hid (decR p s cs = none) := Lib.hid (HNONE.out (fun h => by have := HQ.out; rw [HBS.out, h.2] at this; simp at this))
       go_wp2_with (fail)
       refine bodyPost_ret (v := .tuple #[.agg #[.int .i64 0, .int .i64 0, .slice none 0 0], .bool false]) (by simp [results, Tryd.results89, go_sem, r0, r1, r2]) rfl ?_
       refine HNO.out _ HX.out ?_
       exact ((HB5.out.setCell (p := ⟨w.heap.size, 0, none⟩) (by simp) _).setCell (p := ⟨w.heap.size, 1, none⟩) (by simp) _).setCell (p := ⟨w.heap.size, 2, none⟩) (by simp) _
      |true =>
       have HX : Hid (decR p s cs = some f) := Lib.hid (HSOME.out HCAN.out (by rw [← HBS.out]; exact of_decide_eq_true HQ.out.symm))
       go_wp2_with (fail)
       refine bodyPost_ret (v := .tuple #[.agg #[.int .i64 p, .int .i64 s, .slice ia n ic], .bool true]) (by simp [results, Tryd.results89, go_sem, r0, r1, r2]) rfl ?_
       have hres := HYES.out (((w5.setCell ⟨w.heap.size, 0, none⟩ (.int .i64 p)).setCell ⟨w.heap.size, 1, none⟩ (.int .i64 s)).setCell ⟨w.heap.size, 2, none⟩ (.slice ia n ic)) (.slice ia n ic) f HX.out ?_ ?_
       ·rw [HFP.out, HFS.out] at hres; exact hres
       ·rw [HFI.out]
        have hs3 := HS3.out
        exact (HK5.out.ins.only ((((Only.refl [w.heap.size] w5).setCell (p := ⟨w.heap.size, 0, none⟩) (by simp) _).setCell (p := ⟨w.heap.size, 1, none⟩) (by simp) _).setCell (p := ⟨w.heap.size, 2, none⟩) (by simp) _) (fun b hb => by have := List.mem_singleton.1 hb; omega)).mono (by omega)
       ·exact ((HB5.out.setCell (p := ⟨w.heap.size, 0, none⟩) (by simp) _).setCell (p := ⟨w.heap.size, 1, none⟩) (by simp) _).setCell (p := ⟨w.heap.size, 2, none⟩) (by simp) _
end Go.Proofs.YtbdbmmdnidonjaaDoor
