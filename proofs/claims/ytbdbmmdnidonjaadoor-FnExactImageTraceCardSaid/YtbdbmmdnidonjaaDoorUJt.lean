/- The function of bytes, on the reference's side: DecodeFn. Pieces of readable bytes. -/
import Derived.Test.YtbdbmmdnidonjaaDoorUJs
import Derived.StillTailTactics
set_option linter.unusedVariables false
set_option linter.unusedSimpArgs false
set_option maxRecDepth 100000
namespace Go.Proofs.YtbdbmmdnidonjaaDoor
open Go.RowKit
/-- what DecodeFn answers: the function, its instructions in a row of the call's own -/
def DecP (p s : Int) (cs : List Nat) (w : World) (e : Ending) (w' : World) : Prop :=
 ∃ (f : Mf) (iv : Value) (ok : Bool), e = .returned (.tuple #[.agg #[.int .i64 f.params, .int .i64 f.slots, iv], .bool ok]) ∧ (ok = true → decR p s cs = some f) ∧ (ok = false → decR p s cs = none ∧ f = ⟨0, 0, []⟩) ∧ OwnIns w.heap.size w' iv f.ins ∧ Below w.heap.size w w'
/-- the instructions with the first k jumps resolved -/
def rsvK (ps : List Nat) (xs : List Mi) (k : Nat) : List Mi := (xs.take k).map (rsv ps) ++ xs.drop k
theorem rsvK_len (ps : List Nat) (xs : List Mi) (k : Nat) : (rsvK ps xs k).length = xs.length := by simp [rsvK]; omega
theorem rsvK_zero (ps : List Nat) (xs : List Mi) : rsvK ps xs 0 = xs := by simp [rsvK]
theorem rsvK_all (ps : List Nat) (xs : List Mi) : rsvK ps xs xs.length = xs.map (rsv ps) := by simp [rsvK]
theorem rsvK_at (ps : List Nat) (xs : List Mi) (k : Nat) (hk : k < xs.length) : (rsvK ps xs k)[k]? = xs[k]? := by
 unfold rsvK
 rw [List.getElem?_append_right (by simp; omega), List.getElem?_drop]
 congr 1
 simp only [List.length_map, List.length_take]
 omega
theorem set_same {α : Type} {l : List α} {k : Nat} {x : α} (h : l[k]? = some x) : l.set k x = l := by
 apply List.ext_getElem?
 intro i
 by_cases e : k = i
 ·subst e; rw [List.getElem?_set_self (idx_lt h), h]
 ·rw [List.getElem?_set_ne e]
theorem rsvK_succ (ps : List Nat) (xs : List Mi) (k : Nat) (hk : k < xs.length) : rsvK ps xs (k + 1) = (rsvK ps xs k).set k (rsv ps xs[k]) := by
 unfold rsvK
 rw [List.take_succ_eq_append_getElem hk, List.drop_eq_getElem_cons hk]
 simp only [List.map_append, List.map_cons, List.map_nil, List.append_assoc, List.singleton_append]
 rw [List.set_append_right _ _ (by simp; omega)]
 simp only [List.length_map, List.length_take, show min k xs.length = k by omega, Nat.sub_self]
 rfl
set_option maxHeartbeats 8000000 in
theorem dec_any (w : World) (p s : Int) (v : Value) (cs : List Nat) (h : CsAt w v cs) (hle : cs.length ≤ 1048576) :
  Calls Tryd.prog 88 #[.int .i64 p, .int .i64 s, v] w (DecP p s cs w) := by
 obtain ⟨j0, hj, hw0, hw1, hw2⟩ := info_parts info_mi
 obtain ⟨i0, hi, hz0, hz1, hz2⟩ := info_parts info_int
 have HCS := Lib.hid h
 obtain ⟨a, cap, rfl, _⟩ := h
 obtain ⟨L, hL⟩ : ∃ L, L = cs.length := ⟨_, rfl⟩
 have HONE := Lib.hid (fun w' (at_ : Nat) h hlt => one_q w' (.slice a cs.length cap) cs at_ h hlt hle)
 have HNX : Hid (∀ (xs : List Mi) (ps : List Nat) (at_ : Nat), DecTo cs xs ps at_ → xs.length = ps.length ∧ 2 * xs.length ≤ at_ ∧ at_ ≤ L) := Lib.hid (fun xs ps at_ h => by rw [hL]; exact ⟨h.lens.1, h.lens.2.1, h.lens.2.2.1⟩)
 have HSZ : Hid (∀ (x : Mi) (n at_ : Nat), oneN cs at_ = some (x, n) → 2 ≤ n ∧ n ≤ 4 ∧ at_ + n ≤ L) := Lib.hid (fun x n at_ h => by rw [hL]; exact oneN_size h)
 have HLN := Lib.hid hL
 rw [← hL] at HCS HONE hle ⊢
 -- how it ends
 have HNO : Hid (∀ w' (iv : Value), decR p s cs = none → iv = .slice none 0 0 → Below w.heap.size w w' → DecP p s cs w (.returned (.tuple #[.agg #[.int .i64 0, .int .i64 0, iv], .bool false])) w') := Lib.hid (fun w' iv hd hv hb => by
  subst hv
  exact ⟨⟨0, 0, []⟩, .slice none 0 0, false, rfl, (fun h => by cases h), fun _ => ⟨hd, rfl⟩, ⟨[], World.ownsRow_nil _ _ _ _, fun i f hi => by simp at hi⟩, hb⟩)
 have HYES : Hid (∀ w' (iv : Value) (f : Mf), decR p s cs = some f → OwnIns w.heap.size w' iv f.ins → Below w.heap.size w w' → DecP p s cs w (.returned (.tuple #[.agg #[.int .i64 f.params, .int .i64 f.slots, iv], .bool true])) w') := Lib.hid (fun w' iv f hd ho hb =>
  ⟨f, iv, true, rfl, fun _ => hd, (fun h => by cases h), ho, hb⟩)
 obtain ⟨Q, hQ⟩ : ∃ Q, Q = DecP p s cs w := ⟨_, rfl⟩
 rw [← hQ] at HNO HYES ⊢
 clear hQ hL
 go_enter Tryd.func88, Tryd.ntmps88
 go_wp2_with (fail)
 generalize hwa : w.alloc _ = w1
 have hR1 : Blk w1 w.heap.size [.int .i64 0, .int .i64 0, .slice none 0 0] := by rw [← hwa]; exact Blk.new _ _ _
 have hb1 : Below w.heap.size w w1 := by rw [← hwa]; exact below1 _ _
 have hs1 : w1.heap.size = w.heap.size + 1 := by rw [← hwa]; simp
 generalize hwb : w1.alloc _ = w2
 have hF2 : Blk w2 (w.heap.size + 1) [.int .i64 p, .int .i64 s, .slice none 0 0] := by rw [← hwb, ← hs1]; exact Blk.new _ _ _
 have hb2 : Below w1.heap.size w1 w2 := by rw [← hwb]; exact below1 _ _
 have hs2 : w2.heap.size = w.heap.size + 1 + 1 := by rw [← hwb]; simp [hs1]
 generalize hwc : w2.alloc _ = w3
 have hb3 : Below w2.heap.size w2 w3 := by rw [← hwc]; exact below1 _ _
 have hP3 : w3.ownsRow w2.heap.size 3 1 (.slice (some ⟨w.heap.size + 1 + 1, 0, none⟩) 0 0) 0 [] := by rw [← hwc]; exact ownLit0 _ _ _ hs2.symm (Nat.le_refl _)
 have HB2 := Lib.hid (hb1.trans (hb2.mono hb1.size))
 have HR2 := Lib.hid (hR1.below hb2)
 have HD3 : Hid (DeS w2.heap.size (w.heap.size + 1) p s w2 w3 (.slice none 0 0) (.slice (some ⟨w.heap.size + 1 + 1, 0, none⟩) 0 0) [] []) := Lib.hid ⟨hF2.below hb3, ⟨[], World.ownsRow_nil _ _ _ _, fun i f hi => by simp at hi⟩, hP3, Only.of_below hb3 _, by omega, rfl⟩
 have HS2 := Lib.hid hs2
 clear hwa hwb hwc hR1 hb1 hs1 hF2 hb2 hb3 hP3 hs2
 go_loopw [9, 10] (fun pv i wr => ∃ (xs : List Mi) (ps : List Nat) (at_ : Nat) (ia : Option Addr) (ic : Nat), i = .int .i64 (at_ : Int) ∧ Hid (DecTo cs xs ps at_) ∧ Hid (8000 < L → xs = []) ∧ Hid (DeS w2.heap.size (w.heap.size + 1) p s w2 wr (.slice ia xs.length ic) pv xs ps)) (fun _ i _ => L - (intOf i).toNat)
 case atStart => exact ⟨[], [], 0, none, 0, rfl, Lib.hid .start, Lib.hid (fun _ => rfl), HD3⟩
 case round =>
  obtain ⟨xs, ps, at_, ia, ic, rfl, HDT, HBIG, HD⟩ := hrel
  obtain ⟨wo, rfl⟩ : ∃ wo : World, wo = wr := ⟨_, rfl⟩
  obtain ⟨hxp, hx2, hatL⟩ := HNX.out xs ps at_ HDT.out
  obtain ⟨n, hn⟩ : ∃ n, n = xs.length := ⟨_, rfl⟩
  rw [← hn] at HD hxp hx2
  have HN := Lib.hid hn
  have HXP := Lib.hid hxp
  clear hn hxp
  obtain ⟨pa, pc, rfl⟩ := rowForm HD.out.plc
  have q0 : (0 : Int) ≤ at_ := by omega
  have qL : (L : Int) ≤ 1048576 := by omega
  have HBO : Hid (Below w.heap.size w wo) := Lib.hid (Only.below HB2.out HD.out.only HB2.out.size (fun b hb => by have := List.mem_singleton.1 hb; omega))
  have HRO : Hid (Blk wo w.heap.size [.int .i64 0, .int .i64 0, .slice none 0 0]) := Lib.hid (HR2.out.same (HD.out.only.block _ HR2.out.lt (by simp)))
  by_cases hgo : at_ < L ∧ L ≤ 8000
  ·obtain ⟨hlt, hsm⟩ := hgo
   have q1 : (at_ : Int) < L := by omega
   have q2 : (L : Int) ≤ 8000 := by omega
   go_wp2_with (fail)
   go_at_call 115
   refine (HONE.out wo at_ (HCS.out.below HBO.out) hlt).mono ?_
   rintro e w5 ⟨o, a1, b1, c1, z, m, ok, rfl, hy, hno, hb5⟩
   have HD5 := Lib.hid (HD.out.below hb5)
   have HB5 := Lib.hid (HBO.out.trans (hb5.mono HBO.out.size))
   have HR5 := Lib.hid (HRO.out.below hb5)
   have HY := Lib.hid hy; have HNOO := Lib.hid hno
   clear hb5 hy hno HD HBO HRO
   cases ok with
   |false =>
    have HX : Hid (decR p s cs = none) := Lib.hid (decR_none (HDT.out.none (by rw [← HLN.out]; exact hlt) (HNOO.out rfl)))
    have hr6 : ∀ u, Blk (w5.alloc u) w.heap.size [.int .i64 0, .int .i64 0, .slice none 0 0] := fun u => HR5.out.alloc u
    have r0 := fun o => (c3_of (HR5.out.alloc o)).1
    have r1 := fun o => (c3_of (HR5.out.alloc o)).2.1
    have r2 := fun o => (c3_of (HR5.out.alloc o)).2.2
    have rf0 := fun o => (HR5.out.alloc o).frozen 0
    have rf1 := fun o => (HR5.out.alloc o).frozen 1
    have rf2 := fun o => (HR5.out.alloc o).frozen 2
    go_wp2_with (fail)
    refine bodyPost_ret (v := .tuple #[.agg #[.int .i64 0, .int .i64 0, .slice none 0 0], .bool false]) (by simp [results, Tryd.results88, go_sem, r0, r1, r2]) rfl ?_
    refine HNO.out _ _ HX.out rfl ?_
    have hsw := HB5.out.size
    have hbb := HB5.out
    (repeat' (first | exact Below.refl _ _ | assumption | (refine Below.setCell ?_ ?_ _) | (refine Below.alloc ?_ ?_ _) | (refine belowDrewN ?_ _) | omega | (simp; done) | (simp; omega)))
   |true =>
    have hone := HY.out rfl
    obtain ⟨hm2, hm4, hmL⟩ := HSZ.out _ _ _ hone
    have HDT2 := Lib.hid (HDT.out.more (by rw [← HLN.out]; exact hlt) hone)
    obtain ⟨ys, hys, hxs⟩ := HD5.out.ins
    rw [← HN.out] at hys
    have HYS := Lib.hid hys; have HXS := Lib.hid hxs
    have f2 := fun o => (HD5.out.below (below1 w5 o)).c3.2.2.1
    have hs5 := HD5.out.size
    have m0 : (0 : Int) ≤ m := by omega
    have m4 : (m : Int) ≤ 4 := by omega
    have HS := Lib.hid HS2.out
    have hn4 : n ≤ 8000 := by omega
    have hp4 : ps.length ≤ 8000 := by rw [← HXP.out]; exact hn4
    clear hys hxs hone HY HNOO HDT
    go_wp2_with (first | (at_builtin; refine wpList_append_own _ rfl _ _ 103 (by rfl) w2.heap.size 124 j0 _ 5 40 Tryd.underlying103 hj hw0 hw1 hw2 rfl (by decide) _ n ys (by rfl) ((HYS.out.alloc _).alloc _) ⟨w5.heap.size + 1, 0, none⟩ 1 1 [.int .i64 o, .int .i64 a1, .int .i64 b1, .int .i64 c1, .int .i64 z] (by rfl) rfl (World.news_of_block (cs := #[.int .i64 o, .int .i64 a1, .int .i64 b1, .int .i64 c1, .int .i64 z]) (t := 124) (fr := (0, 0)) (by have h := heap_alloc_new (w5.alloc (.cells #[.int .i64 o, .int .i64 a1, .int .i64 b1, .int .i64 c1, .int .i64 z] 124)) (.cells #[.int .i64 o, .int .i64 a1, .int .i64 b1, .int .i64 c1, .int .i64 z] 124); simpa using h)) (by simp [Value.oneCell']) (by unfold maxLen; omega) (by omega) (by simp; omega) ?_; intro v6 w6 ho6 hg6 _; obtain ⟨g6, c6, rfl⟩ := own_form ho6 (by omega); obtain ⟨hF6, hD7⟩ := DeS.app (HD5.out.below (below2 w5 _ _)) (by rw [← HN.out]; exact (HYS.out.alloc _).alloc _) HXS.out (by rw [← HN.out]; exact ho6) hg6; have m2 : w6.cell? ⟨w.heap.size + 1, 2, none⟩ = some (.slice ia n ic) := (by rw [hF6.cell]; rfl); have mf := hF6.frozen 2; have HD7 := Lib.hid hD7; have hs6 := hD7.size; have HP7 := Lib.hid hD7.plc; clear ho6 hg6 hF6 hD7) | (at_builtin; refine wpList_append_own _ rfl _ _ 26 (by rfl) w2.heap.size 3 i0 _ 1 8 Tryd.underlying26 hi hz0 hz1 hz2 rfl (by decide) _ ps.length (nats ps) (by rfl) (HP7.out.alloc _) ⟨w6.heap.size, 0, none⟩ 1 1 [.int .i64 (at_ : Int)] (by rfl) rfl (World.news_of_block (cs := #[.int .i64 (at_ : Int)]) (t := 3) (fr := (0, 0)) (by have h := heap_alloc_new (w6.setCell ⟨w.heap.size + 1, 2, none⟩ (.slice (some ⟨g6, 0, none⟩) (n + 1) c6)) (.cells #[.int .i64 (at_ : Int)] 3); simpa using h)) (by simp [Value.oneCell']) (by unfold maxLen; omega) (by omega) (by simp at hs6 ⊢; omega) ?_; intro v8 w8 ho8 hg8 _; have HD8 := Lib.hid ((HD7.out.below (below1 _ _)).app2 ho8 hg8); clear ho8 hg8) | fail)
    go_roundw
    case rel =>
     refine ⟨xs ++ [⟨o, a1, b1, c1, z⟩], ps ++ [at_], at_ + m, some ⟨g6, 0, none⟩, c6, by go_num, HDT2, Lib.hid (fun h => by omega), ?_⟩
     rw [List.length_append, List.length_singleton, ← HN.out]
     exact HD8
    case measure => simp [intOf]; omega
  ·have HEX : Hid (decA cs = some (xs, ps) ∨ (8000 < L ∧ xs = [])) := Lib.hid (by
    by_cases hlt : at_ < L
    ·exact .inr ⟨by omega, HBIG.out (by omega)⟩
    ·exact .inl (HDT.out.all (by rw [← HLN.out]; exact hlt)))
   have HNT : Hid (∀ x ∈ xs, ∃ o : Nat, x.op = (o : Int)) := Lib.hid HDT.out.nat
   have hn8 : n ≤ 1048576 := by omega
   have hp8 : ps.length ≤ 1048576 := by rw [← HXP.out]; exact hn8
   have HDK : Hid (DeS w2.heap.size (w.heap.size + 1) p s w2 wo (.slice ia n ic) (.slice pa ps.length pc) (rsvK ps xs 0) ps) := Lib.hid (by rw [rsvK_zero]; exact HD.out)
   have f2 := HDK.out.c3.2.2.1
   have hor : ¬ at_ < L ∨ (at_ < L ∧ 8000 < L) := by omega
   clear HDT HBIG HBO HRO HD hx2 hgo
   rcases hor with hA | ⟨hA, hB⟩
   all_goals
    first
     |have g1 : decide ((at_ : Int) < L) = false := by simp; omega
      go_wp2_with (fail)
     |have g1 : (at_ : Int) < L := by omega
      have g2 : decide ((L : Int) ≤ 8000) = false := by simp; omega
      go_wp2_with (fail)
    clear f2
    go_loopw [14] (fun i wr => ∃ k : Nat, k ≤ n ∧ i = .int .i64 (k : Int) ∧ Hid (DeS w2.heap.size (w.heap.size + 1) p s w2 wr (.slice ia n ic) (.slice pa ps.length pc) (rsvK ps xs k) ps)) (fun i _ => n - (intOf i).toNat)
    case atStart => exact ⟨0, Nat.zero_le _, rfl, HDK⟩
    case round =>
     obtain ⟨k, hk, rfl, HK⟩ := hrel
     obtain ⟨wi, rfl⟩ : ∃ wi : World, wi = wr := ⟨_, rfl⟩
     have f2 := HK.out.c3.2.2.1
     by_cases hkn : k < n
     ·have k0 : (0 : Int) ≤ k := by omega
      have k1 : (k : Int) < n := by omega
      have HKL : Hid ((rsvK ps xs k).length = n) := Lib.hid (by rw [rsvK_len, ← HN.out])
      obtain ⟨g, rfl⟩ := HK.out.insForm HKL.out (by omega)
      obtain ⟨x, hx⟩ : ∃ x, xs[k]? = some x := ⟨_, List.getElem?_eq_getElem (by rw [← HN.out]; exact hkn)⟩
      have HXK : Hid ((rsvK ps xs k)[k]? = some x) := Lib.hid (by rw [rsvK_at _ _ _ (by rw [← HN.out]; exact hkn)]; exact hx)
      have HSU : Hid (rsvK ps xs (k + 1) = (rsvK ps xs k).set k (rsv ps x)) := Lib.hid (by
       have hkl := idx_lt hx
       rw [rsvK_succ _ _ _ hkl]
       rw [List.getElem?_eq_getElem hkl] at hx
       injection hx with hx; rw [hx])
      obtain ⟨o, ho⟩ := HNT.out x (List.mem_of_getElem? hx)
      obtain ⟨xo, xa, xb, xc, z⟩ := x
      simp only at ho
      subst ho
      obtain ⟨c0, c1, c2, c3, c4, cf⟩ := HK.out.cells HKL.out HXK.out
      simp only at c0 c1 c2 c3 c4
      obtain ⟨jp, hjp⟩ : ∃ jp, jp = jmpN o := ⟨_, rfl⟩
      have HJ := Lib.hid (fun w' => sjump_any w' o xa xb xc z)
      rw [← hjp] at HJ
      have HJP := Lib.hid hjp
      clear hx hjp
      go_wp2_with (fail)
      go_at_call 116
      refine (HJ.out _).mono ?_
      rintro e w5 ⟨rfl, hb5⟩
      have HK5 := Lib.hid (HK.out.below hb5)
      clear hb5 c0 c1 c2 c3 c4 cf f2 HK HJ
      cases jp with
      |false =>
       have HRS : Hid (rsv ps ⟨(o : Int), xa, xb, xc, z⟩ = ⟨(o : Int), xa, xb, xc, z⟩) := Lib.hid (by unfold rsv jmpI; simp [← HJP.out])
       go_wp2_with (fail)
       go_roundw
       case rel =>
        refine ⟨k + 1, by omega, by go_num, Lib.hid ?_⟩
        rw [HSU.out, HRS.out, set_same HXK.out]
        exact HK5.out
       case measure => simp [intOf]; omega
      |true =>
       have HRS : Hid (rsv ps ⟨(o : Int), xa, xb, xc, z⟩ = ⟨(o : Int), xa, xb, xc, atN ps z⟩) := Lib.hid (by unfold rsv jmpI; simp [← HJP.out])
       have HAT := Lib.hid (atq_any w5.drew (.slice pa ps.length pc) ps z HK5.out.drew.nats hp8)
       have HST := Lib.hid (HK5.out.drew.set HKL.out HXK.out (atN ps z))
       obtain ⟨c0, c1, c2, c3, c4, cf⟩ := HK5.out.cells HKL.out HXK.out
       simp only at c0 c1 c2 c3 c4
       have f2 := HK5.out.c3.2.2.1
       obtain ⟨R, hR⟩ : ∃ R, R = atN ps z := ⟨_, rfl⟩
       rw [← hR] at HAT HST HRS
       clear hR
       go_wp2_with (fail)
       refine wp_region_still_tail 13 (by kernel_rfl) (by kernel_rfl) ?_
       simp only [List.take_succ_cons, List.take_zero, List.drop_succ_cons, List.drop_zero]
       repeat still_step
       still_call (HAT.out)
       repeat still_step
       try refine wpStill_nil ?_
       change wpList _ _ _ _ _ w5.drew
       have HK6 := Lib.hid HK5.out.drew
       clear c0 c1 c2 c3 c4 cf f2 HK5 HAT
       generalize w5.drew = w6 at *
       obtain ⟨_, _, _, _, c4, cf⟩ := HK6.out.cells HKL.out HXK.out
       simp only at c4
       go_wp2_with (fail)
       go_roundw
       case rel =>
        refine ⟨k + 1, by omega, by go_num, Lib.hid ?_⟩
        rw [HSU.out, HRS.out]
        exact HST.out
       case measure => simp [intOf]; omega
     ·obtain rfl : k = n := by omega
      have HF : Hid (rsvK ps xs k = xs.map (rsv ps)) := Lib.hid (by rw [HN.out, rsvK_all])
      have HK2 := Lib.hid (HF.out ▸ HK.out)
      obtain ⟨f0, f1, _, _⟩ := HK.out.c3
      have HBI : Hid (Below w.heap.size w wi) := Lib.hid (Only.below HB2.out HK.out.only HB2.out.size (fun b hb => by have := List.mem_singleton.1 hb; omega))
      have HRI : Hid (Blk wi w.heap.size [.int .i64 0, .int .i64 0, .slice none 0 0]) := Lib.hid (HR2.out.same (HK.out.only.block _ HR2.out.lt (by simp)))
      have HML : Hid ((xs.map (rsv ps)).length = k) := Lib.hid (by rw [List.length_map, ← HN.out])
      have HEN := Lib.hid (enc_any wi p s (.slice ia k ic) (xs.map (rsv ps)) HK2.out.mis (by rw [HML.out]; exact hn8))
      unfold EncPost at HEN
      clear HK
      go_wp2_with (fail)
      go_at_call 118
      refine (HEN.out).mono ?_
      rintro e w5 ⟨bv, b, bs, rfl, hbc, hbe, hbo, hb5⟩
      obtain ⟨f, hf⟩ : ∃ f : Mf, f = ⟨p, s, xs.map (rsv ps)⟩ := ⟨_, rfl⟩
      have HNONE : Hid (¬ (CanS f ∧ encO f = cs) → decR p s cs = none) := Lib.hid (fun hno => by
       rcases HEX.out with hd | ⟨hbig, _⟩
       ·exact decR_no hd (by rw [← hf]; exact hno)
       ·cases hd : decR p s cs with
        |none => rfl
        |some f' => have := (decR_some hd).2.2.2.2.1; have := HLN.out; omega)
      have HSOME : Hid (CanS f → encO f = cs → decR p s cs = some f) := Lib.hid (fun hc he => by
       rcases HEX.out with hd | ⟨_, hx0⟩
       ·rw [hf] at hc he ⊢; exact decR_yes hd hc he
       ·exfalso
        have := (CanS.fn hc.1).pos
        rw [hf, hx0] at this
        simp at this)
      rw [← hf] at hbc hbe
      have HFI : Hid (f.ins = xs.map (rsv ps)) := Lib.hid (by rw [hf])
      have HFP : Hid (f.params = p) := Lib.hid (by rw [hf])
      have HFS : Hid (f.slots = s) := Lib.hid (by rw [hf])
      have HK5 := Lib.hid (HK2.out.below hb5)
      have HB5 := Lib.hid (HBI.out.trans (hb5.mono HBI.out.size))
      have HR5 := Lib.hid (HRI.out.below hb5)
      have hsw := HB5.out.size
      have hs2 := HS2.out
      have HBC := Lib.hid hbc; have HBE := Lib.hid hbe; have HBO := Lib.hid hbo
      clear hb5 hbc hbe hbo hf f0 f1 hA HEN HK2 HBI HRI HEX HNT HDK
      try clear g1
      try clear hB g2
      obtain ⟨r0, r1, r2⟩ := c3_of HR5.out
      have rf0 := HR5.out.frozen 0
      have rf1 := HR5.out.frozen 1
      have rf2 := HR5.out.frozen 2
      cases b with
      |false =>
       have HX : Hid (decR p s cs = none) := Lib.hid (HNONE.out (fun h => by have := HBC.out.2 h.1; cases this))
       go_wp2_with (fail)
       refine bodyPost_ret (v := .tuple #[.agg #[.int .i64 0, .int .i64 0, .slice none 0 0], .bool false]) (by simp [results, Tryd.results88, go_sem, r0, r1, r2]) rfl ?_
       refine HNO.out _ _ HX.out rfl ?_
       exact ((HB5.out.setCell (p := ⟨w.heap.size, 0, none⟩) (by simp) _).setCell (p := ⟨w.heap.size, 1, none⟩) (by simp) _).setCell (p := ⟨w.heap.size, 2, none⟩) (by simp) _
      |true =>
       have hcan := HBC.out.1 rfl
       have hbs : bs = encO f := HBE.out rfl
       have hsm : ∀ x ∈ bs, x < 256 := by rw [hbs]; exact encO_small hcan
       have hcs := HCS.out.below HB5.out
       have hcv1 := conv_cs (CsAt.of HBO.out hsm)
       have hcv2 := conv_cs hcs
       obtain ⟨_, _, _, hsc, _⟩ := hcs
       have hse := strN_eq hsm hsc
       obtain ⟨q, hq⟩ : ∃ q, q = decide (bs = cs) := ⟨_, rfl⟩
       rw [← hq] at hse
       have HQ := Lib.hid hq; have HCAN := Lib.hid hcan; have HBS := Lib.hid hbs
       generalize strN bs = s1 at *
       generalize strN cs = s2 at *
       clear hq hcan hbs hsm hsc
       obtain ⟨f0, f1, f2, _⟩ := HK5.out.c3
       cases q with
       |false =>
        have HX : Hid (decR p s cs = none) := Lib.hid (HNONE.out (fun h => by have := HQ.out; rw [HBS.out, h.2] at this; simp at this))
        go_wp2_with (fail)
        refine bodyPost_ret (v := .tuple #[.agg #[.int .i64 0, .int .i64 0, .slice none 0 0], .bool false]) (by simp [results, Tryd.results88, go_sem, r0, r1, r2]) rfl ?_
        refine HNO.out _ _ HX.out rfl ?_
        exact ((HB5.out.setCell (p := ⟨w.heap.size, 0, none⟩) (by simp) _).setCell (p := ⟨w.heap.size, 1, none⟩) (by simp) _).setCell (p := ⟨w.heap.size, 2, none⟩) (by simp) _
       |true =>
        have HX : Hid (decR p s cs = some f) := Lib.hid (HSOME.out HCAN.out (by rw [← HBS.out]; exact of_decide_eq_true HQ.out.symm))
        go_wp2_with (fail)
        refine bodyPost_ret (v := .tuple #[.agg #[.int .i64 p, .int .i64 s, .slice ia k ic], .bool true]) (by simp [results, Tryd.results88, go_sem, r0, r1, r2]) rfl ?_
        have hres := HYES.out (((w5.setCell ⟨w.heap.size, 0, none⟩ (.int .i64 p)).setCell ⟨w.heap.size, 1, none⟩ (.int .i64 s)).setCell ⟨w.heap.size, 2, none⟩ (.slice ia k ic)) (.slice ia k ic) f HX.out ?_ ?_
        ·rw [HFP.out, HFS.out] at hres; exact hres
        ·rw [HFI.out]
         exact (HK5.out.ins.only ((((Only.refl [w.heap.size] w5).setCell (p := ⟨w.heap.size, 0, none⟩) (by simp) _).setCell (p := ⟨w.heap.size, 1, none⟩) (by simp) _).setCell (p := ⟨w.heap.size, 2, none⟩) (by simp) _) (fun b hb => by have := List.mem_singleton.1 hb; omega)).mono (by omega)
        ·exact ((HB5.out.setCell (p := ⟨w.heap.size, 0, none⟩) (by simp) _).setCell (p := ⟨w.heap.size, 1, none⟩) (by simp) _).setCell (p := ⟨w.heap.size, 2, none⟩) (by simp) _
end Go.Proofs.YtbdbmmdnidonjaaDoor
set_option maxRecDepth 100000
namespace Go.Proofs.YtbdbmmdnidonjaaDoor
open Go.RowKit
/-- readable bytes that can be cut -/
def CsC (w : World) (v : Value) (cs : List Nat) : Prop := CsAt w v cs ∧ ∃ a cap, v = .slice a cs.length cap ∧ cs.length ≤ cap
theorem CsC.below {w w' : World} {v : Value} {cs : List Nat} (h : CsC w v cs) (hb : Below w.heap.size w w') : CsC w' v cs := ⟨h.1.below hb, h.2⟩
theorem cutN_byte (b : List Nat) (p n i : Nat) (hi : i < n) : byteN (cutN b p n) i = byteN b (p + i) := by
 unfold cutN byteN
 simp only [List.getD_eq_getElem?_getD]
 rw [List.getElem?_take_of_lt hi, List.getElem?_drop]
theorem cutN_len {b : List Nat} {p n : Nat} (h : p + n ≤ b.length) : (cutN b p n).length = n := by
 unfold cutN; rw [List.length_take, List.length_drop]; omega
theorem cutN_small {b : List Nat} (h : ∀ x ∈ b, x < 256) (p n : Nat) : ∀ x ∈ cutN b p n, x < 256 := fun x hx => h x (List.mem_of_mem_drop (List.mem_of_mem_take hx))
theorem size_u8 (w : World) : (sizeOf 5).run Tryd.prog w = .ok 1 w := by kernel_rfl
theorem elem_u8 : Tryd.prog.elem 22 = 5 := by kernel_rfl
theorem und_u8 : Tryd.prog.underlying 22 = some (.slice (Tryd.prog.elem 22)) := by kernel_rfl
/-- a piece: its value, what it reads as, and how the walk comes by it -/
theorem slice_cs {w : World} {a : Option Addr} {L cap : Nat} {cs : List Nat} (h : CsC w (.slice a L cap) cs) {lo n : Nat} (hn : lo + n ≤ L) :
  ∃ a' cap', CsC w (.slice a' n cap') (cutN cs lo n) ∧ (∀ (w' : World) (l h : Int), l = lo → h = ((lo + n : Nat) : Int) → (Instr.slice 22 (.slice a L cap) (some (.int .i64 l)) (some (.int .i64 h)) none).run Tryd.prog w' = .ok (.slice a' n cap') w') ∧
   (lo + n = L → ∀ (w' : World) (l : Int), l = lo → (Instr.slice 22 (.slice a L cap) (some (.int .i64 l)) none none).run Tryd.prog w' = .ok (.slice a' n cap') w') := by
 obtain ⟨⟨a0, cap0, hv, hs, hc⟩, a1, cap1, hv1, hle⟩ := h
 injection hv with e1 e2 e3; subst e1 e2 e3
 injection hv1 with e1 e2 e3; subst e1 e3
 have hrun : ∀ l : Int, l = lo → sliced a l.toNat ((lo + n : Nat) : Int).toNat cap 1 = .slice (if cap = lo then a else a.map (·.add lo)) n (cap - lo) := fun l hl => by
  subst hl
  unfold sliced
  simp only [Int.toNat_natCast, Nat.mul_one]
  rw [show lo + n - lo = n by omega]
 refine ⟨if cap = lo then a else a.map (·.add lo), cap - lo, ⟨⟨_, _, by rw [cutN_len hn], cutN_small hs lo n, fun i hi => ?_⟩, _, _, by rw [cutN_len hn], by rw [cutN_len hn]; omega⟩, fun w' l h hl hh => ?_, fun hL w' l hl => ?_⟩
 ·rw [cutN_len hn] at hi
  obtain ⟨b, off, ha, h1⟩ := hc (lo + i) (by omega)
  have hne : ¬ cap = lo := by omega
  refine ⟨b, off + lo, ?_, ?_⟩
  ·rw [if_neg hne, ha]
   simp only [Option.map_some]
   unfold Addr.add
   by_cases h0 : lo = 0
   ·subst h0; rfl
   ·simp [h0]
  ·rw [cutN_byte _ _ _ _ hi, Nat.add_assoc]; exact h1
 ·subst hh
  rw [run_slice_lh w' 22 a cs.length cap und_u8 .i64 .i64 l _ (by omega) (by omega) (by omega), elem_u8, size_u8]
  show Result.ok _ w' = _
  rw [hrun l hl]
 ·rw [run_slice_l w' 22 a cs.length cap und_u8 .i64 l (by omega) (by omega), elem_u8, size_u8]
  show Result.ok _ w' = _
  rw [← hrun l hl]
  simp [hL]
end Go.Proofs.YtbdbmmdnidonjaaDoor
