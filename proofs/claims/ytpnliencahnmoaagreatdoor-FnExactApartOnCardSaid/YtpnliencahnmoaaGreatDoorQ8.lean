/- The reference's check of names: expressions. -/
import Derived.Test.YtpnliencahnmoaaGreatDoorQ7
set_option linter.unusedVariables false
set_option linter.unusedSimpArgs false
set_option linter.unusedVariables false
set_option linter.unusedSimpArgs false
set_option maxRecDepth 100000
namespace Go.Proofs.YtpnliencahnmoaaGreatDoor
open Go.RowKit
theorem info_ex : (Tryz.prog.info? 67).map (fun i => (i.zero, i.size, i.bytes)) = some (some (.agg #[.int .i64 0, .int .i64 0, .string .empty, .slice none 0 0]), 4, 56) := by kernel_rfl
theorem Blk.fresh {X : World} {p : Nat} {cs : Array Value} {t : TypeId} {xs : List Value} (h : p = X.heap.size) (hx : cs.toList = xs) : Blk (X.alloc (.cells cs t)) p xs := by
  subst h; subst hx; exact Blk.new _ _ _
theorem Only.blk {bs : List Nat} {w w' : World} (h : Only bs w w') {p : Nat} {xs : List Value} (hb : Blk w p xs) (hp : p ∉ bs) : Blk w' p xs := hb.same (h.block p hb.lt hp)
theorem rowForm {B : Nat} {w : World} {e : TypeId} {size n : Nat} {v : Value} {ys : List Value} (h : w.ownsRow B e size v n ys) : ∃ a c, v = .slice a n c := by
  rcases h.2 with ⟨h1, h2⟩ | ⟨g, cp, cur, h1, _⟩
  · exact ⟨none, 0, by rw [h1, ← h2]⟩
  · exact ⟨_, cp, h1⟩
def fnAtI (fs : List Fx) (s : ByteArray) : Int := match fnIx fs s with
  | some i => i
  | none => -1
theorem fnIx_some {fs : List Fx} {s : ByteArray} {k : Nat} {f : Fx} (hk : fs[k]? = some f) (hf : f.name = s) (hb : ∀ j g, j < k → fs[j]? = some g → g.name ≠ s) : fnIx fs s = some k := by
  unfold fnIx
  rw [List.findIdx?_eq_some_iff_getElem]
  have hl := idx_lt hk
  rw [List.getElem?_eq_getElem hl] at hk
  injection hk with hk
  refine ⟨hl, by rw [hk, hf]; simp, fun j hj => ?_⟩
  have := hb j fs[j] hj (List.getElem?_eq_getElem (by omega))
  simpa using this
theorem fnIx_none {fs : List Fx} {s : ByteArray} (hb : ∀ (j : Nat) g, fs[j]? = some g → g.name ≠ s) : fnIx fs s = none := by
  unfold fnIx
  rw [List.findIdx?_eq_none_iff]
  intro x hx
  obtain ⟨j, hj⟩ := List.getElem?_of_mem hx
  simpa using hb j x hj
theorem fnIx_lt {fs : List Fx} {s : ByteArray} {k : Nat} (h : fnIx fs s = some k) : ∃ f, fs[k]? = some f ∧ f.name = s := by
  unfold fnIx at h
  rw [List.findIdx?_eq_some_iff_getElem] at h
  obtain ⟨hl, h, _⟩ := h
  exact ⟨fs[k], List.getElem?_eq_getElem hl, by simpa using h⟩
set_option maxHeartbeats 1000000 in
theorem specFnAt_any (fs : List Fx) (w : World) (fv : Value) (s : ByteArray) (h : FxsAt w fv fs) : Calls Tryz.prog 149 #[.agg #[fv], .string s] w (IntB (fnAtI fs s) w) := by
  obtain ⟨a, cap, hform, hmb⟩ := h.form
  subst hform
  obtain ⟨m, hm⟩ : ∃ m, m = fs.length := ⟨_, rfl⟩
  rw [← hm] at h hmb ⊢
  obtain ⟨R, hR⟩ : ∃ R, R = fnAtI fs s := ⟨_, rfl⟩
  rw [← hR]
  have HR := Lib.hid hR; have HM := Lib.hid hm; have HS := Lib.hid h
  unfold big at hmb
  clear hR hm h
  go_enter Tryz.func149, Tryz.ntmps149
  go_wp2_with (fail)
  go_loop [5] (fun i => ∃ k : Nat, k ≤ m ∧ i = .int .i64 k ∧ Hid (∀ j g, j < k → fs[j]? = some g → g.name ≠ s)) (fun i => m - (intOf i).toNat)
  case atStart => exact ⟨0, Nat.zero_le _, rfl, Lib.hid (fun j g h => by omega)⟩
  case round =>
    obtain ⟨k, hk, rfl, hA⟩ := hrel
    by_cases hlt : k < m
    · have hkl : k < fs.length := by rw [← HM.out]; exact hlt
      obtain ⟨x, hx⟩ : ∃ x, x = fs[k] := ⟨_, rfl⟩
      have hxk : fs[k]? = some x := by rw [hx]; exact List.getElem?_eq_getElem hkl
      obtain ⟨_, b, off, pv, bv, rfl, hbl, e0, _⟩ := HS.out.get hxk
      have e0 := cellB (below1 w (.cells #[.slice (some ⟨b, off, none⟩) m cap] 31)) e0
      have k0 : (0 : Int) ≤ k := by omega
      have k1 : (k : Int) < m := by omega
      have HX := Lib.hid hxk
      clear hx hxk
      by_cases hxs : x.name = s
      · have hr : R = (k : Int) := by rw [HR.out]; unfold fnAtI; rw [fnIx_some HX.out hxs hA.out]
        subst hr
        rw [hxs] at e0
        clear hxs
        go_wp2_with (fail)
        go_ret
        exact ⟨rfl, below1 _ _⟩
      · have hd := strNe hxs
        have HXS := Lib.hid hxs
        clear hxs
        go_wp2_with (fail)
        go_round
        case rel => exact ⟨k + 1, by omega, by go_num, Lib.hid (fun j g hj hg => by
          rcases Nat.lt_or_ge j k with h | h
          · exact hA.out j g h hg
          · obtain rfl : j = k := by omega
            have := HX.out; rw [hg] at this; injection this with this; rw [this]; exact HXS.out)⟩
        case measure => simp [intOf]; omega
    · obtain rfl : m = k := by omega
      have hr : R = -1 := by rw [HR.out]; unfold fnAtI; rw [fnIx_none (fun j g hg => hA.out j g (by rw [HM.out]; exact idx_lt hg) hg)]
      subst hr
      clear hA
      go_wp2_with (fail)
      go_ret
      exact ⟨rfl, below1 _ _⟩
theorem chkE_eq (fs : List Fx) (k : Nat) (names : List ByteArray) (d : Nat) (op n : Int) (name : ByteArray) (kids : List Ex) :
    chkE fs k names (d + 1) (.mk op n name kids) = ((if op = 2 then memB names name else true) && (if op = 13 then (match fnIx fs name with | some j => decide (j < k) && decide ((fs[j]?.map fun f => f.params.length) = some kids.length) | none => false) else true) && kids.all (chkE fs k names d)) := by
  cases h : fnIx fs name <;> simp [chkE, h]
def ExprP (g : Nat) (fv : Value) (k : Int) (vv : Value) (cnt code : Int) (ok : Prop) (w : World) (e : Ending) (w' : World) : Prop :=
  ∃ (op n : Int) (nm : ByteArray) (a : Option Addr) (l c : Nat), e = .returned (.agg #[.int .i64 op, .int .i64 n, .string nm, .slice a l c]) ∧ (∃ code', (code' = 0 ↔ code = 0 ∧ ok) ∧ Wk w' g fv k vv cnt code') ∧ Only [g] w w'
/-- on the way through l4Walk.expr: the boxed expression, its result's place -/
structure MidE (g : Nat) (fv : Value) (k : Int) (vv : Value) (cnt code : Int) (op n : Int) (kv : Value) (w : World) (ok : Prop) (nm : ByteArray) (wx : World) : Prop where
  code : ∃ code', (code' = 0 ↔ code = 0 ∧ ok) ∧ Wk wx g fv k vv cnt code'
  box : Blk wx w.heap.size [.int .i64 op, .int .i64 n, .string nm, kv]
  res : Blk wx (w.heap.size + 1) [.int .i64 0, .int .i64 0, .string .empty, .slice none 0 0]
  only : Only [g] w wx
theorem MidE.step {g : Nat} {fv : Value} {k : Int} {vv : Value} {cnt code : Int} {op n : Int} {kv : Value} {w : World} {ok ok' : Prop} {nm : ByteArray} {wx wy : World} (h : MidE g fv k vv cnt code op n kv w ok nm wx) (hg : g < w.heap.size)
    (ho : Only [g] wx wy) (hc : ∃ code', (code' = 0 ↔ code = 0 ∧ ok') ∧ Wk wy g fv k vv cnt code') : MidE g fv k vv cnt code op n kv w ok' nm wy :=
  ⟨hc, h.box.same (ho.block _ h.box.lt (by simp; omega)), h.res.same (ho.block _ h.res.lt (by simp; omega)), h.only.trans ho⟩
theorem MidE.below {g : Nat} {fv : Value} {k : Int} {vv : Value} {cnt code : Int} {op n : Int} {kv : Value} {w : World} {ok : Prop} {nm : ByteArray} {wx wy : World} (h : MidE g fv k vv cnt code op n kv w ok nm wx)
    (hb : Below wx.heap.size wx wy) : MidE g fv k vv cnt code op n kv w ok nm wy := by
  obtain ⟨c, h1, h2⟩ := h.code
  exact ⟨⟨c, h1, h2.below hb⟩, h.box.below hb, h.res.below hb, h.only.trans (Only.of_below hb _)⟩
theorem MidE.grown {g : Nat} {fv : Value} {k : Int} {vv : Value} {cnt code : Int} {op n : Int} {kv : Value} {w : World} {ok : Prop} {nm : ByteArray} {wx wy : World} {row : Option Nat} (h : MidE g fv k vv cnt code op n kv w ok nm wx)
    (hb : wx.grownBy wy row) (hr : ∀ q, row = some q → w.heap.size + 2 ≤ q) (hgl : g < w.heap.size) : MidE g fv k vv cnt code op n kv w ok nm wy := by
  obtain ⟨c, h1, h2⟩ := h.code
  exact ⟨⟨c, h1, h2.grown hb (fun e => by have := hr _ e; omega)⟩, h.box.grown hb (fun e => by have := hr _ e; omega), h.res.grown hb (fun e => by have := hr _ e; omega), h.only.grown hb (fun q hq => by have := hr q hq; omega)⟩
set_option maxHeartbeats 8000000 in
theorem l4expr_any {w0 : World} {fs : List Fx} {fv : Value} (hfs : FxsAt w0 fv fs) {names : List ByteArray} {k g : Nat} {vv : Value} {vs : Vr} (hnm : ∀ x, memB names x = true ↔ Known vs x) (hg0 : w0.heap.size ≤ g) :
    ∀ (d : Nat) (e : Ex) (kv : Value) (w : World) (cnt code : Int), exOk isNB d e = true → e.name.size ≤ big → ExsAt w0 kv e.kids → Below w0.heap.size w0 w → Wk w g fv k vv cnt code → VsAt w (g + 1) vv vs → NumsOk vs cnt →
    Calls Tryz.prog 189 #[.pointer (some ⟨g, 0, none⟩), .agg #[.int .i64 e.op, .int .i64 e.n, .string e.name, kv]] w (ExprP g fv k vv cnt code (chkE fs k names d e = true) w) := by
  intro d
  induction d with
  | zero => intro e kv w cnt code h; simp [exOk] at h
  | succ d ih =>
    intro e kv w cnt code hok hz hkv hb0 hW hV hN
    obtain ⟨op, n, name, kids⟩ := e
    simp only [Ex.op, Ex.n, Ex.name, Ex.kids] at hz hkv ⊢
    rw [exOk_eq] at hok
    simp only [Bool.and_eq_true, List.all_eq_true] at hok
    obtain ⟨⟨⟨⟨⟨hop, hkn⟩, hnme⟩, _⟩, _⟩, hkok⟩ := hok
    have hm3 : kids.length ≤ 3 := by
      rw [inR_iff] at hkn
      have : (kidsN op).2 ≤ 3 := by rcases kidsN_cases op with ⟨_, h⟩ | ⟨_, h⟩ | ⟨_, h⟩ | ⟨_, h⟩ | ⟨_, h⟩ | ⟨_, _, _, _, _, h⟩ <;> rw [h] <;> decide
      omega
    obtain ⟨a, cap, hform⟩ := hkv.form
    subst hform
    obtain ⟨m, hm⟩ : ∃ m, m = kids.length := ⟨_, rfl⟩
    rw [← hm] at hkv hm3 ⊢
    -- what is asked
    obtain ⟨ok1, hok1⟩ : ∃ ok1 : Prop, ok1 = (op = 2 → Known vs name) := ⟨_, rfl⟩
    obtain ⟨ok2, hok2⟩ : ∃ ok2 : Prop, ok2 = (op = 13 → ∃ j f, fnIx fs name = some j ∧ j < k ∧ fs[j]? = some f ∧ f.params.length = m) := ⟨_, rfl⟩
    obtain ⟨OK, hOK⟩ : ∃ OK : Prop, OK = (chkE fs k names (d + 1) (.mk op n name kids) = true) := ⟨_, rfl⟩
    rw [← hOK]
    have HOK : Hid (OK ↔ (ok1 ∧ ok2) ∧ kids.all (chkE fs k names d) = true) := Lib.hid (by
      rw [hOK, chkE_eq, Bool.and_eq_true, Bool.and_eq_true, hok1, hok2]
      refine and_congr (and_congr ?_ ?_) Iff.rfl
      · by_cases o : op = 2
        · rw [if_pos o, hnm]; exact ⟨fun h _ => h, fun h => h o⟩
        · rw [if_neg o]; exact ⟨fun _ h => absurd h o, fun _ => rfl⟩
      · by_cases o : op = 13
        · rw [if_pos o]
          cases hf : fnIx fs name with
          | none => exact ⟨fun h => (by cases h), fun h => by obtain ⟨j, f, h, _⟩ := h o; cases h⟩
          | some j =>
            obtain ⟨f, hj, _⟩ := fnIx_lt hf
            rw [Bool.and_eq_true, decide_eq_true_eq, decide_eq_true_eq, hj, ← hm]
            constructor
            · rintro ⟨h1, h2⟩ _; exact ⟨j, f, rfl, h1, hj, by simpa using h2⟩
            · intro h
              obtain ⟨j', f', h1, h2, h3, h4⟩ := h o
              injection h1 with h1
              subst h1
              rw [hj] at h3
              injection h3 with h3
              subst h3
              exact ⟨h2, by simp [h4]⟩
        · rw [if_neg o]; exact ⟨fun _ h => absurd h o, fun _ => rfl⟩)
    have H1 := Lib.hid hok1; have H2 := Lib.hid hok2; have HM := Lib.hid hm; have HKV := Lib.hid hkv; have HB0 := Lib.hid hb0; have HW := Lib.hid hW; have HV := Lib.hid hV; have HN := Lib.hid hN; have IH := Lib.hid ih; have HKO := Lib.hid hkok; have HFS := Lib.hid hfs; have HNM := Lib.hid hnm
    have hgl := hW.lt
    obtain ⟨i0, hi, hz0, hz1, hz2⟩ := info_parts info_ex
    clear hok1 hok2 hOK hm hkv hb0 hW hV hN ih hkok hfs hnm hop hkn hnme
    go_enter Tryz.func189, Tryz.ntmps189
    go_upto_region 1 with (fail)
    generalize hw1 : World.alloc _ _ = w1
    have HE1 : Hid (MidE g fv k vv cnt code op n (.slice a m cap) w True name w1) := Lib.hid (by
      rw [← hw1]
      exact ⟨⟨code, by simp, (HW.out.alloc _).alloc _⟩, (Blk.new w _ _).alloc _, Blk.fresh (by simp) rfl, ((Only.refl _ _).alloc _).alloc _⟩)
    clear hw1
    obtain ⟨b0, b1, b2, b3⟩ := blkc4 HE1.out.box
    have g2 := HE1.out.box.frozen 2
    have HVg : Hid (∀ wx, Only [g] w wx → VsAt wx (g + 1) vv vs) := Lib.hid (fun wx ho => ownsRow_only HV.out ho (fun b hb => by have := List.mem_singleton.1 hb; omega))
    go_upto_if 10 with (fail)
    go_cut [] from 11 to 14 (fun wx => ∃ nm, Hid (op ≠ 2 → nm = name) ∧ Hid (MidE g fv k vv cnt code op n (.slice a m cap) w ok1 nm wx))
    case first =>
      by_cases o2 : op = 2
      · subst o2
        obtain ⟨code1, hc1, hW1⟩ := HE1.out.code
        have HU := Lib.hid (l4use_any w1 g fv k vv cnt code1 _ vs name hW1 (HVg.out _ HE1.out.only) HN.out)
        have HC1 := Lib.hid hc1
        clear hc1 hW1
        go_wp2_with (fail)
        go_at_call 190
        refine HU.out.mono ?_
        rintro e w2 ⟨nm, rfl, ⟨code2, hc2, hW2⟩, hO⟩
        have HE2 : Hid (MidE g fv k vv cnt code 2 n (.slice a m cap) w ok1 name w2) := Lib.hid (HE1.out.step hgl hO ⟨code2, by rw [hc2, HC1.out, H1.out]; simp, hW2⟩)
        obtain ⟨b0, b1, b2, b3⟩ := blkc4 HE2.out.box
        have g2 := HE2.out.box.frozen 2
        clear hc2 hW2 hO
        go_wp2_with (fail)
        go_meet
        case rel =>
          refine ⟨nm, Lib.hid (fun h => absurd rfl h), Lib.hid ?_⟩
          obtain ⟨c, h1, h2⟩ := HE2.out.code
          refine ⟨⟨c, h1, h2.other (by simp; omega) _⟩, HE2.out.box.set 2 _, HE2.out.res.other (by simp) _, HE2.out.only.setCellNew (Nat.le_refl _) _⟩
      · have o2' := neI o2
        have HX := Lib.hid o2
        clear o2
        go_wp2_with (fail)
        go_meet
        case rel =>
          refine ⟨name, Lib.hid (fun _ => rfl), Lib.hid ?_⟩
          obtain ⟨c, h1, h2⟩ := HE1.out.code
          refine ⟨⟨c, by rw [h1, H1.out]; exact ⟨fun h => ⟨h.1, fun h => absurd h HX.out⟩, fun h => ⟨h.1, trivial⟩⟩, h2⟩, HE1.out.box, HE1.out.res, HE1.out.only⟩
    case rest =>
    obtain ⟨nm, hnm, HE2⟩ := hcut
    clear b0 b1 b2 b3 g2 HE1
    obtain ⟨b0, b1, b2, b3⟩ := blkc4 HE2.out.box
    go_upto_if 18 with (fail)
    go_cut [5] from 19 to 53 (fun _ wx => Hid (MidE g fv k vv cnt code op n (.slice a m cap) w (ok1 ∧ ok2) nm wx))
    case first =>
      by_cases o13 : op = 13
      · subst o13
        obtain rfl : nm = name := hnm.out (by decide)
        have HFA := Lib.hid (fun w' hb => specFnAt_any fs w' fv nm (HFS.out.below hb))
        obtain ⟨code1, hc1, hW1⟩ := HE2.out.code
        obtain ⟨x0, x1, x2, x3, x4⟩ := blkc5 hW1
        have hbc : Below w0.heap.size w0 wc := Only.below HB0.out HE2.out.only HB0.out.size (fun b hb => by have := List.mem_singleton.1 hb; omega)
        have HBC := Lib.hid hbc
        clear hc1 hW1 hbc x1 x2 x3 x4
        go_wp2_with (fail)
        go_still_tail 6, (by kernel_rfl)
        change wpList _ _ _ _ _ wc.drew
        generalize hwd : wc.drew = wd
        have HEd : Hid (MidE g fv k vv cnt code 13 n (.slice a m cap) w ok1 nm wd) := Lib.hid (by rw [← hwd]; exact HE2.out.below ((Below.refl _ _).drew))
        have HBd : Hid (Below w0.heap.size w0 wd) := Lib.hid (by rw [← hwd]; exact HBC.out.drew)
        clear hwd x0 b0 b1 b2 b3
        go_wp2_with (fail)
        go_at_call 149
        refine (HFA.out _ HBd.out).mono ?_
        rintro e w3 ⟨rfl, hb⟩
        have HE3 := Lib.hid (HEd.out.below hb)
        have HB3 := Lib.hid (HBd.out.trans (hb.mono HBd.out.size))
        clear hb HEd HE2
        obtain ⟨code3, hc3, hW3⟩ := HE3.out.code
        obtain ⟨x0, x1, x2, x3, x4⟩ := blkc5 hW3
        have HC3 := Lib.hid hc3
        have HFL := Lib.hid (fun c (hc : c ≠ 0) => l4fail_any w3 g fv k vv cnt code3 c hW3 hc)
        obtain ⟨b0, b1, b2, b3⟩ := blkc4 HE3.out.box
        clear hc3 x2 x3 x4
        cases hf : fnIx fs nm with
        | none =>
          have hr : fnAtI fs nm = -1 := by unfold fnAtI; rw [hf]
          have HNOK : Hid (¬ ok2) := Lib.hid (by rw [H2.out]; intro h; obtain ⟨j, f, h1, _⟩ := h (by first | rfl | trivial); rw [hf] at h1; cases h1)
          rw [hr]
          clear hf hr hW3 x0 x1
          go_wp2_with (fail)
          go_at_call 150
          refine (HFL.out 4 (by decide)).mono ?_
          rintro e w4 ⟨rfl, ⟨code4, hc4, hW4⟩, hO⟩
          have HE4 : Hid (MidE g fv k vv cnt code 13 n (.slice a m cap) w (ok1 ∧ ok2) nm w4) := Lib.hid (HE3.out.step hgl hO ⟨code4, ⟨fun h => absurd h hc4, fun h => absurd h.2.2 HNOK.out⟩, hW4⟩)
          clear hc4 hW4 hO
          go_wp2_with (fail)
          go_meet
          case rel => exact HE4
        | some j =>
          have hr : fnAtI fs nm = (j : Int) := by unfold fnAtI; rw [hf]
          rw [hr]
          obtain ⟨f, hj, _⟩ := fnIx_lt hf
          by_cases hjk : j < k
          · obtain ⟨fa, fcap, hfv, hfm⟩ := HFS.out.form
            obtain ⟨fl, hfl⟩ : ∃ fl, fl = fs.length := ⟨_, rfl⟩
            rw [← hfl] at hfv hfm
            have hjl := idx_lt hj
            have HFS2 := HFS.out
            rw [hfv] at HFS2
            obtain ⟨_, fb, fo, pv, bv, rfl, hbl, e0, e1, e2, hpv, _⟩ := HFS2.get hj
            obtain ⟨pa, pc, hpf, hpm⟩ := hpv.form
            rw [hpf] at e1
            have e1 := cellB HB3.out e1
            rw [hfv] at x0
            obtain ⟨pl, hpl⟩ : ∃ pl, pl = f.params.length := ⟨_, rfl⟩
            rw [← hpl] at e1 hpm
            have j0 : (0 : Int) ≤ j := by omega
            have j1 : (j : Int) < fl := by omega
            have HOK2 : Hid (ok2 ↔ pl = m) := Lib.hid (by
              rw [H2.out]
              constructor
              · intro h
                obtain ⟨j', f', h1, _, h3, h4⟩ := h (by first | rfl | trivial)
                rw [hf] at h1; injection h1 with h1; subst h1
                rw [hj] at h3; injection h3 with h3; subst h3
                omega
              · intro h _; exact ⟨j, f, hf, hjk, hj, by omega⟩)
            unfold big at hfm hpm
            clear hf hr hj hfl hjl hfv e0 e2 hpv hpf hpl HFS2
            have HW3 := Lib.hid hW3
            clear hW3
            by_cases hplm : pl = m
            · have HX := Lib.hid hplm
              have hq := eqI (show (pl : Int) = m by omega)
              have hq2 : ((pl : Int) != m) = false := by rw [bne, hq]; rfl
              clear hplm hq
              go_wp2_with (fail)
              go_quiet (fail)
              clear hq2
              generalize hW' : World.drewN _ _ = w5
              have HE5 : Hid (MidE g fv k vv cnt code 13 n (.slice a m cap) w (ok1 ∧ ok2) nm w5) := Lib.hid (by
                rw [← hW']
                exact (HE3.out.step hgl (Only.of_below (belowDr (Below.refl _ _) _) _) ⟨code3, by rw [HC3.out]; exact ⟨fun h => ⟨h.1, h.2, HOK2.out.2 HX.out⟩, fun h => ⟨h.1, h.2.1⟩⟩, HW3.out.drewN _⟩))
              clear hW'
              go_wp2_with (fail)
              go_meet
              case rel => exact HE5
            · have HNOK : Hid (¬ ok2) := Lib.hid (fun h => hplm (HOK2.out.1 h))
              have hq := neI (show ¬ (pl : Int) = m by omega)
              have hq2 : ((pl : Int) != m) = true := by rw [bne, hq]; rfl
              clear hplm hq
              go_wp2_with (fail)
              go_quiet (fail)
              clear hq2 x0 x1 b0 b1 b2 b3 e1
              generalize hW' : World.drewN _ _ = w5
              have hb5 : Below w3.heap.size w3 w5 := by rw [← hW']; exact belowDr (Below.refl _ _) _
              have HE3' := HE3.out.below hb5
              have HFL := Lib.hid (l4fail_any w5 g fv k vv cnt code3 5 (HW3.out.below hb5) (by decide))
              clear hW' hb5 HE3
              have HE3 := Lib.hid HE3'
              clear HE3'
              go_wp2_with (fail)
              go_at_call 150
              refine HFL.out.mono ?_
              rintro e w4 ⟨rfl, ⟨code4, hc4, hW4⟩, hO⟩
              have HE4 : Hid (MidE g fv k vv cnt code 13 n (.slice a m cap) w (ok1 ∧ ok2) nm w4) := Lib.hid (HE3.out.step hgl hO ⟨code4, ⟨fun h => absurd h hc4, fun h => absurd h.2.2 HNOK.out⟩, hW4⟩)
              clear hc4 hW4 hO
              go_wp2_with (fail)
              go_meet
              case rel => exact HE4
          · have HNOK : Hid (¬ ok2) := Lib.hid (by rw [H2.out]; intro h; obtain ⟨j', f', h1, h2, _⟩ := h (by first | rfl | trivial); rw [hf] at h1; injection h1 with h1; omega)
            have j0 : (0 : Int) ≤ j := by omega
            have j1 : (k : Int) ≤ j := by omega
            clear hf hr hj hW3 hjk x0
            go_wp2_with (fail)
            go_at_call 150
            refine (HFL.out 4 (by decide)).mono ?_
            rintro e w4 ⟨rfl, ⟨code4, hc4, hW4⟩, hO⟩
            have HE4 : Hid (MidE g fv k vv cnt code 13 n (.slice a m cap) w (ok1 ∧ ok2) nm w4) := Lib.hid (HE3.out.step hgl hO ⟨code4, ⟨fun h => absurd h hc4, fun h => absurd h.2.2 HNOK.out⟩, hW4⟩)
            clear hc4 hW4 hO
            go_wp2_with (fail)
            go_meet
            case rel => exact HE4
      · have o13' := neI o13
        have HX := Lib.hid o13
        clear o13
        go_wp2_with (fail)
        go_meet
        case rel =>
          refine Lib.hid ?_
          obtain ⟨c, h1, h2⟩ := HE2.out.code
          refine ⟨⟨c, by rw [h1, H2.out]; exact ⟨fun h => ⟨h.1, h.2, fun h => absurd h HX.out⟩, fun h => ⟨h.1, h.2.1⟩⟩, h2⟩, HE2.out.box, HE2.out.res, HE2.out.only⟩
    case rest =>
    have HE := hcut
    clear hcut b0 b1 b2 b3 HE2 hnm
    have hlt2 : w.heap.size + 2 ≤ wc.heap.size := HE.out.res.lt
    obtain ⟨b0, b1, b2, b3⟩ := blkc4 HE.out.box
    go_wp2_with (fail)
    clear b0 b1 b2 b3
    go_loopw [6, 7] (fun v i wr => ∃ (j : Nat) (xs : List Value), j ≤ m ∧ i = .int .i64 j ∧ Hid (wr.ownsRow (w.heap.size + 2) 67 4 v j xs) ∧ Hid (MidE g fv k vv cnt code op n (.slice a m cap) w ((ok1 ∧ ok2) ∧ (kids.take j).all (chkE fs k names d) = true) nm wr)) (fun _ i _ => m - (intOf i).toNat)
    case atStart => exact ⟨0, [], Nat.zero_le _, rfl, Lib.hid (ownsRow_mono (ownsRow_empty wc _ _) hlt2), Lib.hid ((HE.out.step hgl (Only.of_below (below1 _ _) _) (by obtain ⟨c, h1, h2⟩ := HE.out.code; exact ⟨c, by rw [h1]; simp, h2.alloc _⟩)))⟩
    case round =>
    obtain ⟨j, xs, hj, rfl, hR, hE⟩ := hrel
    obtain ⟨wo, rfl⟩ : ∃ wo : World, wo = wr := ⟨_, rfl⟩
    clear HE
    obtain ⟨b0, b1, b2, b3⟩ := blkc4 hE.out.box
    by_cases hlt : j < m
    · have hkl : j < kids.length := by rw [← HM.out]; exact hlt
      obtain ⟨x, hx⟩ : ∃ x, x = kids[j] := ⟨_, rfl⟩
      have hxk : kids[j]? = some x := by rw [hx]; exact List.getElem?_eq_getElem hkl
      obtain ⟨b, off, kvx, rfl, hbl, e0, e1, e2, e3, hkx⟩ := HKV.out.get hxk
      have hb1 : Below w0.heap.size w0 wo := Only.below HB0.out hE.out.only HB0.out.size (fun b hb => by have := List.mem_singleton.1 hb; omega)
      have e0 := cellB hb1 e0; have e1 := cellB hb1 e1; have e2 := cellB hb1 e2; have e3 := cellB hb1 e3
      obtain ⟨code1, hc1, hW1⟩ := hE.out.code
      have HC := Lib.hid (IH.out x kvx wo cnt code1 (HKO.out x (List.mem_of_getElem? hxk)) (HKV.out.lens.2 j x hxk) hkx hb1 hW1 (HVg.out _ hE.out.only) HN.out)
      have HC1 := Lib.hid hc1
      have HT := Lib.hid (all_take (chkE fs k names d) kids j x hxk)
      have k0 : (0 : Int) ≤ j := by omega
      have k1 : (j : Int) < m := by omega
      clear hx hxk hb1 hkx hc1 hW1
      go_wp2_with (fail)
      go_at_call 189
      refine HC.out.mono ?_
      rintro e w2 ⟨op', n', nm', a', l', c', rfl, ⟨code2, hc2, hW2⟩, hO⟩
      have HE2 : Hid (MidE g fv k vv cnt code op n (.slice (some ⟨b, off, none⟩) m cap) w ((ok1 ∧ ok2) ∧ (kids.take (j + 1)).all (chkE fs k names d) = true) nm w2) := Lib.hid (hE.out.step hgl hO ⟨code2, by rw [hc2, HC1.out, HT.out, Bool.and_eq_true]; simp [and_assoc], hW2⟩)
      have HR2 := Lib.hid (ownsRow_only hR.out hO (fun b hb => by have := List.mem_singleton.1 hb; omega))
      have hlt3 : w.heap.size + 2 ≤ w2.heap.size := HE2.out.res.lt
      clear hc2 hW2 hO HC hE hR b0 b1 b2 b3 e0 e1 e2 e3
      go_wp2_with (first | (at_builtin; refine wpList_append_lies _ rfl (.tmp 62) (.tmp 70) 65 (by rfl) (w.heap.size + 2) 67 i0 _ 4 56 Tryz.underlying65 hi hz0 hz1 hz2 rfl (by decide) _ j xs (by rfl) (HR2.out.alloc _) ⟨w2.heap.size, 0, none⟩ 1 1 [.int .i64 op', .int .i64 n', .string nm', .slice a' l' c'] (by rfl) rfl (World.news_of_block (heap_alloc_new _ _)) (by simp [Value.oneCell']) (by decide) (by unfold maxLen; omega) (by omega) (by simp; omega) _ rfl ?_; intro g9 c9 w9 ho9 hg9 hat9 _; have HE9 := Lib.hid ((HE2.out.below (below1 w2 _)).grown hg9 (fun q hq => ownBlock_of HR2.out q hq) hgl); have HO9 := Lib.hid ho9; clear ho9 hg9 hat9))
      go_roundw
      case rel => exact ⟨j + 1, _, by omega, by go_num, HO9, HE9⟩
      case measure => simp [intOf]; omega
    · obtain rfl : m = j := by omega
      obtain ⟨a', c', hrf⟩ := rowForm hR.out
      have HEX : Hid (MidE g fv k vv cnt code op n (.slice a m cap) w OK nm wo) := Lib.hid (by
        obtain ⟨c, h1, h2⟩ := hE.out.code
        refine ⟨⟨c, ?_, h2⟩, hE.out.box, hE.out.res, hE.out.only⟩
        rw [h1, HOK.out, show kids.take m = kids by rw [HM.out, List.take_length]])
      have f3 := hE.out.box.frozen 3
      have HRF := Lib.hid hrf
      subst hrf
      clear hE hR
      go_upto_region 15 with (fail)
      generalize hw5 : wo.setCell _ _ = w5
      have hbox : Blk w5 w.heap.size [.int .i64 op, .int .i64 n, .string nm, .slice a' m c'] := by rw [← hw5]; exact HEX.out.box.set 3 _
      have hres : Blk w5 (w.heap.size + 1) [.int .i64 0, .int .i64 0, .string .empty, .slice none 0 0] := by rw [← hw5]; exact HEX.out.res.other (by simp) _
      have HO5 : Hid (Only [g] w w5) := Lib.hid (by rw [← hw5]; exact HEX.out.only.setCellNew (Nat.le_refl _) _)
      have HW5 : Hid (∃ code', (code' = 0 ↔ code = 0 ∧ OK) ∧ Wk w5 g fv k vv cnt code') := Lib.hid (by
        obtain ⟨c, h1, h2⟩ := HEX.out.code
        exact ⟨c, h1, by rw [← hw5]; exact h2.other (by simp; omega) _⟩)
      clear hw5 f3 b0 b1 b2 b3
      obtain ⟨b0, b1, b2, b3⟩ := blkc4 hbox
      obtain ⟨r0, r1, r2, r3⟩ := blkc4 hres
      have f0 := hres.frozen 0; have f1 := hres.frozen 1; have f2 := hres.frozen 2; have f3 := hres.frozen 3
      have HRS := Lib.hid hres
      clear hbox hres
      go_wp2_with (fail)
      clear r0 r1 r2 r3
      generalize hw6 : World.setCell _ _ _ = w6
      have hres : Blk w6 (w.heap.size + 1) [.int .i64 op, .int .i64 n, .string nm, .slice a' m c'] := by rw [← hw6]; exact (((HRS.out.set 0 _).set 1 _).set 2 _).set 3 _
      obtain ⟨r0, r1, r2, r3⟩ := blkc4 hres
      have HO6 : Hid (Only [g] w w6) := Lib.hid (by rw [← hw6]; exact (((HO5.out.setCellNew (by simp) _).setCellNew (by simp) _).setCellNew (by simp) _).setCellNew (by simp) _)
      have HW6 : Hid (∃ code', (code' = 0 ↔ code = 0 ∧ OK) ∧ Wk w6 g fv k vv cnt code') := Lib.hid (by
        obtain ⟨c, h1, h2⟩ := HW5.out
        exact ⟨c, h1, by rw [← hw6]; exact (((h2.other (by simp; omega) _).other (by simp; omega) _).other (by simp; omega) _).other (by simp; omega) _⟩)
      clear hw6 hres f0 f1 f2 f3
      refine bodyPost_ret (v := .agg #[.int .i64 op, .int .i64 n, .string nm, .slice a' m c']) (by simp [results, Tryz.results189, go_sem, r0, r1, r2, r3]) rfl ?_
      exact ⟨op, n, nm, a', m, c', rfl, HW6.out, HO6.out⟩
end Go.Proofs.YtpnliencahnmoaaGreatDoor
