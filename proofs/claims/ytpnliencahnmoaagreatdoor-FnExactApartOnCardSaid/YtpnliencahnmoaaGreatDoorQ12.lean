/- The program's check of names: blocks. -/
import Derived.Test.YtpnliencahnmoaaGreatDoorQ11
import Derived.Test.YtpnliencahnmoaaGreatDoorQ7
set_option linter.unusedVariables false
set_option linter.unusedSimpArgs false
set_option linter.unusedVariables false
set_option linter.unusedSimpArgs false
set_option maxRecDepth 100000
namespace Go.Proofs.YtpnliencahnmoaaGreatDoor
open Go.RowKit
/-- the newest scope, the chain behind it -/
structure Top (w0 w : World) (fs : List Fx) (fv : Value) (k C B lo p b n : Nat) (up : Value) (inn out : List ByteArray) : Prop where
  b0 : Below w0.heap.size w0 w
  fx : FxsAt w0 fv fs
  c0 : w0.heap.size ≤ C
  cB : C < B
  hB : B ≤ lo
  lp : lo ≤ p
  lb : lo ≤ b
  ne : p ≠ b
  cw : C < w.heap.size
  blk : Blk w p [.map (some b), up]
  mp : ∃ L, Mp w b n L ∧ ∀ s, (L.get s).isSome = memB inn s
  sch : Sch w B lo up out
  kl : k ≤ fs.length
  cap : CapOk fv
theorem Top.cks {w0 w : World} {fs : List Fx} {fv : Value} {k C B lo p b n : Nat} {up : Value} {inn out : List ByteArray} (h : Top w0 w fs fv k C B lo p b n up inn out) (hn : n ≤ 8388608) : Cks w0 w fs fv k C B w.heap.size (.pointer (some ⟨p, 0, none⟩)) (inn ++ out) := by
  obtain ⟨L, hL, hl⟩ := h.mp
  exact ⟨h.b0, h.fx, h.c0, h.cB, .cons h.hB h.lp h.lb h.blk.lt hL.lt h.ne h.blk hL hn hl h.sch, Nat.le_refl _, h.kl, h.cap⟩
theorem Top.only {w0 w w' : World} {fs : List Fx} {fv : Value} {k C B lo p b n : Nat} {up : Value} {inn out : List ByteArray} (h : Top w0 w fs fv k C B lo p b n up inn out) (hO : Only [C] w w') : Top w0 w' fs fv k C B lo p b n up inn out := by
  obtain ⟨L, hL, hl⟩ := h.mp
  have h1 := h.cB; have h2 := h.hB; have h3 := h.lp; have h4 := h.lb
  have h5 := h.blk.lt
  have hnp : p ∉ [C] := by simp; omega
  have hnb : b ∉ [C] := by simp; omega
  exact ⟨Only.below h.b0 hO h.b0.size (by simp; exact h.c0), h.fx, h.c0, h1, h2, h3, h4, h.ne, Nat.lt_of_lt_of_le h.cw hO.size, hO.blk h.blk hnp, ⟨L, hL.same (hO.block b hL.lt hnb), hl⟩, h.sch.keep (fun j g1 g2 => hO.block j (by omega) (by simp; omega)), h.kl, h.cap⟩
theorem Top.below {w0 w w' : World} {fs : List Fx} {fv : Value} {k C B lo p b n : Nat} {up : Value} {inn out : List ByteArray} (h : Top w0 w fs fv k C B lo p b n up inn out) (hb : Below w.heap.size w w') : Top w0 w' fs fv k C B lo p b n up inn out := h.only (Only.of_below hb _)
theorem Top.put {w0 w w' : World} {fs : List Fx} {fv : Value} {k C B lo p b n : Nat} {up : Value} {inn out : List ByteArray} (h : Top w0 w fs fv k C B lo p b n up inn out) (hg : w.grownBy w' (some b)) {inn' : List ByteArray} {M : Env} {n' : Nat} (hM : Mp w' b n' M) (hm : ∀ s, (M.get s).isSome = memB inn' s) : Top w0 w' fs fv k C B lo p b n' up inn' out := by
  obtain ⟨L, hL, hl⟩ := h.mp
  have h1 := h.cB; have h2 := h.hB; have h3 := h.lp; have h4 := h.lb; have h0 := h.c0
  have h5 := h.blk.lt
  have hO : Only [b] w w' := ⟨hg.os, hg.tape, hg.output, hg.size, fun j hj hn => hg.block j hj (by simp at hn; simpa using hn)⟩
  exact ⟨Only.below h.b0 hO h.b0.size (by simp; omega), h.fx, h0, h1, h2, h3, h4, h.ne, Nat.lt_of_lt_of_le h.cw hg.size, hO.blk h.blk (by simp; exact h.ne), ⟨M, hM, hm⟩, h.sch.keep (fun j g1 g2 => hO.block j (by omega) (by simp; omega)), h.kl, h.cap⟩
theorem Top.more {w0 w : World} {fs : List Fx} {fv : Value} {k C B lo p b n : Nat} {up : Value} {inn out : List ByteArray} (h : Top w0 w fs fv k C B lo p b n up inn out) : Top w0 w fs fv k C B lo p b (n + 1) up inn out := by
  obtain ⟨L, hL, hl⟩ := h.mp
  exact ⟨h.b0, h.fx, h.c0, h.cB, h.hB, h.lp, h.lb, h.ne, h.cw, h.blk, ⟨L, hL.mono (Nat.le_succ _), hl⟩, h.sch, h.kl, h.cap⟩
/-- a scope inside of another one -/
theorem Top.inner {w0 w w1 : World} {fs : List Fx} {fv : Value} {k C B lo p b n : Nat} {up : Value} {inn out : List ByteArray} (h : Top w0 w fs fv k C B lo p b n up inn out) (hn : n ≤ 8388608) {p' b' : Nat} (hp : w.heap.size ≤ p') (hb : w.heap.size ≤ b') (hne : p' ≠ b') (hbl : Blk w1 p' [.map (some b'), .pointer (some ⟨p, 0, none⟩)]) (hm : Mp w1 b' 0 []) (hB : Below w.heap.size w w1) : Top w0 w1 fs fv k C B w.heap.size p' b' 0 (.pointer (some ⟨p, 0, none⟩)) [] (inn ++ out) := by
  have hc := (h.cks hn).below hB
  have h1 := h.hB; have h2 := h.lp; have h3 := h.blk.lt
  exact ⟨hc.b0, h.fx, h.c0, h.cB, by omega, hp, hb, hne, Nat.lt_of_lt_of_le h.cw hB.size, hbl, ⟨[], hm, fun _ => rfl⟩, hc.sch, h.kl, h.cap⟩
theorem Mp.run_ok {w : World} {b n : Nat} {L : Env} (h : Mp w b n L) {s : ByteArray} (hs : s.size ≤ maxLen) : (Instr.lookup 137 (.map (some b)) (.string s) true).run Tryz.prog w = .ok (.tuple #[.int .i64 (((L.get s).getD 0 : Nat) : Int), .bool (L.get s).isSome]) w := by
  obtain ⟨D, h1, h2⟩ := h
  obtain ⟨q1, q2⟩ := h2 s
  obtain ⟨v, ps, hrun, hv⟩ := h1.look_ok mlaw Tryz.underlying137 (mzero _) (plainElem_int Tryz.underlying3 (by decide)) (kl_key hs)
  obtain ⟨c, rfl, hc, _⟩ := plainElem_int_inv Tryz.underlying3 hv
  rw [hrun]
  have hc := congrArg Prod.fst hc
  simp only [] at hc
  rw [q2] at hc
  injection hc with hc
  injection hc with _ hc
  rw [q1, ← hc]
theorem memB_cons (x : ByteArray) (l : List ByteArray) (y : ByteArray) : memB (x :: l) y = (decide (x = y) || memB l y) := rfl
theorem Only.drop {C z : Nat} {w w1 w2 : World} (h1 : Below w.heap.size w w1) (h2 : Only [C, z] w1 w2) (hz : w.heap.size ≤ z) : Only [C] w w2 :=
  ⟨h2.os.trans h1.os, h2.tape.trans h1.tape, h2.output.trans h1.output, Nat.le_trans h1.size h2.size, fun i hi hn => by
    rw [h2.block i (Nat.lt_of_lt_of_le hi h1.size) (by simp at hn ⊢; omega), h1.block i hi]⟩
def CkB (C b : Nat) (fv : Value) (k code : Int) (ok : Bool) (w : World) (e : Ending) (w' : World) : Prop := e = .returned (.tuple #[]) ∧ Only [C, b] w w' ∧ ∃ code', Ckr w' C fv k code' ∧ (code' = 0 ↔ code = 0 ∧ ok = true)
theorem chkL_app (f : List ByteArray → St → Bool) : ∀ (l : List St) (inn : List ByteArray) (x : St), chkL f inn (l ++ [x]) = (chkL f inn l && f (l.foldl innOf inn) x) := by
  intro l
  induction l with
  | nil => intro inn x; simp [chkL]
  | cons y r ih => intro inn x; rw [List.cons_append, chkL, chkL, ih, List.foldl_cons, Bool.and_assoc]
theorem chkL_take (f : List ByteArray → St → Bool) {l : List St} {j : Nat} {x : St} (h : l[j]? = some x) (inn : List ByteArray) : chkL f inn (l.take (j + 1)) = (chkL f inn (l.take j) && f ((l.take j).foldl innOf inn) x) := by
  rw [List.take_add_one, h]
  exact chkL_app f _ _ _
theorem inn_take {l : List St} {j : Nat} {x : St} (h : l[j]? = some x) (inn : List ByteArray) : (l.take (j + 1)).foldl innOf inn = innOf ((l.take j).foldl innOf inn) x := by
  rw [List.take_add_one, h, List.foldl_append]
  rfl
theorem chkS_is (fs : List Fx) (k d : Nat) (inn out : List ByteArray) (x : St) : chkS fs k (d + 1) inn out x = (x.args.all (chkE fs k (inn ++ out) 6) && (if x.op = 1 then !memB inn x.name else true) && (if x.op = 2 then memB (inn ++ out) x.name else true) &&
      chkL (fun i y => chkS fs k d i (innOf inn x ++ out) y) [] x.body && chkL (fun i y => chkS fs k d i (innOf inn x ++ out) y) [] x.els) := by
  cases x; rfl
/-- what a valid statement has -/
theorem stOk_has {d : Nat} {x : St} (h : stOk isNB (d + 1) x = true) : (∀ e ∈ x.args, exOk isNB 6 e = true) ∧ x.body.all (stOk isNB d) = true ∧ x.els.all (stOk isNB d) = true ∧ (x.op ≠ 5 → x.els = []) ∧ (x.op ≠ 5 → x.op ≠ 6 → x.body = []) ∧ x.args.length ≤ 2 := by
  obtain ⟨op, name, args, body, els⟩ := x
  unfold stOk at h
  simp only [Bool.and_eq_true, Bool.or_eq_true, decide_eq_true_eq, List.all_eq_true, List.isEmpty_iff] at h
  obtain ⟨⟨⟨⟨⟨⟨⟨⟨h1, h2⟩, h3⟩, h4⟩, h5⟩, h6⟩, h7⟩, h8⟩, h9⟩ := h
  refine ⟨fun e he => ?_, List.all_eq_true.2 h8, List.all_eq_true.2 h9, fun h => ?_, fun h h' => ?_, ?_⟩
  · have := h4 e he
    unfold exVal at this
    exact ((Bool.and_eq_true _ _).mp this).1
  · exact h6.resolve_right h
  · exact (h7.resolve_right h').resolve_right h
  · show args.length ≤ 2
    rw [h2]; split <;> omega
set_option maxHeartbeats 8000000 in
theorem ckBlock_any (w0 : World) (fs : List Fx) (fv : Value) (k C B : Nat) : ∀ (d : Nat), d ≤ 4 → ∀ (ss : List St) (w : World) (v : Value) (code : Int) (lo p b n : Nat) (up : Value) (inn out : List ByteArray), ss.all (stOk isNB d) = true → StsAt w0 v ss → stsW ss ≤ 4194304 → n ≤ 3 → Top w0 w fs fv k C B lo p b n up inn out → Ckr w C fv k code →
    Calls Tryz.prog 101 #[.pointer (some ⟨C, 0, none⟩), v, .pointer (some ⟨p, 0, none⟩)] w (CkB C b fv k code (chkL (fun i y => chkS fs k d i out y) inn ss) w) := by
  intro d
  induction d with
  | zero =>
    intro _ ss w v code lo p b n up inn out hok hS _ _ hT hC
    have : ss = [] := by
      cases ss with
      | nil => rfl
      | cons x r => cases x; simp [stOk] at hok
    subst this
    obtain ⟨a, cap, hf⟩ := hS.form
    subst hf
    have HC := Lib.hid hC
    clear hC hT hS hok
    go_enter Tryz.func101, Tryz.ntmps101
    go_wp2_with (fail)
    go_loopw [16] (fun i wr => i = .int .i64 0 ∧ wr = w) (fun _ _ => 0)
    case atStart => exact ⟨rfl, rfl⟩
    case round =>
      obtain ⟨rfl, rfl⟩ := hrel
      go_wp2_with (fail)
      go_end0
      exact ⟨rfl, Only.refl _ _, code, HC.out, ⟨fun h => ⟨h, rfl⟩, fun h => h.1⟩⟩
  | succ d ih =>
    intro hd ss w v code lo p b n up inn out hok hS hw hn3 hT hC
    obtain ⟨a, cap, hf⟩ := hS.form
    obtain ⟨m, hm⟩ : ∃ m, m = ss.length := ⟨_, rfl⟩
    have hmw : m ≤ 4194304 := by rw [hm]; have := stsW_sum ss; omega
    rw [← hm] at hf
    subst hf
    have HIH : Hid (∀ (ss : List St) (w : World) (v : Value) (code : Int) (lo p b n : Nat) (up : Value) (inn out : List ByteArray), ss.all (stOk isNB d) = true → StsAt w0 v ss → stsW ss ≤ 4194304 → n ≤ 3 → Top w0 w fs fv k C B lo p b n up inn out → Ckr w C fv k code →
      Calls Tryz.prog 101 #[.pointer (some ⟨C, 0, none⟩), v, .pointer (some ⟨p, 0, none⟩)] w (CkB C b fv k code (chkL (fun i y => chkS fs k d i out y) inn ss) w)) := Lib.hid (ih (by omega))
    have HOK := Lib.hid hok; have HS := Lib.hid hS; have HM := Lib.hid hm; have HW := Lib.hid hw; have HT := Lib.hid hT; have HC := Lib.hid hC; have HN := Lib.hid hn3; have HMW := Lib.hid hmw
    have hmb : m ≤ 4611686018427387904 := by omega
    obtain ⟨F, hF⟩ : ∃ F, F = fun i y => chkS fs k (d + 1) i out y := ⟨_, rfl⟩
    rw [← hF]
    have HFE := Lib.hid hF
    clear ih hok hS hm hw hT hC hmw hn3 hF
    go_enter Tryz.func101, Tryz.ntmps101
    go_wp2_with (fail)
    go_loopw [16] (fun i wr => ∃ (j : Nat), j ≤ m ∧ i = .int .i64 (j : Int) ∧ Hid (∃ cr, Top w0 wr fs fv k C B lo p b (n + j) up ((ss.take j).foldl innOf inn) out ∧ Ckr wr C fv k cr ∧ (cr = 0 ↔ code = 0 ∧ chkL F inn (ss.take j) = true) ∧ Only [C, b] w wr)) (fun i _ => m - (intOf i).toNat)
    case atStart => exact ⟨0, Nat.zero_le _, rfl, Lib.hid ⟨code, HT.out, HC.out, ⟨fun h => ⟨h, rfl⟩, fun h => h.1⟩, Only.refl _ _⟩⟩
    case round =>
      obtain ⟨j, hj, rfl, HR⟩ := hrel
      obtain ⟨cr, hR⟩ := HR.out
      have HRR := Lib.hid hR
      clear hR
      by_cases hlt : j < m
      · have hkl : j < ss.length := by rw [← HM.out]; exact hlt
        obtain ⟨x, hx⟩ : ∃ x, x = ss[j] := ⟨_, rfl⟩
        have hxk : ss[j]? = some x := by rw [hx]; exact List.getElem?_eq_getElem hkl
        obtain ⟨b', off, av, bv, ev, rfl, hbl, e0, e1, e2, e3, e4, ka, kb, ke⟩ := HS.out.get hxk
        have hbr := HRR.out.1.b0
        have e0 := cellB hbr e0; have e1 := cellB hbr e1; have e2 := cellB hbr e2; have e3 := cellB hbr e3; have e4 := cellB hbr e4
        obtain ⟨aa, ac, haf⟩ := ka.form
        obtain ⟨ba, bc, hbf⟩ := kb.form
        obtain ⟨ea, ec, hef⟩ := ke.form
        have HHAS := Lib.hid (stOk_has (List.all_eq_true.1 HOK.out x (List.mem_of_getElem? hxk)))
        have hwx : stsW x.body ≤ 4194304 ∧ stsW x.els ≤ 4194304 := by
          have h1 := sum_mem_le stW (List.mem_of_getElem? hxk)
          have h2 := stsW_sum ss
          have h3 := HW.out
          rw [stW_eq] at h1
          omega
        have HWX := Lib.hid hwx
        have hnz := HS.out.lens.2 j x hxk
        have HZ := Lib.hid hnz
        obtain ⟨inj, hinj⟩ : ∃ l, l = (ss.take j).foldl innOf inn := ⟨_, rfl⟩
        have HIN : Hid (innOf inj x = (ss.take (j + 1)).foldl innOf inn) := Lib.hid (by rw [inn_take hxk, hinj])
        have HCL : Hid (chkL F inn (ss.take (j + 1)) = (chkL F inn (ss.take j) && F inj x)) := Lib.hid (by rw [chkL_take F hxk, hinj])
        have HFX : Hid (F inj x = (x.args.all (chkE fs k (inj ++ out) 6) && (if x.op = 1 then !memB inj x.name else true) && (if x.op = 2 then memB (inj ++ out) x.name else true) &&
          chkL (fun i y => chkS fs k d i (innOf inj x ++ out) y) [] x.body && chkL (fun i y => chkS fs k d i (innOf inj x ++ out) y) [] x.els)) := Lib.hid (by rw [HFE.out]; exact chkS_is fs k d inj out x)
        have HRI := HRR
        rw [← hinj] at HRI
        have HAT := Lib.hid ka; have HBT := Lib.hid kb; have HET := Lib.hid ke
        obtain ⟨al, hal⟩ : ∃ l, l = x.args.length := ⟨_, rfl⟩
        obtain ⟨bl, hbll⟩ : ∃ l, l = x.body.length := ⟨_, rfl⟩
        obtain ⟨el, hel⟩ : ∃ l, l = x.els.length := ⟨_, rfl⟩
        rw [← hal] at haf
        rw [← hbll] at hbf
        rw [← hel] at hef
        subst haf hbf hef
        have HAL := Lib.hid hal
        have hal2 : al ≤ 2 := by rw [hal]; exact HHAS.out.2.2.2.2.2
        have HNJ : Hid (n + j ≤ 8388608 ∧ n + j + 1 < maxLen) := Lib.hid (by have := HN.out; have := HMW.out; unfold maxLen; omega)
        have k0 : (0 : Int) ≤ j := by omega
        have k1 : (j : Int) < m := by omega
        obtain ⟨X, hX⟩ : ∃ X, X = wr.heap.size := ⟨_, rfl⟩
        obtain ⟨wa, hwa⟩ : ∃ wa, wa = wr.alloc (.cells #[.int .i64 x.op, .string x.name, .slice aa al ac, .slice ba bl bc, .slice ea el ec] 70) := ⟨_, rfl⟩
        have hba : Below wr.heap.size wr wa := by rw [hwa]; exact below1 _ _
        have HXC : Hid (X ≠ C ∧ X ≠ b) := Lib.hid (by
          have h1 := HRR.out.1.cw; obtain ⟨L, h2, _⟩ := HRR.out.1.mp; have := h2.lt; omega)
        have HWA : Hid (Top w0 wa fs fv k C B lo p b (n + j) up inj out ∧ Ckr wa C fv k cr ∧ Only [C, b] w wa ∧ Blk wa X [.int .i64 x.op, .string x.name, .slice aa al ac, .slice ba bl bc, .slice ea el ec]) := Lib.hid ⟨HRI.out.1.below hba, HRI.out.2.1.below hba, HRI.out.2.2.2.trans (Only.of_below hba _), by rw [hwa, hX]; exact Blk.new _ _ _⟩
        obtain ⟨z0, z1, z2, z3, z4⟩ := blkc5 HWA.out.2.2.2
        clear hkl hx hxk hbl ka kb ke hbr hwx hnz hinj hal hbll hel hba
        go_upto_region 3 with (fail)
        rw [← hwa, ← hX]
        clear hwa hX
        go_wp2_with (fail)
        go_loopw [23] (fun i wi => ∃ (g : Nat), g ≤ al ∧ i = .int .i64 (g : Int) ∧ Hid (∃ c2, Top w0 wi fs fv k C B lo p b (n + j) up inj out ∧ Ckr wi C fv k c2 ∧ (c2 = 0 ↔ cr = 0 ∧ (x.args.take g).all (chkE fs k (inj ++ out) 6) = true) ∧ Only [C, b] w wi ∧ Blk wi X [.int .i64 x.op, .string x.name, .slice aa al ac, .slice ba bl bc, .slice ea el ec])) (fun i _ => al - (intOf i).toNat)
        case atStart => exact ⟨0, Nat.zero_le _, rfl, Lib.hid ⟨cr, HWA.out.1, HWA.out.2.1, ⟨fun h => ⟨h, rfl⟩, fun h => h.1⟩, HWA.out.2.2.1, HWA.out.2.2.2⟩⟩
        case round =>
          obtain ⟨g, hg, rfl, HG⟩ := hrel
          obtain ⟨c2, hG⟩ := HG.out
          have HGG := Lib.hid hG
          clear hG
          obtain ⟨wi, rfl⟩ : ∃ wi : World, wi = wr := ⟨_, rfl⟩
          by_cases hgt : g < al
          · have hkl : g < x.args.length := by rw [← HAL.out]; exact hgt
            obtain ⟨y, hy⟩ : ∃ y, y = x.args[g] := ⟨_, rfl⟩
            have hyk : x.args[g]? = some y := by rw [hy]; exact List.getElem?_eq_getElem hkl
            obtain ⟨b2, off2, kv, rfl, hbl, g0, g1, g2, g3, hky⟩ := HAT.out.get hyk
            have hbr := HGG.out.1.b0
            have g0 := cellB hbr g0; have g1 := cellB hbr g1; have g2 := cellB hbr g2; have g3 := cellB hbr g3
            obtain ⟨ka, kc, hkf⟩ := hky.form
            obtain ⟨kl, hkl2⟩ : ∃ l, l = y.kids.length := ⟨_, rfl⟩
            have HCALL : Hid (∀ w', Below wi.heap.size wi w' → Calls Tryz.prog 140 #[.pointer (some ⟨C, 0, none⟩), .agg #[.int .i64 y.op, .int .i64 y.n, .string y.name, kv], .pointer (some ⟨p, 0, none⟩)] w' (CkP C fv k c2 (chkE fs k (inj ++ out) 6 y) w')) := Lib.hid (fun w' hb =>
              ckExpr_any w0 w' fs fv k C B _ _ (inj ++ out) 6 y kv c2 (HHAS.out.1 y (List.mem_of_getElem? hyk)) (HAT.out.lens.2 g y hyk) hky ((HGG.out.1.below hb).cks HNJ.out.1) (HGG.out.2.1.below hb))
            rw [← hkl2] at hkf
            subst hkf
            have HTK := Lib.hid (all_take (chkE fs k (inj ++ out) 6) x.args g y hyk)
            have j0 : (0 : Int) ≤ g := by omega
            have j1 : (g : Int) < al := by omega
            clear hkl hy hyk hky hkl2 hbr hbl
            go_wp2_with (fail)
            go_at_call 140
            refine (HCALL.out _ (below1 _ _)).mono ?_
            rintro e w3 ⟨rfl, hO, c3, hC3, hc3⟩
            have hOr : Only [C] wi w3 := (Only.of_below (below1 wi _) _).trans hO
            have HG3 : Hid (∃ c2, Top w0 w3 fs fv k C B lo p b (n + j) up inj out ∧ Ckr w3 C fv k c2 ∧ (c2 = 0 ↔ cr = 0 ∧ (x.args.take (g + 1)).all (chkE fs k (inj ++ out) 6) = true) ∧ Only [C, b] w w3 ∧ Blk w3 X [.int .i64 x.op, .string x.name, .slice (some ⟨b2, off2, none⟩) al ac, .slice ba bl bc, .slice ea el ec]) := Lib.hid ⟨c3, HGG.out.1.only hOr, hC3, by
                rw [hc3, HGG.out.2.2.1, HTK.out, Bool.and_eq_true, and_assoc], HGG.out.2.2.2.1.trans (hOr.mono (by simp)), hOr.blk HGG.out.2.2.2.2 (by simp; exact HXC.out.1)⟩
            clear hO hOr hC3 hc3
            go_wp2_with (fail)
            go_roundw
            case rel => exact ⟨g + 1, by omega, by go_num, HG3⟩
            case measure => simp [intOf]; omega
          · have hge : g = al := by omega
            have HC2 : Hid (c2 = 0 ↔ cr = 0 ∧ x.args.all (chkE fs k (inj ++ out) 6) = true) := Lib.hid (by have := HGG.out.2.2.1; rw [hge, HAL.out, List.take_length] at this; exact this)
            obtain ⟨z0, z1, z2, z3, z4⟩ := blkc5 HGG.out.2.2.2.2
            obtain ⟨y0, y1⟩ : wi.cell? ⟨p, 0, none⟩ = some (.map (some b)) ∧ wi.cell? ⟨p, 1, none⟩ = some up := ⟨by rw [HGG.out.1.blk.cell]; rfl, by rw [HGG.out.1.blk.cell]; rfl⟩
            clear hge hal2
            by_cases o1 : x.op = 1
            · have e1 := eqI o1
              have e5 := neI (show ¬ x.op = 5 by omega)
              have e6 := neI (show ¬ x.op = 6 by omega)
              have e2 := neI (show ¬ x.op = 2 by omega)
              have HEMP : Hid (x.body = [] ∧ x.els = []) := Lib.hid ⟨HHAS.out.2.2.2.2.1 (by omega) (by omega), HHAS.out.2.2.2.1 (by omega)⟩
              have HIO : Hid (innOf inj x = x.name :: inj) := Lib.hid (by unfold innOf; rw [if_pos o1])
              obtain ⟨r, hr⟩ : ∃ r, r = memB inj x.name := ⟨_, rfl⟩
              have HFI : Hid (F inj x = (x.args.all (chkE fs k (inj ++ out) 6) && !r)) := Lib.hid (by rw [HFX.out, HEMP.out.1, HEMP.out.2, if_pos o1, if_neg (show ¬ x.op = 2 by omega), hr]; simp [chkL])
              obtain ⟨L, hL, hl⟩ := HGG.out.1.mp
              have hml : x.name.size ≤ maxLen := by have := HZ.out; unfold big at this; unfold maxLen; omega
              have hlk : ∀ q, (Instr.lookup 137 (.map (some b)) (.string x.name) true).run Tryz.prog (wi.drewN q) = .ok (.tuple #[.int .i64 (((L.get x.name).getD 0 : Nat) : Int), .bool r]) (wi.drewN q) := fun q => by rw [hr, ← hl]; exact (hL.same rfl : Mp (wi.drewN q) b (n + j) L).run_ok hml
              have HML := Lib.hid hml
              have HNX : Hid (∀ (w4 : World) (c4 : Int), Only [C] wi w4 → Ckr w4 C fv k c4 → (c4 = 0 ↔ c2 = 0 ∧ (!r) = true) → ∀ w5 : World, (∀ M : Env, (∀ y, M.get y = if x.name = y then some 0 else L.get y) → Mp w5 b (n + j + 1) M) → w4.grownBy w5 (some b) →
                ∃ cr, Top w0 w5 fs fv k C B lo p b (n + (j + 1)) up ((ss.take (j + 1)).foldl innOf inn) out ∧ Ckr w5 C fv k cr ∧ (cr = 0 ↔ code = 0 ∧ chkL F inn (ss.take (j + 1)) = true) ∧ Only [C, b] w w5) := Lib.hid (fun w4 c4 hO4 hC4 hc4 w5 hM hg => by
                  have hMM := hM ((x.name, 0) :: L) (fun y => rfl)
                  have hT5 := (HGG.out.1.only hO4).put (inn' := x.name :: inj) hg hMM (fun y => by
                    rw [Env.get_cons, memB_cons]
                    by_cases e : x.name = y
                    · rw [if_pos e, decide_eq_true e]; rfl
                    · rw [if_neg e, decide_eq_false e, Bool.false_or]; exact hl y)
                  have hOb : Only [C, b] w4 w5 := ⟨hg.os, hg.tape, hg.output, hg.size, fun i hi hn => hg.block i hi (by simp at hn; simpa using hn.2)⟩
                  have hCb : C ≠ b := by have h1 := HT.out.cB; have h2 := HT.out.hB; have h3 := HT.out.lb; omega
                  refine ⟨c4, by rw [← HIN.out, HIO.out]; exact hT5, Blk.same hC4 (hg.block C (Blk.lt hC4) (by simpa using hCb)), ?_, HGG.out.2.2.2.1.trans ((hO4.mono (by simp)).trans hOb)⟩
                  rw [hc4, HC2.out, HRI.out.2.2.1, HCL.out, HFI.out, Bool.and_eq_true, Bool.and_eq_true, and_assoc, and_assoc])
              have HLP := Lib.hid hL
              have HBD : ∀ q, Hid (Below wi.heap.size wi (wi.drewN q)) := fun q => Lib.hid (belowDrewN (Below.refl _ _) q)
              have HCW : Hid (Ckr wi C fv k c2) := Lib.hid HGG.out.2.1
              have HXF : Hid (∀ w4, Only [C] wi w4 → w4.cell? ⟨p, 0, none⟩ = some (.map (some b)) ∧ w4.cell? ⟨X, 0, none⟩ = some (.int .i64 x.op) ∧ w4.cell? ⟨X, 1, none⟩ = some (.string x.name) ∧ Mp w4 b (n + j) L ∧ Blk w4 X [.int .i64 x.op, .string x.name, .slice aa al ac, .slice ba bl bc, .slice ea el ec]) := Lib.hid (fun w4 hO => by
                have h1 := hO.blk HGG.out.2.2.2.2 (by simp; exact HXC.out.1)
                refine ⟨by rw [(HGG.out.1.only hO).blk.cell]; rfl, (blkc5 h1).1, (blkc5 h1).2.1, hL.same (hO.block b hL.lt ?_), h1⟩
                have h1 := HT.out.cB; have h2 := HT.out.hB; have h3 := HT.out.lb
                simp; omega)
              clear o1 hr hL hl hml z2 z3 z4 y1
              cases r
              · go_wp2_with (fail)
                go_quiet (fail)
                go_wp2_with (fail)
                have hO4 : Only [C] wi (wi.drewN nq) := Only.of_below (HBD nq).out _
                have HN4 := Lib.hid (HNX.out (wi.drewN nq) c2 hO4 (HCW.out.below (HBD nq).out) ⟨fun h => ⟨h, rfl⟩, fun h => h.1⟩)
                have HX4 := Lib.hid (HXF.out _ hO4)
                clear hO4
                generalize wi.drewN nq = w4 at HN4 HX4 ⊢
                clear y0 z0 z1
                obtain ⟨y0, z0, z1, _, _⟩ := HX4.out
                go_still_tail 6, (by kernel_rfl)
                change wpList _ _ _ _ _ w4.drew
                go_wp2_with (at_mapUpdate; refine wpList_mp_put _ rfl _ _ _ rfl b (n + j) L rfl (HX4.out.2.2.2.1.same rfl) (by have := HNJ.out; omega) x.name rfl HML.out 0 rfl (by decide) ?_; intro w5 hM hg; have HN5 := Lib.hid (HN4.out w5 hM ⟨hg.os, hg.tape, hg.output, hg.size, hg.block⟩); have z5 : w5.cell? ⟨X, 0, none⟩ = some (.int .i64 x.op) := (blkc5 (HX4.out.2.2.2.2.same (hg.block X HX4.out.2.2.2.2.lt (by simp; exact HXC.out.2)))).1; clear hM hg)
                go_roundw
                case rel => exact ⟨j + 1, by omega, by go_num, HN5⟩
                case measure => simp [intOf]; omega
              · go_wp2_with (fail)
                go_quiet (fail)
                go_wp2_with (fail)
                go_at_call 99
                refine (fail_any _ C fv k c2 2 (HCW.out.below (belowDrewN (Below.refl _ _) _)) (by decide)).mono ?_
                rintro e w4 ⟨rfl, hO, c4, hC4, hc4⟩
                have hO4 : Only [C] wi w4 := (Only.of_below (HBD nq).out _).trans hO
                have HN4 := Lib.hid (HNX.out w4 c4 hO4 hC4 hc4)
                have HX4 := Lib.hid (HXF.out _ hO4)
                clear hO hC4 hc4 hO4 y0 z0 z1
                obtain ⟨y0, z0, z1, _, _⟩ := HX4.out
                go_wp2_with (fail)
                clear y0 z0 z1
                obtain ⟨y0, z0, z1, _, _⟩ := HX4.out
                go_still_tail 6, (by kernel_rfl)
                change wpList _ _ _ _ _ w4.drew
                go_wp2_with (at_mapUpdate; refine wpList_mp_put _ rfl _ _ _ rfl b (n + j) L rfl (HX4.out.2.2.2.1.same rfl) (by have := HNJ.out; omega) x.name rfl HML.out 0 rfl (by decide) ?_; intro w5 hM hg; have HN5 := Lib.hid (HN4.out w5 hM ⟨hg.os, hg.tape, hg.output, hg.size, hg.block⟩); have z5 : w5.cell? ⟨X, 0, none⟩ = some (.int .i64 x.op) := (blkc5 (HX4.out.2.2.2.2.same (hg.block X HX4.out.2.2.2.2.lt (by simp; exact HXC.out.2)))).1; clear hM hg)
                go_roundw
                case rel => exact ⟨j + 1, by omega, by go_num, HN5⟩
                case measure => simp [intOf]; omega
            by_cases o2 : x.op = 2
            · have e2 := eqI o2
              have e5 := neI (show ¬ x.op = 5 by omega)
              have e6 := neI (show ¬ x.op = 6 by omega)
              have e1 := neI (show ¬ x.op = 1 by omega)
              have HEMP : Hid (x.body = [] ∧ x.els = []) := Lib.hid ⟨HHAS.out.2.2.2.2.1 (by omega) (by omega), HHAS.out.2.2.2.1 (by omega)⟩
              have HIO : Hid (innOf inj x = inj) := Lib.hid (by unfold innOf; rw [if_neg o1])
              obtain ⟨r, hr⟩ : ∃ r, r = memB (inj ++ out) x.name := ⟨_, rfl⟩
              have HFI : Hid (F inj x = (x.args.all (chkE fs k (inj ++ out) 6) && r)) := Lib.hid (by rw [HFX.out, HEMP.out.1, HEMP.out.2, if_neg o1, if_pos o2, hr]; simp [chkL])
              have HFD := Lib.hid (find_any wi B _ _ (inj ++ out) x.name HZ.out (HGG.out.1.cks HNJ.out.1).sch)
              rw [← hr] at HFD
              have HNX : Hid (∀ (w4 : World) (c4 : Int), Only [C] wi w4 → Ckr w4 C fv k c4 → (c4 = 0 ↔ c2 = 0 ∧ r = true) →
                ∃ cr, Top w0 w4 fs fv k C B lo p b (n + (j + 1)) up ((ss.take (j + 1)).foldl innOf inn) out ∧ Ckr w4 C fv k cr ∧ (cr = 0 ↔ code = 0 ∧ chkL F inn (ss.take (j + 1)) = true) ∧ Only [C, b] w w4) := Lib.hid (fun w4 c4 hO4 hC4 hc4 => by
                  refine ⟨c4, by rw [← HIN.out, HIO.out]; exact Top.more (HGG.out.1.only hO4), hC4, ?_, HGG.out.2.2.2.1.trans (hO4.mono (by simp))⟩
                  rw [hc4, HC2.out, HRI.out.2.2.1, HCL.out, HFI.out, Bool.and_eq_true, Bool.and_eq_true, and_assoc, and_assoc])
              have HCW : Hid (Ckr wi C fv k c2) := Lib.hid HGG.out.2.1
              clear o1 o2 hr z2 z3 z4 y1 y0
              go_wp2_with (fail)
              go_at_call 141
              refine HFD.out.mono ?_
              rintro e _ ⟨fn, rfl, rfl⟩
              cases r
              · go_wp2_with (fail)
                go_at_call 99
                refine (fail_any _ C fv k c2 3 HCW.out (by decide)).mono ?_
                rintro e w4 ⟨rfl, hO, c4, hC4, hc4⟩
                have HN5 := Lib.hid (HNX.out w4 c4 hO hC4 hc4)
                have z0' : w4.cell? ⟨X, 0, none⟩ = some (.int .i64 x.op) := (blkc5 (hO.blk HGG.out.2.2.2.2 (by simp; exact HXC.out.1))).1
                clear hO hC4 hc4 z0 z1
                go_wp2_with (fail)
                go_roundw
                case rel => exact ⟨j + 1, by omega, by go_num, HN5⟩
                case measure => simp [intOf]; omega
              · have HN5 := Lib.hid (HNX.out wi c2 (Only.refl _ _) HCW.out ⟨fun h => ⟨h, rfl⟩, fun h => h.1⟩)
                go_wp2_with (fail)
                go_roundw
                case rel => exact ⟨j + 1, by omega, by go_num, HN5⟩
                case measure => simp [intOf]; omega
            by_cases o56 : x.op = 5 ∨ x.op = 6
            · have HIO : Hid (innOf inj x = inj) := Lib.hid (by unfold innOf; rw [if_neg o1])
              have HFI : Hid (F inj x = (x.args.all (chkE fs k (inj ++ out) 6) && chkL (fun i y => chkS fs k d i (inj ++ out) y) [] x.body && chkL (fun i y => chkS fs k d i (inj ++ out) y) [] x.els)) := Lib.hid (by rw [HFX.out, HIO.out, if_neg o1, if_neg o2]; simp)
              have Hwi : Hid (Top w0 wi fs fv k C B lo p b (n + j) up inj out ∧ Ckr wi C fv k c2 ∧ Blk wi X [.int .i64 x.op, .string x.name, .slice aa al ac, .slice ba bl bc, .slice ea el ec]) := Lib.hid ⟨HGG.out.1, HGG.out.2.1, HGG.out.2.2.2.2⟩
              have HOW : Hid (Only [C, b] w wi) := Lib.hid HGG.out.2.2.2.1
              have HNX : Hid (∀ (w4 : World) (c3 c4 : Int), Only [C] wi w4 → Top w0 w4 fs fv k C B lo p b (n + j) up inj out → Ckr w4 C fv k c4 → (c3 = 0 ↔ c2 = 0 ∧ chkL (fun i y => chkS fs k d i (inj ++ out) y) [] x.body = true) → (c4 = 0 ↔ c3 = 0 ∧ chkL (fun i y => chkS fs k d i (inj ++ out) y) [] x.els = true) →
                ∃ cr, Top w0 w4 fs fv k C B lo p b (n + (j + 1)) up ((ss.take (j + 1)).foldl innOf inn) out ∧ Ckr w4 C fv k cr ∧ (cr = 0 ↔ code = 0 ∧ chkL F inn (ss.take (j + 1)) = true) ∧ Only [C, b] w w4) := Lib.hid (fun w4 c3 c4 hO4 hT4 hC4 hc3 hc4 => by
                  refine ⟨c4, by rw [← HIN.out, HIO.out]; exact Top.more hT4, hC4, ?_, HOW.out.trans (hO4.mono (by simp))⟩
                  simp only [hc4, hc3, HC2.out, HRI.out.2.2.1, HCL.out, HFI.out, Bool.and_eq_true, and_assoc])
              have e1 := neI o1; have e2 := neI o2
              clear o1 o2 HGG HG HC2 y0 y1 z1 z2
              rcases o56 with o5 | o6
              · have e5 := eqI o5
                clear o5
                go_upto_region 19 with (fail)
                go_region_held3 (fun W : World => W.cell? ⟨X, 3, none⟩ = some (.slice ba bl bc)) (first | assumption | exact HSKa.out) (first
                  | (go_at_call 100; refine (open_any _ _).mono ?_; rintro e wma ⟨psa, bsa, rfl, hp', hb', hne, hpw, hbk, hmp, hB⟩; have HOPa : Hid (Top w0 wma fs fv k C B wi.heap.size psa bsa 0 (.pointer (some ⟨p, 0, none⟩)) [] (inj ++ out) ∧ Ckr wma C fv k c2 ∧ wi.heap.size ≤ bsa ∧ Below wi.heap.size wi wma) := Lib.hid ⟨Hwi.out.1.inner HNJ.out.1 hp' hb' hne hbk hmp ((Below.refl _ wi).drew.trans hB), Hwi.out.2.1.below ((Below.refl _ wi).drew.trans hB), hb', (Below.refl _ wi).drew.trans hB⟩; have HSKa := Lib.hid (cellB ((Below.refl _ wi).drew.trans hB) z3); clear hp' hb' hne hpw hbk hmp hB)
                  | (go_at_call 101; refine (HIH.out x.body wma _ c2 _ psa bsa 0 _ [] (inj ++ out) HHAS.out.2.1 HBT.out HWX.out.1 (Nat.zero_le _) HOPa.out.1 HOPa.out.2.1).mono ?_; rintro e w5 ⟨rfl, hO, c5, hC5, hc5⟩; have HOa : Hid (Only [C] wi w5) := Lib.hid (Only.drop HOPa.out.2.2.2 hO HOPa.out.2.2.1); have Hw5 : Hid (Top w0 w5 fs fv k C B lo p b (n + j) up inj out ∧ Ckr w5 C fv k c5 ∧ Blk w5 X [.int .i64 x.op, .string x.name, .slice aa al ac, .slice ba bl bc, .slice ea el ec]) := Lib.hid ⟨Hwi.out.1.only HOa.out, hC5, HOa.out.blk Hwi.out.2.2 (fun h => HXC.out.1 (List.mem_singleton.1 h))⟩; have HCCa := Lib.hid hc5; obtain ⟨q0a, q1a, q2a, q3a, q4a⟩ := blkc5 Hw5.out.2.2; clear hO hC5 hc5))
                go_upto_region 20 with (fail)
                go_region_held3 (fun W : World => W.cell? ⟨X, 4, none⟩ = some (.slice ea el ec)) (first | assumption | exact HSKb.out) (first
                  | (go_at_call 100; refine (open_any _ _).mono ?_; rintro e wmb ⟨psb, bsb, rfl, hp', hb', hne, hpw, hbk, hmp, hB⟩; have HOPb : Hid (Top w0 wmb fs fv k C B w5.heap.size psb bsb 0 (.pointer (some ⟨p, 0, none⟩)) [] (inj ++ out) ∧ Ckr wmb C fv k c5 ∧ w5.heap.size ≤ bsb ∧ Below w5.heap.size w5 wmb) := Lib.hid ⟨Hw5.out.1.inner HNJ.out.1 hp' hb' hne hbk hmp ((Below.refl _ w5).drew.trans hB), Hw5.out.2.1.below ((Below.refl _ w5).drew.trans hB), hb', (Below.refl _ w5).drew.trans hB⟩; have HSKb := Lib.hid (cellB ((Below.refl _ w5).drew.trans hB) q4a); clear hp' hb' hne hpw hbk hmp hB)
                  | (go_at_call 101; refine (HIH.out x.els wmb _ c5 _ psb bsb 0 _ [] (inj ++ out) HHAS.out.2.2.1 HET.out HWX.out.2 (Nat.zero_le _) HOPb.out.1 HOPb.out.2.1).mono ?_; rintro e w6 ⟨rfl, hO, c6, hC5, hc5⟩; have HOb : Hid (Only [C] w5 w6) := Lib.hid (Only.drop HOPb.out.2.2.2 hO HOPb.out.2.2.1); have Hw6 : Hid (Top w0 w6 fs fv k C B lo p b (n + j) up inj out ∧ Ckr w6 C fv k c6 ∧ Blk w6 X [.int .i64 x.op, .string x.name, .slice aa al ac, .slice ba bl bc, .slice ea el ec]) := Lib.hid ⟨Hw5.out.1.only HOb.out, hC5, HOb.out.blk Hw5.out.2.2 (fun h => HXC.out.1 (List.mem_singleton.1 h))⟩; have HCCb := Lib.hid hc5; obtain ⟨q0b, q1b, q2b, q3b, q4b⟩ := blkc5 Hw6.out.2.2; clear hO hC5 hc5))
                go_wp2_with (fail)
                go_roundw
                case rel => exact ⟨j + 1, by omega, by go_num, Lib.hid (HNX.out w6 c5 c6 (HOa.out.trans HOb.out) Hw6.out.1 Hw6.out.2.1 HCCa.out HCCb.out)⟩
                case measure => simp [intOf]; omega
              · have e6 := eqI o6
                have e5 := neI (show ¬ x.op = 5 by omega)
                clear o6
                go_upto_region 19 with (fail)
                go_region_held3 (fun W : World => W.cell? ⟨X, 3, none⟩ = some (.slice ba bl bc)) (first | assumption | exact HSKa.out) (first
                  | (go_at_call 100; refine (open_any _ _).mono ?_; rintro e wma ⟨psa, bsa, rfl, hp', hb', hne, hpw, hbk, hmp, hB⟩; have HOPa : Hid (Top w0 wma fs fv k C B wi.heap.size psa bsa 0 (.pointer (some ⟨p, 0, none⟩)) [] (inj ++ out) ∧ Ckr wma C fv k c2 ∧ wi.heap.size ≤ bsa ∧ Below wi.heap.size wi wma) := Lib.hid ⟨Hwi.out.1.inner HNJ.out.1 hp' hb' hne hbk hmp ((Below.refl _ wi).drew.trans hB), Hwi.out.2.1.below ((Below.refl _ wi).drew.trans hB), hb', (Below.refl _ wi).drew.trans hB⟩; have HSKa := Lib.hid (cellB ((Below.refl _ wi).drew.trans hB) z3); clear hp' hb' hne hpw hbk hmp hB)
                  | (go_at_call 101; refine (HIH.out x.body wma _ c2 _ psa bsa 0 _ [] (inj ++ out) HHAS.out.2.1 HBT.out HWX.out.1 (Nat.zero_le _) HOPa.out.1 HOPa.out.2.1).mono ?_; rintro e w5 ⟨rfl, hO, c5, hC5, hc5⟩; have HOa : Hid (Only [C] wi w5) := Lib.hid (Only.drop HOPa.out.2.2.2 hO HOPa.out.2.2.1); have Hw5 : Hid (Top w0 w5 fs fv k C B lo p b (n + j) up inj out ∧ Ckr w5 C fv k c5 ∧ Blk w5 X [.int .i64 x.op, .string x.name, .slice aa al ac, .slice ba bl bc, .slice ea el ec]) := Lib.hid ⟨Hwi.out.1.only HOa.out, hC5, HOa.out.blk Hwi.out.2.2 (fun h => HXC.out.1 (List.mem_singleton.1 h))⟩; have HCCa := Lib.hid hc5; obtain ⟨q0a, q1a, q2a, q3a, q4a⟩ := blkc5 Hw5.out.2.2; clear hO hC5 hc5))
                go_upto_region 20 with (fail)
                go_region_held3 (fun W : World => W.cell? ⟨X, 4, none⟩ = some (.slice ea el ec)) (first | assumption | exact HSKb.out) (first
                  | (go_at_call 100; refine (open_any _ _).mono ?_; rintro e wmb ⟨psb, bsb, rfl, hp', hb', hne, hpw, hbk, hmp, hB⟩; have HOPb : Hid (Top w0 wmb fs fv k C B w5.heap.size psb bsb 0 (.pointer (some ⟨p, 0, none⟩)) [] (inj ++ out) ∧ Ckr wmb C fv k c5 ∧ w5.heap.size ≤ bsb ∧ Below w5.heap.size w5 wmb) := Lib.hid ⟨Hw5.out.1.inner HNJ.out.1 hp' hb' hne hbk hmp ((Below.refl _ w5).drew.trans hB), Hw5.out.2.1.below ((Below.refl _ w5).drew.trans hB), hb', (Below.refl _ w5).drew.trans hB⟩; have HSKb := Lib.hid (cellB ((Below.refl _ w5).drew.trans hB) q4a); clear hp' hb' hne hpw hbk hmp hB)
                  | (go_at_call 101; refine (HIH.out x.els wmb _ c5 _ psb bsb 0 _ [] (inj ++ out) HHAS.out.2.2.1 HET.out HWX.out.2 (Nat.zero_le _) HOPb.out.1 HOPb.out.2.1).mono ?_; rintro e w6 ⟨rfl, hO, c6, hC5, hc5⟩; have HOb : Hid (Only [C] w5 w6) := Lib.hid (Only.drop HOPb.out.2.2.2 hO HOPb.out.2.2.1); have Hw6 : Hid (Top w0 w6 fs fv k C B lo p b (n + j) up inj out ∧ Ckr w6 C fv k c6 ∧ Blk w6 X [.int .i64 x.op, .string x.name, .slice aa al ac, .slice ba bl bc, .slice ea el ec]) := Lib.hid ⟨Hw5.out.1.only HOb.out, hC5, HOb.out.blk Hw5.out.2.2 (fun h => HXC.out.1 (List.mem_singleton.1 h))⟩; have HCCb := Lib.hid hc5; obtain ⟨q0b, q1b, q2b, q3b, q4b⟩ := blkc5 Hw6.out.2.2; clear hO hC5 hc5))
                go_wp2_with (fail)
                go_roundw
                case rel => exact ⟨j + 1, by omega, by go_num, Lib.hid (HNX.out w6 c5 c6 (HOa.out.trans HOb.out) Hw6.out.1 Hw6.out.2.1 HCCa.out HCCb.out)⟩
                case measure => simp [intOf]; omega
            have o5 : ¬ x.op = 5 := fun h => o56 (.inl h)
            have o6 : ¬ x.op = 6 := fun h => o56 (.inr h)
            clear o56
            have HEMP : Hid (x.body = [] ∧ x.els = []) := Lib.hid ⟨HHAS.out.2.2.2.2.1 o5 o6, HHAS.out.2.2.2.1 o5⟩
            have HIO : Hid (innOf inj x = inj) := Lib.hid (by unfold innOf; rw [if_neg o1])
            have HFI : Hid (F inj x = x.args.all (chkE fs k (inj ++ out) 6)) := Lib.hid (by rw [HFX.out, HEMP.out.1, HEMP.out.2, if_neg o1, if_neg o2]; simp [chkL])
            have o1 := neI o1; have o2 := neI o2; have o5 := neI o5; have o6 := neI o6
            go_wp2_with (fail)
            go_roundw
            case rel => exact ⟨j + 1, by omega, by go_num, Lib.hid ⟨c2, by rw [← HIN.out, HIO.out]; exact Top.more HGG.out.1, HGG.out.2.1, by rw [HC2.out, HRI.out.2.2.1, HCL.out, HFI.out, Bool.and_eq_true, and_assoc], HGG.out.2.2.2.1⟩⟩
            case measure => simp [intOf]; omega
      · have hje : j = m := by omega
        have HE : Hid (cr = 0 ↔ code = 0 ∧ chkL F inn ss = true) := Lib.hid (by have := HRR.out.2.2.1; rw [hje, HM.out, List.take_length] at this; exact this)
        clear hje
        go_wp2_with (fail)
        go_end0
        exact ⟨rfl, HRR.out.2.2.2, cr, HRR.out.2.1, HE.out⟩
end Go.Proofs.YtpnliencahnmoaaGreatDoor
