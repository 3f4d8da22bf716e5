/- The program's run: statements but for loops. The program's run: loops; expressions, calls, blocks, statements with any gas. The program's run is caught: impl.caught, runMeaning's closure. -/
import Derived.Test.YtpnliencahnmoaaGreatDoorQ21
import Derived.Recover
set_option linter.unusedVariables false
set_option linter.unusedSimpArgs false
set_option linter.unusedVariables false
set_option linter.unusedSimpArgs false
set_option maxRecDepth 100000
namespace Go.Proofs.YtpnliencahnmoaaGreatDoor
open Go.RowKit
theorem Mn.grown {w w' : World} {M B : Nat} {fv sv : Value} {s : Cm} (h : Mn w M B fv sv s) {row : Option Nat} (hg : w.grownBy w' row) (h1 : row ≠ some M) (h2 : ∀ z, row = some z → sv.ownBlock ≠ some z) : Mn w' M B fv sv s :=
  ⟨h.blk.grown hg h1, ownsRow_same h.said (fun q hq => hg.block q (World.ownsRow.lt h.said q hq).2 (fun e => h2 q e.symm hq)), h.ne, h.cm, h.bd⟩
theorem Fr.of_grown {M : Nat} {ks : List Nat} {sv : Value} {w w' : World} {b : Nat} (hg : w.grownBy w' (some b)) (hb : b ∈ ks) : Fr (M :: ks) sv w sv w' :=
  Fr.of_only ⟨hg.os, hg.tape, hg.output, hg.size, fun i hi hn => hg.block i hi (fun e => by injection e with e; subst e; exact hn (List.mem_cons_of_mem _ hb))⟩
theorem Mp.run_put {w : World} {b n : Nat} {L : Env} (h : Mp w b n L) (hn : n < maxLen) {s : ByteArray} (hs : s.size ≤ maxLen) {u : Nat} (hu : u < 256) : ∃ w', (Instr.mapUpdate 137 (.map (some b)) (.string s) (.int .i64 (u : Int))).run Tryz.prog w = .ok () w' ∧ (∀ M : Env, (∀ y, M.get y = if s = y then some u else L.get y) → Mp w' b (n + 1) M) ∧ w.grownBy w' (some b) := by
  obtain ⟨D, h1, h2⟩ := h
  obtain ⟨w', hrun, h3, h4⟩ := h1.update mlaw Tryz.underlying137 hn (kl_key hs) (plainElem_int Tryz.underlying3 (WalkArith.wf_i64 (by omega)) : plainElem Tryz.prog 3 (.int .i64 (u : Int)) = some (_, []))
  refine ⟨w', hrun, fun M hM => ⟨_, h3, fun y => ?_⟩, h4⟩
  rw [hM y]
  by_cases e : s = y
  · subst e
    rw [if_pos rfl]
    exact ⟨Maps.has_put_same h1.isMap (kl_isKey _) _, Maps.atKey_put_same h1.isMap (kl_isKey _) _ _⟩
  · rw [if_neg e]
    have hne : kl y ≠ kl s := fun k => e (kl_inj k).symm
    rw [Maps.has_put_other hne, Maps.atKey_put_other hne]
    exact h2 y
/-- what the region of an inner block reads -/
def InS (X j : Nat) (lv : Value) (W : World) : Prop := W.cell? ⟨X, j, none⟩ = some lv
/-- a statement that is no loop, what it needs -/
def stmtP (w0 : World) (fs : List Fx) (fv : Value) (M B g : Nat) : Prop :=
  ∀ (d : Nat) (op : Int) (name : ByteArray) (args : List Ex) (body els : List St) (av bv ev : Value) (s : Cm) (r : Rb) (w : World) (sv v : Value) (segs : List Env) (ks : List Nat), op ≠ 6 → evS fs g (.mk op name args body els) segs.flatten s = some r → stOk isNB d (.mk op name args body els) = true → stA fs d (.mk op name args body els) = true → name.size ≤ big → ExsAt w0 av args → StsAt w0 bv body → StsAt w0 ev els → Ist w0 w M B fv sv s (999 - s.left) v segs ks → (∀ k ∈ ks, w0.heap.size ≤ k) → s.said.length + s.left ≤ 399 →
    Calls Tryz.prog 147 #[.pointer (some ⟨M, 0, none⟩), .agg #[.int .i64 op, .string name, av, bv, ev], v] w (BQ M B fv sv v segs ks r w)
theorem stOk_args {d : Nat} {fs : List Fx} {op : Int} {name : ByteArray} {args : List Ex} {body els : List St} (h : stOk isNB d (.mk op name args body els) = true) (h2 : stA fs d (.mk op name args body els) = true) : ∃ d', d = d' + 1 ∧ (∀ e ∈ args, exA fs 6 e) ∧ body.all (stOk isNB d') = true ∧ els.all (stOk isNB d') = true ∧ body.all (stA fs d') = true ∧ els.all (stA fs d') = true := by
  cases d with
  | zero => simp [stOk] at h
  | succ d =>
    have hh := stOk_has h
    simp only [stA, Bool.and_eq_true] at h2
    exact ⟨d, rfl, fun e he => ⟨hh.1 e he, List.all_eq_true.1 h2.1.1 e he⟩, hh.2.1, hh.2.2.1, h2.1.2, h2.2⟩
set_option maxHeartbeats 16000000 in
theorem istmt_no {w0 : World} {fs : List Fx} {fv : Value} {M B g : Nat} (hI : Ix w0 fs fv M B) (hG : ∀ g', g' < g → GE w0 fs fv M B g') (hGB : ∀ g', g' < g → GB w0 fs fv M B g') : stmtP w0 fs fv M B g := by
  intro d op name args body els av bv ev s r w sv v segs ks o6 hev hok hsa hz hka hkb hke hst hks hbd
  obtain ⟨d', rfl, hex, hbo, heo, hba, hea⟩ := stOk_args hok hsa
  obtain ⟨g', a0, rest, r1, hg', rfl, he, hst1, hrt⟩ := evS_parts hev
  obtain ⟨aa, ac, haf⟩ := hka.form
  obtain ⟨al, hal⟩ : ∃ l, l = (a0 :: rest).length := ⟨_, rfl⟩
  rw [← hal] at haf
  obtain ⟨ba, bc, hbf⟩ := hkb.form
  obtain ⟨bl, hbl⟩ : ∃ l, l = body.length := ⟨_, rfl⟩
  rw [← hbl] at hbf
  obtain ⟨ea, ec, hef⟩ := hke.form
  obtain ⟨el, hel⟩ : ∃ l, l = els.length := ⟨_, rfl⟩
  rw [← hel] at hef
  subst haf hbf hef
  obtain ⟨w1, hw1⟩ : ∃ w1, w1 = w.alloc (.cells #[.int .i64 op, .string name, .slice aa al ac, .slice ba bl bc, .slice ea el ec] 70) := ⟨_, rfl⟩
  obtain ⟨X, hX⟩ : ∃ X, X = w.heap.size := ⟨_, rfl⟩
  have HB1 : Hid (Bj w0 w M B fv sv v segs ks [.int .i64 op, .string name, .slice aa al ac, .slice ba bl bc, .slice ea el ec] (999 - s.left) sv s segs w1) := Lib.hid (by rw [hw1]; exact Bj.start hst _ _)
  have HKA := Lib.hid hka
  obtain ⟨b0, o0, kv0, rfl, hbb, e0, e1, e2, e3, hk0⟩ := hka.get (i := 0) (e := a0) rfl
  have hbr := HB1.out.bi.st.b0
  have e0 := cellB hbr e0; have e1 := cellB hbr e1; have e2 := cellB hbr e2; have e3 := cellB hbr e3
  rw [Nat.zero_mul, Nat.add_zero] at e0 e1 e2 e3
  have HC := Lib.hid (hG g' hg' 6 a0 kv0 s r1 w1 sv v _ segs ks he (hex a0 List.mem_cons_self) (hka.lens.2 0 a0 rfl) hk0 HB1.out.bi.st)
  obtain ⟨ya, yc, hyf⟩ := hk0.form
  obtain ⟨yl, hyl⟩ : ∃ l, l = a0.kids.length := ⟨_, rfl⟩
  rw [← hyl] at hyf
  subst hyf
  have HI := Lib.hid hI; have HG := Lib.hid hG; have HGB := Lib.hid hGB; have HST1 := Lib.hid hst1; have HRT := Lib.hid hrt; have HEX := Lib.hid hex; have HBO := Lib.hid hbo; have HEO := Lib.hid heo; have HBA := Lib.hid hba; have HEA := Lib.hid hea; have HZ := Lib.hid hz; have HKB := Lib.hid hkb; have HKE := Lib.hid hke; have HKS := Lib.hid hks; have HBD := Lib.hid hbd; have HGL := Lib.hid hg'; have HX := Lib.hid hX; have HO6 := Lib.hid o6; have HAL := Lib.hid hal
  have HLF : Hid (∀ u s1, r1 = .ret u s1 → s1.left ≤ s.left ∧ s1.said.length + s1.left ≤ 399) := Lib.hid (fun u s1 e => by
    subst e
    have h1 := (lef fs g').e he
    have h2 := (tot fs g').e he
    simp only [Rs.cm, Cm.tot] at h1 h2
    exact ⟨h1, Nat.le_trans h2 hbd⟩)
  have hal1 : 1 ≤ al := by rw [hal]; simp
  have halb : al ≤ big := by rw [hal]; exact hka.lens.1
  unfold big at halb
  have hbx := HB1.out.box
  rw [← hX] at hbx
  obtain ⟨z0, z1, z2, z3, z4⟩ := blkc5 hbx
  obtain ⟨V, rfl⟩ := hst.ec.ptr
  have o6 := neI o6
  clear hev hok hsa hex hbo heo hba hea hg' he hst1 hrt hka hkb hke hst hks hbd hz hI hG hGB hk0 hyl hal hbl hel hbb hbr hbx
  go_enter Tryz.func147, Tryz.ntmps147
  go_upto_region 8 with (fail)
  rw [← hw1, ← hX]
  clear hw1 hX
  go_wp2_with (fail)
  go_at_call 182
  refine HC.out.mono ?_
  rintro e w2 ⟨sv2, hF, hM, hm⟩
  have HB2 := Lib.hid (HB1.out.step HI.out hF hM)
  clear hF hM z0 z1 z2 z3 z4 e0 e1 e2 e3
  cases r1 with
  | stop en s1 =>
    obtain rfl := hm
    have hrr := HST1.out en s1 rfl
    subst hrr
    go_wp2_with (fail)
    exact ⟨rfl, HB2.out.stop en⟩
  | ret u s1 =>
    obtain ⟨rfl, hu⟩ := hm
    have HB2 : Hid (Bj w0 w M B fv sv (.pointer (some ⟨V, 0, none⟩)) segs ks [.int .i64 op, .string name, .slice (some ⟨b0, o0, none⟩) al ac, .slice ba bl bc, .slice ea el ec] (999 - s.left) sv2 s1 segs w2) := HB2
    have hS := (HRT.out u s1 rfl).2 HO6.out
    have hLF := HLF.out u s1 rfl
    have HLL := Lib.hid hLF
    have HU := Lib.hid hu
    have hbx := HB2.out.box
    rw [← HX.out] at hbx
    obtain ⟨z0, z1, z2, z3, z4⟩ := blkc5 hbx
    have HBX := Lib.hid hbx
    have hml : name.size ≤ maxLen := by have := HZ.out; unfold big at this; unfold maxLen; omega
    have HML := Lib.hid hml
    clear hbx hLF hml
    unfold evS1 at hS
    by_cases o1 : op = 1
    · subst o1
      rw [if_pos rfl] at hS
      injection hS with hS
      subst hS
      obtain ⟨L, rs, rfl⟩ := HB2.out.bi.st.ec.ne
      obtain ⟨b, n, au, hbk, hBl, hMp, hn, hput⟩ := HB2.out.bi.st.ec.top name
      have y0 : w2.cell? ⟨V, 0, none⟩ = some (.map (some b)) := (hBl.cell 0).trans rfl
      have HMP := Lib.hid hMp
      have HNM : Hid (n < maxLen) := Lib.hid (by unfold maxLen; omega)
      have HNX : Hid (∀ w6 : World, (∀ L2 : Env, (∀ y, L2.get y = if name = y then some u else L.get y) → Mp w6 b (n + 1) L2) → w2.grownBy w6 (some b) → BQ M B fv sv (.pointer (some ⟨V, 0, none⟩)) (L :: rs) ks (.go ((name, u) :: (L :: rs).flatten) s1) w (.returned (.pointer none)) w6) := Lib.hid (fun w6 hM6 hg6 => by
        have hE6 := hput w6 u HU.out hg6 (hM6 _ (fun y => Env.get_cons _ _ _ _))
        have hap := HB2.out.bi.st.ap
        have hmn6 : Mn w6 M B fv sv2 s1 := HB2.out.bi.st.mn.grown hg6 (fun e => by injection e with e; subst e; exact hap.1 hbk) (fun z hz e => by injection hz with hz; subst hz; exact hap.2 _ e hbk)
        have h6 := HB2.out.next HI.out HKS.out (Fr.of_grown hg6 hbk) hmn6 hap.2 hE6 ⟨rfl, rfl⟩
        have := h6.ans (by have h1 := HLL.out.1; have h2 := HBD.out; omega)
        exact this)
      clear hbk hBl hMp hn hput z2 z3 z4
      go_wp2_with (fail)
      go_still_tail 7, (by kernel_rfl)
      change wpList _ _ _ _ _ w2.drew
      go_wp2_with (at_mapUpdate; refine wpList_mp_put _ rfl _ _ _ rfl b n L rfl (HMP.out.same rfl) HNM.out name rfl HML.out u rfl HU.out ?_; intro w6 hM6 hg6; have HN6 := Lib.hid (HNX.out w6 hM6 ⟨hg6.os, hg6.tape, hg6.output, hg6.size, hg6.block⟩); clear hM6 hg6)
      go_ret
      exact HN6.out
    rw [if_neg o1] at hS
    by_cases o2 : op = 2
    · subst o2
      rw [if_pos rfl] at hS
      have hsome : (Env.get segs.flatten name).isSome := by
        cases hgt : Env.get segs.flatten name with
        | none => rw [hgt] at hS; cases hS
        | some q => rfl
      have hSS : r = .go (Env.set segs.flatten name u) s1 := by
        cases hgt : Env.get segs.flatten name with
        | none => rw [hgt] at hS; cases hS
        | some q => rw [hgt] at hS; injection hS with hS; exact hS.symm
      subst hSS
      obtain ⟨p, hwr, b, n, L, au, hp, hbk, hBl, hMp, hn, hLs, hLg, hput⟩ := HB2.out.bi.st.ec.wr (s := name) hsome
      have y0 : w2.cell? ⟨p, 0, none⟩ = some (.map (some b)) := (hBl.cell 0).trans rfl
      have HMP := Lib.hid hMp
      have HWR : Hid (Wr w2.drew name p (.pointer (some ⟨V, 0, none⟩))) := Lib.hid (hwr.same rfl)
      have HNM : Hid (n < maxLen) := Lib.hid (by unfold maxLen; omega)
      have HNX : Hid (∀ w6 : World, (∀ L2 : Env, (∀ y, L2.get y = if name = y then some u else L.get y) → Mp w6 b (n + 1) L2) → w2.grownBy w6 (some b) → BQ M B fv sv (.pointer (some ⟨V, 0, none⟩)) segs ks (.go (Env.set segs.flatten name u) s1) w (.returned (.pointer none)) w6 ∧ (w6.cell? ⟨X, 1, none⟩ = some (.string name) ∧ w6.cell? ⟨p, 0, none⟩ = some (.map (some b)))) := Lib.hid (fun w6 hM6 hg6 => by
        obtain ⟨segs', hE6, hfl, hl1, hl2⟩ := hput w6 u HU.out hg6 (hM6 _ (fun y => Env.get_set u hLs y))
        have hap := HB2.out.bi.st.ap
        have hmn6 : Mn w6 M B fv sv2 s1 := HB2.out.bi.st.mn.grown hg6 (fun e => by injection e with e; subst e; exact hap.1 hbk) (fun z hz e => by injection hz with hz; subst hz; exact hap.2 _ e hbk)
        have h6 := HB2.out.next HI.out HKS.out (Fr.of_grown hg6 hbk) hmn6 hap.2 hE6 ⟨by
          have := congrArg List.tail hl1
          rwa [List.map_tail, List.map_tail], hl2⟩
        have h7 := h6.ans (by have h1 := HLL.out.1; have h2 := HBD.out; omega)
        rw [hfl] at h7
        have hpb : p ≠ b := by
          intro e
          subst e
          obtain ⟨cs, t, hc, _⟩ := hBl
          obtain ⟨D, ⟨es, cl, hm, _⟩, _⟩ := hMp
          rw [hc] at hm
          cases hm
        have hXb : X ≠ b := fun e => HB2.out.kx.2 (by rw [← HX.out, e]; exact hbk)
        exact ⟨h7, (blkc5 (HBX.out.grown hg6 (fun e => by injection e with e; exact hXb e.symm))).2.1, ((hBl.grown hg6 (fun e => by injection e with e; exact hpb e.symm)).cell 0).trans rfl⟩)
      have hs2 : (fun W : World => W.cell? ⟨X, 1, none⟩ = some (.string name) ∧ W.cell? ⟨p, 0, none⟩ = some (.map (some b))) w2 := ⟨z1, y0⟩
      have hsd : (fun W : World => W.cell? ⟨X, 1, none⟩ = some (.string name) ∧ W.cell? ⟨p, 0, none⟩ = some (.map (some b))) w2.drew := ⟨z1, y0⟩
      obtain ⟨w6, hmu, hM6, hg6⟩ := (hMp.same rfl : Mp w2.drew b n L).run_put HNM.out HML.out HU.out
      have HN6 := Lib.hid (HNX.out w6 hM6 ⟨hg6.os, hg6.tape, hg6.output, hg6.size, hg6.block⟩)
      have hs6 : (fun W : World => W.cell? ⟨X, 1, none⟩ = some (.string name) ∧ W.cell? ⟨p, 0, none⟩ = some (.map (some b))) w6 := HN6.out.2
      clear hS hsome hwr hp hbk hBl hMp hn hLs hLg hput z2 z3 z4 hM6 hg6
      go_wp2_with (fail)
      go_region_held3 (fun W : World => W.cell? ⟨X, 1, none⟩ = some (.string name) ∧ W.cell? ⟨p, 0, none⟩ = some (.map (some b))) (first | assumption) (first
        | (go_at_call 184; refine (where_any _ name p _ HZ.out HWR.out).mono ?_; rintro e w5 ⟨rfl, rfl⟩))
      go_wp2_with (fail)
      go_ret
      exact HN6.out.1
    rw [if_neg o2] at hS
    by_cases o3 : op = 3
    · subst o3
      rw [if_pos rfl] at hS
      injection hS with hS
      subst hS
      obtain ⟨i0, hi, hz0, hz1, hz2⟩ := info_parts info_int
      obtain ⟨sa, sc, hsf⟩ := rowForm HB2.out.bi.st.mn.said
      subst hsf
      obtain ⟨m0, m1, m2, m3⟩ := HB2.out.bi.st.mn.cells
      obtain ⟨sl, hsl⟩ : ∃ l, l = s1.said.length := ⟨_, rfl⟩
      have HBM : Hid (B ≤ w2.heap.size) := Lib.hid (by have h1 := HI.out.hBM; have h2 := HB2.out.bi.st.mn.blk.lt; omega)
      have HROW : Hid (w2.ownsRow B 3 1 (.slice sa sl sc) sl (nats s1.said)) := Lib.hid (by rw [hsl]; exact HB2.out.bi.st.mn.said)
      have hbd0 : s1.said.length + s1.left ≤ 399 := HLL.out.2
      have hsl2 : sl ≤ 399 := by omega
      have HNX : Hid (∀ (g c : Nat) (w9 : World), (w2.alloc (.cells #[.int .i64 (u : Int)] 3)).grownBy w9 (Value.slice sa sl sc).ownBlock → ((Value.slice sa sl sc).ownBlock = some g ∨ g = (w2.alloc (.cells #[.int .i64 (u : Int)] 3)).heap.size) → w9.ownsRow B 3 1 (.slice (some ⟨g, 0, none⟩) (sl + 1) c) (sl + 1) (nats s1.said ++ [.int .i64 (u : Int)]) →
        BQ M B fv sv (.pointer (some ⟨V, 0, none⟩)) segs ks (.go segs.flatten { s1 with said := s1.said ++ [u] }) w (.returned (.pointer none)) (w9.setCell ⟨M, 3, none⟩ (.slice (some ⟨g, 0, none⟩) (sl + 1) c)) ∧ w9.frozen? ⟨M, 3, none⟩ = false ∧ w9.cell? ⟨M, 3, none⟩ = some (.slice sa sl sc)) := Lib.hid (fun g c w9 hg ha ho => by
          have e9 : w9.cell? ⟨M, 3, none⟩ = some (.slice sa sl sc) := by
            have h1 : Blk w9 M _ := (HB2.out.bi.st.mn.blk.alloc (.cells #[.int .i64 (u : Int)] 3)).grown hg (by rw [hsl]; exact HB2.out.bi.st.mn.ne)
            rw [h1.cell, hsl]; rfl
          subst hsl
          obtain ⟨g1, g2, g3⟩ := HB2.out.bi.st.mn.say hbd0 HU.out hg ha ho
          exact ⟨(HB2.out.step HI.out g2 g1).ans (by have h1 := HLL.out.1; have h2 := HBD.out; show 999 - s.left ≤ 1000 - s1.left; omega), g3, e9⟩)
      rw [← hsl] at m3
      clear hsl hbd0 z1 z2 z3 z4
      go_wp2_with (at_builtin; refine wpList_append_lies _ rfl (.tmp 68) (.tmp 70) 26 (by rfl) B 3 i0 _ 1 8 Tryz.underlying26 hi hz0 hz1 hz2 rfl (by decide) _ sl (nats s1.said) (by rfl) (HROW.out.alloc _) ⟨w2.heap.size, 0, none⟩ 1 1 [.int .i64 (u : Int)] (by rfl) rfl (World.news_of_block (heap_alloc_new _ _)) (by simp [Value.oneCell']) (by decide) (by unfold maxLen; omega) (by omega) (by have := HBM.out; simp; omega) _ rfl ?_; intro g9 c9 w9 ho9 hg9 hat9 _; have HN9 := Lib.hid (HNX.out g9 c9 w9 hg9 hat9 ho9); have f9 := HN9.out.2.1; have q9 := HN9.out.2.2; clear ho9 hg9 hat9)
      go_ret
      exact HN9.out.1
    rw [if_neg o3] at hS
    by_cases o4 : op = 4
    · subst o4
      rw [if_pos rfl] at hS
      match rest, hS, HAL, HKA, HEX with
      | [y], hS, HAL, HKA, HEX =>
      have hal2 : al = 2 := HAL.out
      subst hal2
      simp only [] at hS
      cases he2 : evE fs g' y segs.flatten s1 with
      | none => rw [he2] at hS; cases hS
      | some q =>
      obtain ⟨b2, o2', kv2, hab, hbl, g0, g1, g2, g3, hk2⟩ := HKA.out.get (i := 1) (e := y) rfl
      injection hab with hab; injection hab with hab1 hab2 _; subst hab1 hab2
      have hbr := HB2.out.bi.st.b0
      have g0 := cellB hbr g0; have g1 := cellB hbr g1; have g2 := cellB hbr g2; have g3 := cellB hbr g3
      rw [Nat.one_mul] at g0 g1 g2 g3
      have HC2 := Lib.hid (HG.out g' HGL.out 6 y kv2 s1 q w2 sv2 _ _ segs ks he2 (HEX.out y (by simp)) (HKA.out.lens.2 1 y rfl) hk2 HB2.out.bi.st)
      have h2l := (lef fs g').e he2
      have H2L := Lib.hid h2l
      obtain ⟨ua, uc, huf⟩ := hk2.form
      obtain ⟨ul, hul⟩ : ∃ l, l = y.kids.length := ⟨_, rfl⟩
      rw [← hul] at huf
      subst huf
      rw [he2] at hS
      have HS := Lib.hid hS
      clear hS he2 hbl hbr hk2 hul h2l
      go_wp2_with (fail)
      go_at_call 182
      refine HC2.out.mono ?_
      rintro e w3 ⟨sv3, hF, hM, hm⟩
      have HB3 := Lib.hid (HB2.out.step HI.out hF hM)
      clear hF hM z0 z1 z2 z3 z4
      cases q with
      | stop en s2 =>
        obtain rfl := hm
        have hrr := HS.out
        injection hrr with hrr
        subst hrr
        go_wp2_with (fail)
        exact ⟨rfl, HB3.out.stop en⟩
      | ret t s2 =>
        obtain ⟨rfl, ht⟩ := hm
        have HB3 : Hid (Bj w0 w M B fv sv (.pointer (some ⟨V, 0, none⟩)) segs ks [.int .i64 4, .string name, .slice (some ⟨b0, o0, none⟩) 2 ac, .slice ba bl bc, .slice ea el ec] (999 - s.left) sv3 s2 segs w3) := HB3
        have hrr := HS.out
        simp only [] at hrr
        by_cases h16 : 16 ≤ u
        · rw [if_pos h16] at hrr
          injection hrr with hrr
          subst hrr
          have HA : Hid (∀ w', Calls Tryz.prog 185 #[.pointer (some ⟨M, 0, none⟩), .int .i64 (u : Int)] w' fun e w2 => w' = w2 ∧ e = .panicked (endChain 2)) := Lib.hid (fun w' => by have := mcell_any w' M u; simp only [if_pos h16] at this; exact this)
          clear h16
          go_wp2_with (fail)
          go_at_call 185
          refine (HA.out _).mono ?_
          rintro e _ ⟨rfl, rfl⟩
          go_wp2_with (fail)
          exact ⟨rfl, HB3.out.stop 2⟩
        · rw [if_neg h16] at hrr
          injection hrr with hrr
          subst hrr
          have HA : Hid (∀ w', Calls Tryz.prog 185 #[.pointer (some ⟨M, 0, none⟩), .int .i64 (u : Int)] w' fun e w2 => w' = w2 ∧ e = .returned (.pointer (some ⟨M, 4 + u, none⟩))) := Lib.hid (fun w' => by have := mcell_any w' M u; simp only [if_neg h16] at this; exact this)
          have hu16 : u < 16 := by omega
          have c0 := HB3.out.bi.st.mn.at hu16
          have f0 : w3.frozen? ⟨M, 4 + u, none⟩ = false := HB3.out.bi.st.mn.blk.frozen (4 + u)
          have HX9 : Hid (BQ M B fv sv (.pointer (some ⟨V, 0, none⟩)) segs ks (.go segs.flatten { s2 with cells := s2.cells.set u t }) w (.returned (.pointer none)) (w3.setCell ⟨M, 4 + u, none⟩ (.int .i64 (t : Int)))) := Lib.hid ((HB3.out.step HI.out (Fr.of_only ((Only.refl _ _).setCell (p := ⟨M, 4 + u, none⟩) (by simp) _)) (HB3.out.bi.st.mn.set hu16 ht)).ans (by have h1 := HLL.out.1; have h2 := HBD.out; have h3 := H2L.out; simp only [Rs.cm] at h3; show 999 - s.left ≤ 1000 - s2.left; omega))
          clear h16 hu16
          go_wp2_with (fail)
          go_at_call 185
          refine (HA.out _).mono ?_
          rintro e _ ⟨rfl, rfl⟩
          go_wp2_with (fail)
          go_ret
          exact HX9.out
    rw [if_neg o4] at hS
    by_cases o5 : op = 5
    · subst o5
      rw [if_pos rfl] at hS
      have hga : 999 - s.left ≤ 1000 - s1.left := by have h1 := HLL.out.1; have h2 := HBD.out; omega
      have HGA := Lib.hid hga
      clear hga
      by_cases hu0 : u = 0
      · subst hu0
        rw [if_pos rfl] at hS
        cases hb : evB fs g' els segs.flatten s1 with
        | none => rw [hb] at hS; cases hS
        | some rb =>
        rw [hb] at hS
        have HEV := Lib.hid hb
        have HS := Lib.hid hS
        clear hS hb
        go_upto_region 22 with (fail)
        have hsd : InS X 4 (.slice ea el ec) w2.drew := z4
        refine wp_region_chain (InS X 4 (.slice ea el ec)) [(0, false), (1, false), (2, true), (3, false)] [4, 5, 6] 6 (by kernel_rfl) (by kernel_rfl) (fun d v c a w h => by cases d <;> exact h) hsd ?_
        simp only [pickO, List.map_cons, List.map_nil, List.getD_cons_zero, List.getD_cons_succ]
        iterate 4
          first
          | (refine heldO_stepY (v := ?_) rfl ?_ ?_
             rotate_left
             · intro W
               go_simp
               try rfl
             simp only [Act.put, List.setIfInBounds_toArray, List.set_cons_zero, List.set_cons_succ])
          | (refine heldO_step (v := ?_) rfl ?_ ?_
             rotate_left
             · intro W hS
               unfold InS at hS
               go_simp
               try rfl
             simp only [Act.put, List.setIfInBounds_toArray, List.set_cons_zero, List.set_cons_succ])
        refine heldO_nil ?_
        refine tailO_step rfl (fun K hK => ?_)
        go_simp
        refine (inner_any _ V).mono ?_
        rintro e wi ⟨pi, bi, rfl, q1, q2, q3, q4, q5, q6⟩
        have q6 := (Below.refl w2.heap.size w2).drew.trans q6
        have HIN := Lib.hid (HB2.out.inner HGA.out q1 q2 q3 q4 q5 q6)
        have HQ6 := Lib.hid q6; have HQ1 := Lib.hid q1; have HQ2 := Lib.hid q2
        have hsi : InS X 4 (.slice ea el ec) wi := cellB q6 z4
        clear q1 q2 q3 q4 q5 q6
        refine hK _ _ (.inr hsi) ?_
        clear hK K
        refine tailO_step rfl (fun K hK => ?_)
        go_simp
        refine (HGB.out g' HGL.out d' els (.slice ea el ec) s1 rb wi sv2 _ ([] :: segs) (pi :: bi :: ks) (by rw [List.flatten_cons, List.nil_append]; exact HEV.out) HEO.out HEA.out HKE.out HIN.out (fun z hz => by
          rcases List.mem_cons.1 hz with rfl | hz
          · exact Nat.le_trans HB2.out.bi.st.b0.size HQ1.out
          rcases List.mem_cons.1 hz with rfl | hz
          · exact Nat.le_trans HB2.out.bi.st.b0.size HQ2.out
          · exact HKS.out z hz)).mono ?_
        rintro e w4 hq
        have HQ := Lib.hid hq
        have hbx4 : Blk w4 X [.int .i64 5, .string name, .slice (some ⟨b0, o0, none⟩) al ac, .slice ba bl bc, .slice ea el ec] := by
          obtain ⟨sv4, g1, _⟩ := hq
          rw [HX.out]
          exact (Fr.dropTwo HQ6.out g1 HQ1.out HQ2.out).blk HB2.out.box (fun e => by
            rcases List.mem_cons.1 e with e | e
            · exact HB2.out.kx.1 e
            · exact HB2.out.kx.2 e) HB2.out.nx
        have hs4 : InS X 4 (.slice ea el ec) w4 := (blkc5 hbx4).2.2.2.2
        have HBX4 := Lib.hid hbx4
        clear hbx4
        cases rb with
        | go e1 s2 =>
          obtain ⟨rfl, sv4, rest', hB4, hcut⟩ := HB2.out.behind HI.out HKS.out HQ1.out HQ2.out HQ6.out hq
          have HB4 := Lib.hid hB4
          have HCUT := Lib.hid hcut
          clear hB4 hcut hq
          refine hK _ _ (.inr hs4) ?_
          clear hK K
          refine tailO_step rfl (fun K hK => ?_)
          go_simp
          refine hK _ _ (.inl rfl) (tailO_nil ?_)
          clear hK K
          have hrr := HS.out
          injection hrr with hrr
          subst hrr
          go_wp2_with (fail)
          go_ret
          have hh := HB4.out.ans (Nat.le_refl _)
          rw [← HCUT.out, List.length_flatten] at hh
          exact hh
        | back u2 s2 =>
          have HQ9 := Lib.hid (HB2.out.out HQ1.out HQ2.out HQ6.out (fun _ _ e => by cases e) HQ.out)
          obtain ⟨sv4, _, _, ⟨qq, rfl, _⟩, _⟩ := hq
          refine hK _ _ (.inr hs4) ?_
          clear hK K
          refine tailO_step rfl (fun K hK => ?_)
          go_simp
          refine hK _ _ (.inl rfl) (tailO_nil ?_)
          clear hK K
          have hrr := HS.out
          injection hrr with hrr
          subst hrr
          go_wp2_with (fail)
          go_ret
          exact HQ9.out
        | stop en s2 =>
          have HQ9 := Lib.hid (HB2.out.out HQ1.out HQ2.out HQ6.out (fun _ _ e => by cases e) HQ.out)
          obtain ⟨sv4, _, _, rfl⟩ := hq
          have hrr := HS.out
          injection hrr with hrr
          subst hrr
          exact ⟨rfl, HQ9.out⟩
      · rw [if_neg hu0] at hS
        have hu1 : ((u : Int) != 0) = true := by simp; omega
        cases hb : evB fs g' body segs.flatten s1 with
        | none => rw [hb] at hS; cases hS
        | some rb =>
        rw [hb] at hS
        have HEV := Lib.hid hb
        have HS := Lib.hid hS
        clear hS hb hu0
        go_upto_region 21 with (fail)
        have hsd : InS X 3 (.slice ba bl bc) w2.drew := z3
        refine wp_region_chain (InS X 3 (.slice ba bl bc)) [(0, false), (1, false), (2, true), (3, false)] [4, 5, 6] 6 (by kernel_rfl) (by kernel_rfl) (fun d v c a w h => by cases d <;> exact h) hsd ?_
        simp only [pickO, List.map_cons, List.map_nil, List.getD_cons_zero, List.getD_cons_succ]
        iterate 4
          first
          | (refine heldO_stepY (v := ?_) rfl ?_ ?_
             rotate_left
             · intro W
               go_simp
               try rfl
             simp only [Act.put, List.setIfInBounds_toArray, List.set_cons_zero, List.set_cons_succ])
          | (refine heldO_step (v := ?_) rfl ?_ ?_
             rotate_left
             · intro W hS
               unfold InS at hS
               go_simp
               try rfl
             simp only [Act.put, List.setIfInBounds_toArray, List.set_cons_zero, List.set_cons_succ])
        refine heldO_nil ?_
        refine tailO_step rfl (fun K hK => ?_)
        go_simp
        refine (inner_any _ V).mono ?_
        rintro e wi ⟨pi, bi, rfl, q1, q2, q3, q4, q5, q6⟩
        have q6 := (Below.refl w2.heap.size w2).drew.trans q6
        have HIN := Lib.hid (HB2.out.inner HGA.out q1 q2 q3 q4 q5 q6)
        have HQ6 := Lib.hid q6; have HQ1 := Lib.hid q1; have HQ2 := Lib.hid q2
        have hsi : InS X 3 (.slice ba bl bc) wi := cellB q6 z3
        clear q1 q2 q3 q4 q5 q6
        refine hK _ _ (.inr hsi) ?_
        clear hK K
        refine tailO_step rfl (fun K hK => ?_)
        go_simp
        refine (HGB.out g' HGL.out d' body (.slice ba bl bc) s1 rb wi sv2 _ ([] :: segs) (pi :: bi :: ks) (by rw [List.flatten_cons, List.nil_append]; exact HEV.out) HBO.out HBA.out HKB.out HIN.out (fun z hz => by
          rcases List.mem_cons.1 hz with rfl | hz
          · exact Nat.le_trans HB2.out.bi.st.b0.size HQ1.out
          rcases List.mem_cons.1 hz with rfl | hz
          · exact Nat.le_trans HB2.out.bi.st.b0.size HQ2.out
          · exact HKS.out z hz)).mono ?_
        rintro e w4 hq
        have HQ := Lib.hid hq
        have hbx4 : Blk w4 X [.int .i64 5, .string name, .slice (some ⟨b0, o0, none⟩) al ac, .slice ba bl bc, .slice ea el ec] := by
          obtain ⟨sv4, g1, _⟩ := hq
          rw [HX.out]
          exact (Fr.dropTwo HQ6.out g1 HQ1.out HQ2.out).blk HB2.out.box (fun e => by
            rcases List.mem_cons.1 e with e | e
            · exact HB2.out.kx.1 e
            · exact HB2.out.kx.2 e) HB2.out.nx
        have hs4 : InS X 3 (.slice ba bl bc) w4 := (blkc5 hbx4).2.2.2.1
        have HBX4 := Lib.hid hbx4
        clear hbx4
        cases rb with
        | go e1 s2 =>
          obtain ⟨rfl, sv4, rest', hB4, hcut⟩ := HB2.out.behind HI.out HKS.out HQ1.out HQ2.out HQ6.out hq
          have HB4 := Lib.hid hB4
          have HCUT := Lib.hid hcut
          clear hB4 hcut hq
          refine hK _ _ (.inr hs4) ?_
          clear hK K
          refine tailO_step rfl (fun K hK => ?_)
          go_simp
          refine hK _ _ (.inl rfl) (tailO_nil ?_)
          clear hK K
          have hrr := HS.out
          injection hrr with hrr
          subst hrr
          go_wp2_with (fail)
          go_ret
          have hh := HB4.out.ans (Nat.le_refl _)
          rw [← HCUT.out, List.length_flatten] at hh
          exact hh
        | back u2 s2 =>
          have HQ9 := Lib.hid (HB2.out.out HQ1.out HQ2.out HQ6.out (fun _ _ e => by cases e) HQ.out)
          obtain ⟨sv4, _, _, ⟨qq, rfl, _⟩, _⟩ := hq
          refine hK _ _ (.inr hs4) ?_
          clear hK K
          refine tailO_step rfl (fun K hK => ?_)
          go_simp
          refine hK _ _ (.inl rfl) (tailO_nil ?_)
          clear hK K
          have hrr := HS.out
          injection hrr with hrr
          subst hrr
          go_wp2_with (fail)
          go_ret
          exact HQ9.out
        | stop en s2 =>
          have HQ9 := Lib.hid (HB2.out.out HQ1.out HQ2.out HQ6.out (fun _ _ e => by cases e) HQ.out)
          obtain ⟨sv4, _, _, rfl⟩ := hq
          have hrr := HS.out
          injection hrr with hrr
          subst hrr
          exact ⟨rfl, HQ9.out⟩
    rw [if_neg o5] at hS
    by_cases o7 : op = 7
    · subst o7
      rw [if_pos rfl] at hS
      injection hS with hS
      subst hS
      go_wp2_with (fail)
      go_ret
      refine ⟨sv2, ⟨HB2.out.bi.fr.only.alloc _, HB2.out.bi.fr.row⟩, HB2.out.bi.st.mn.below (below1 _ _), ⟨_, rfl, by simp [go_sem]⟩, HU.out⟩
    rw [if_neg o7] at hS
    by_cases o8 : op = 8
    · subst o8
      rw [if_pos rfl] at hS
      injection hS with hS
      subst hS
      go_wp2_with (fail)
      go_ret
      exact HB2.out.ans (by have h1 := HLL.out.1; have h2 := HBD.out; omega)
    · rw [if_neg o8] at hS
      cases hS
end Go.Proofs.YtpnliencahnmoaaGreatDoor

set_option linter.unusedVariables false
set_option linter.unusedSimpArgs false
set_option maxRecDepth 100000
namespace Go.Proofs.YtpnliencahnmoaaGreatDoor
open Go.RowKit
theorem evS_loop {fs : List Fx} {g : Nat} {name : ByteArray} {args : List Ex} {body els : List St} {env : Env} {s : Cm} {r : Rb} (h : evS fs g (.mk 6 name args body els) env s = some r) : ∃ g' c, g = g' + 1 ∧ args = [c] ∧ evW fs g' c body env s = some r := by
  cases g with
  | zero => simp [evS] at h
  | succ g =>
    unfold evS at h
    rw [if_pos rfl] at h
    match args, h with
    | [c], h => exact ⟨g, c, rfl, rfl, h⟩
theorem Bj.more {w0 w : World} {M B : Nat} {fv sv v : Value} {segs : List Env} {ks : List Nat} {box : List Value} {a a' : Nat} {sv1 : Value} {s1 : Cm} {segs1 : List Env} {w1 : World} (h : Bj w0 w M B fv sv v segs ks box a sv1 s1 segs1 w1) (ha : a ≤ a') : Bj w0 w M B fv sv v segs ks box a' sv1 s1 segs1 w1 :=
  ⟨⟨h.bi.fr, ⟨h.bi.st.b0, h.bi.st.mn, h.bi.st.ec.mono ha, h.bi.st.ap⟩, h.bi.tl⟩, h.box, h.nx, h.kx⟩
set_option maxHeartbeats 16000000 in
theorem iloop_any {w0 : World} {fs : List Fx} {fv : Value} {M B g : Nat} (hI : Ix w0 fs fv M B) (hG : ∀ g', g' < g → GE w0 fs fv M B g') (hGB : ∀ g', g' < g → GB w0 fs fv M B g') {d : Nat} {name : ByteArray} {args : List Ex} {body els : List St} {av bv ev : Value} {s : Cm} {r : Rb} {w : World} {sv v : Value} {segs : List Env} {ks : List Nat} (hev : evS fs g (.mk 6 name args body els) segs.flatten s = some r) (hok : stOk isNB d (.mk 6 name args body els) = true) (hsa : stA fs d (.mk 6 name args body els) = true) (hka : ExsAt w0 av args) (hkb : StsAt w0 bv body) (hke : StsAt w0 ev els) (hst : Ist w0 w M B fv sv s (999 - s.left) v segs ks) (hks : ∀ k ∈ ks, w0.heap.size ≤ k) :
    Calls Tryz.prog 147 #[.pointer (some ⟨M, 0, none⟩), .agg #[.int .i64 6, .string name, av, bv, ev], v] w (BQ M B fv sv v segs ks r w) := by
  obtain ⟨d', rfl, hex, hbo, _, hba, _⟩ := stOk_args hok hsa
  obtain ⟨g0, c, rfl, rfl, hevw⟩ := evS_loop hev
  obtain ⟨aa, ac, haf⟩ := hka.form
  have haf : av = .slice aa 1 ac := haf
  obtain ⟨ba, bc, hbf⟩ := hkb.form
  obtain ⟨bl, hbl⟩ : ∃ l, l = body.length := ⟨_, rfl⟩
  rw [← hbl] at hbf
  obtain ⟨ea, ec, hef⟩ := hke.form
  obtain ⟨el, hel⟩ : ∃ l, l = els.length := ⟨_, rfl⟩
  rw [← hel] at hef
  subst haf hbf hef
  obtain ⟨b0, o0, kv0, rfl, hbb, e0, e1, e2, e3, hk0⟩ := hka.get (i := 0) (e := c) rfl
  rw [Nat.zero_mul, Nat.add_zero] at e0 e1 e2 e3
  obtain ⟨ya, yc, hyf⟩ := hk0.form
  obtain ⟨yl, hyl⟩ : ∃ l, l = c.kids.length := ⟨_, rfl⟩
  rw [← hyl] at hyf
  subst hyf
  obtain ⟨w1, hw1⟩ : ∃ w1, w1 = w.alloc (.cells #[.int .i64 6, .string name, .slice (some ⟨b0, o0, none⟩) 1 ac, .slice ba bl bc, .slice ea el ec] 70) := ⟨_, rfl⟩
  obtain ⟨X, hX⟩ : ∃ X, X = w.heap.size := ⟨_, rfl⟩
  have HB1 : Hid (Bj w0 w M B fv sv v segs ks [.int .i64 6, .string name, .slice (some ⟨b0, o0, none⟩) 1 ac, .slice ba bl bc, .slice ea el ec] (1000 - s.left) sv s segs w1) := Lib.hid (by rw [hw1]; exact (Bj.start hst _ _).more (by omega))
  have HE0 := Lib.hid e0; have HE1 := Lib.hid e1; have HE2 := Lib.hid e2; have HE3 := Lib.hid e3; have HK0 := Lib.hid hk0; have HCL := Lib.hid (hka.lens.2 0 c rfl); have HEX := Lib.hid (hex c List.mem_cons_self)
  have HI := Lib.hid hI; have HG := Lib.hid hG; have HGB := Lib.hid hGB; have HBO := Lib.hid hbo; have HBA := Lib.hid hba; have HKB := Lib.hid hkb; have HKS := Lib.hid hks; have HX := Lib.hid hX; have HEW := Lib.hid hevw
  have hbx := HB1.out.box
  rw [← hX] at hbx
  obtain ⟨z0, z1, z2, z3, z4⟩ := blkc5 hbx
  obtain ⟨V, rfl⟩ := hst.ec.ptr
  clear hev hok hsa hex hbo hba hka hkb hke hst hks hI hG hGB hk0 hyl hbl hel hbb hevw e0 e1 e2 e3 hbx
  go_enter Tryz.func147, Tryz.ntmps147
  go_upto_region 1 with (fail)
  rw [← hw1, ← hX]
  clear hw1 hX
  go_wp2_with (fail)
  go_loopg [7] g0 (fun k p wr => ∃ (sv1 : Value) (s1 : Cm) (segs1 : List Env), k ≤ g0 ∧ Hid (Bj w0 w M B fv sv (.pointer (some ⟨V, 0, none⟩)) segs ks [.int .i64 6, .string name, .slice (some ⟨b0, o0, none⟩) 1 ac, .slice ba bl bc, .slice ea el ec] (1000 - s1.left) sv1 s1 segs1 wr) ∧ Hid (evW fs k c body segs1.flatten s1 = some r))
  case atStart => exact ⟨_, _, _, Nat.le_refl _, HB1, HEW⟩
  case round =>
  obtain ⟨sv1, s1, segs1, hk, HJ, HW⟩ := hrel
  obtain ⟨k', r1, rfl, hce, hcs, hcv⟩ := evW_parts HW.out
  have hbx := HJ.out.box
  rw [← HX.out] at hbx
  obtain ⟨z0, z1, z2, z3, z4⟩ := blkc5 hbx
  have hbr := HJ.out.bi.st.b0
  have e0 := cellB hbr HE0.out; have e1 := cellB hbr HE1.out; have e2 := cellB hbr HE2.out; have e3 := cellB hbr HE3.out
  have HC := Lib.hid (HG.out k' (by omega) 6 c _ s1 r1 wr sv1 _ _ segs1 ks hce HEX.out HCL.out HK0.out HJ.out.bi.st)
  have hlf := (lef fs k').e hce
  have HLF := Lib.hid hlf; have HCS := Lib.hid hcs; have HCV := Lib.hid hcv
  have HKG : Hid (k' < g0 + 1) := Lib.hid (by omega)
  clear hce hcs hcv hbx hbr hlf
  go_wp2_with (fail)
  go_at_call 182
  refine HC.out.mono ?_
  rintro e w2 ⟨sv2, hF, hM, hm⟩
  have HJ2 := Lib.hid (HJ.out.step HI.out hF hM)
  clear hF hM z0 z1 z2 z3 z4 e0 e1 e2 e3
  cases r1 with
  | stop en s2 =>
    obtain rfl := hm
    have hrr := HCS.out en s2 rfl
    subst hrr
    go_wp2_with (fail)
    exact ⟨rfl, HJ2.out.stop en⟩
  | ret u s2 =>
    obtain ⟨rfl, hu⟩ := hm
    have HJ2 : Hid (Bj w0 w M B fv sv (.pointer (some ⟨V, 0, none⟩)) segs ks [.int .i64 6, .string name, .slice (some ⟨b0, o0, none⟩) 1 ac, .slice ba bl bc, .slice ea el ec] (1000 - s1.left) sv2 s2 segs1 w2) := HJ2
    have hev := HCV.out u s2 rfl
    have HGA : Hid (1000 - s1.left ≤ 1000 - s2.left) := Lib.hid (by have h1 := HLF.out; simp only [Rs.cm] at h1; omega)
    unfold evV at hev
    have hbx := HJ2.out.box
    rw [← HX.out] at hbx
    obtain ⟨z0, z1, z2, z3, z4⟩ := blkc5 hbx
    clear hbx
    by_cases hu0 : u = 0
    · subst hu0
      rw [if_pos rfl] at hev
      injection hev with hev
      subst hev
      go_wp2_with (fail)
      go_ret
      exact HJ2.out.ans HGA.out
    · rw [if_neg hu0] at hev
      have hu1 : ((u : Int) != 0) = true := by simp; omega
      cases hb : evB fs k' body segs1.flatten s2 with
      | none => rw [hb] at hev; cases hev
      | some rb =>
      rw [hb] at hev
      have HEV := Lib.hid hb
      have HS := Lib.hid hev
      clear hev hb hu0
      go_upto_region 3 with (fail)
      have hsd : InS X 3 (.slice ba bl bc) w2.drew := z3
      refine wp_region_chain (InS X 3 (.slice ba bl bc)) [(0, false), (1, false), (2, true), (3, false)] [4, 5, 6] 6 (by kernel_rfl) (by kernel_rfl) (fun d v c a w h => by cases d <;> exact h) hsd ?_
      simp only [pickO, List.map_cons, List.map_nil, List.getD_cons_zero, List.getD_cons_succ]
      iterate 4
        first
        | (refine heldO_stepY (v := ?_) rfl ?_ ?_
           rotate_left
           · intro W
             go_simp
             try rfl
           simp only [Act.put, List.setIfInBounds_toArray, List.set_cons_zero, List.set_cons_succ])
        | (refine heldO_step (v := ?_) rfl ?_ ?_
           rotate_left
           · intro W hS
             unfold InS at hS
             go_simp
             try rfl
           simp only [Act.put, List.setIfInBounds_toArray, List.set_cons_zero, List.set_cons_succ])
      refine heldO_nil ?_
      refine tailO_step rfl (fun K hK => ?_)
      go_simp
      refine (inner_any _ V).mono ?_
      rintro e wi ⟨pi, bi, rfl, q1, q2, q3, q4, q5, q6⟩
      have q6 := (Below.refl w2.heap.size w2).drew.trans q6
      have HIN := Lib.hid (HJ2.out.inner HGA.out q1 q2 q3 q4 q5 q6)
      have HQ6 := Lib.hid q6; have HQ1 := Lib.hid q1; have HQ2 := Lib.hid q2
      have hsi : InS X 3 (.slice ba bl bc) wi := cellB q6 z3
      clear q1 q2 q3 q4 q5 q6
      refine hK _ _ (.inr hsi) ?_
      clear hK K
      refine tailO_step rfl (fun K hK => ?_)
      go_simp
      refine (HGB.out k' HKG.out d' body (.slice ba bl bc) s2 rb wi sv2 _ ([] :: segs1) (pi :: bi :: ks) (by rw [List.flatten_cons, List.nil_append]; exact HEV.out) HBO.out HBA.out HKB.out HIN.out (fun z hz => by
        rcases List.mem_cons.1 hz with rfl | hz
        · exact Nat.le_trans HJ2.out.bi.st.b0.size HQ1.out
        rcases List.mem_cons.1 hz with rfl | hz
        · exact Nat.le_trans HJ2.out.bi.st.b0.size HQ2.out
        · exact HKS.out z hz)).mono ?_
      rintro e w4 hq
      have HQ := Lib.hid hq
      have hbx4 : Blk w4 X [.int .i64 6, .string name, .slice (some ⟨b0, o0, none⟩) 1 ac, .slice ba bl bc, .slice ea el ec] := by
        obtain ⟨sv4, g1, _⟩ := hq
        rw [HX.out]
        exact (Fr.dropTwo HQ6.out g1 HQ1.out HQ2.out).blk HJ2.out.box (fun e => by
          rcases List.mem_cons.1 e with e | e
          · exact HJ2.out.kx.1 e
          · exact HJ2.out.kx.2 e) HJ2.out.nx
      have hs4 : InS X 3 (.slice ba bl bc) w4 := (blkc5 hbx4).2.2.2.1
      have HBX4 := Lib.hid hbx4
      clear hbx4
      cases rb with
      | go e1 s2_ =>
        obtain ⟨rfl, sv4, rest', hB4, hcut⟩ := HJ2.out.behind HI.out HKS.out HQ1.out HQ2.out HQ6.out hq
        have HB4 := Lib.hid hB4
        have HCUT := Lib.hid hcut
        clear hB4 hcut hq
        refine hK _ _ (.inr hs4) ?_
        clear hK K
        refine tailO_step rfl (fun K hK => ?_)
        go_simp
        refine hK _ _ (.inl rfl) (tailO_nil ?_)
        clear hK K
        have hrr := HS.out
        simp only [] at hrr
        have HTK := Lib.hid (tick_any w4 M B fv sv4 s2_ HB4.out.bi.st.mn)
        have hbx := HBX4.out
        obtain ⟨z0, z1, z2, z3, z4⟩ := blkc5 hbx
        clear hbx
        by_cases hl0 : s2_.left = 0
        · rw [if_pos hl0] at hrr
          injection hrr with hrr
          subst hrr
          unfold TickP at HTK
          simp only [if_pos hl0] at HTK
          clear hl0
          go_wp2_with (fail)
          go_at_call 146
          refine HTK.out.mono ?_
          rintro e w5 ⟨rfl, hM5, hO5⟩
          have HB5 := Lib.hid (HB4.out.step HI.out (Fr.of_only hO5) hM5)
          clear hM5 hO5
          go_wp2_with (fail)
          exact ⟨rfl, HB5.out.stop 3⟩
        · rw [if_neg hl0] at hrr
          have HRR := Lib.hid hrr
          unfold TickP at HTK
          simp only [if_neg hl0] at HTK
          clear hl0 hrr
          go_wp2_with (fail)
          go_at_call 146
          refine HTK.out.mono ?_
          rintro e w5 ⟨rfl, hM5, hO5⟩
          have HB5 := Lib.hid ((HB4.out.step HI.out (Fr.of_only hO5) hM5).more (show 1000 - s2_.left ≤ 1000 - s2_.tick.left by show 1000 - s2_.left ≤ 1000 - (s2_.left - 1); omega))
          have HWN : Hid (evW fs k' c body rest'.flatten s2_.tick = some r) := Lib.hid (by rw [← HCUT.out]; exact HRR.out)
          clear hM5 hO5
          go_wp2_with (fail)
          go_roundg k'
          case rel => exact ⟨_, _, _, by have := HKG.out; omega, HB5, HWN⟩
          all_goals omega
      | back u2 s2_ =>
        have HQ9 := Lib.hid (HJ2.out.out HQ1.out HQ2.out HQ6.out (fun _ _ e => by cases e) HQ.out)
        obtain ⟨sv4, _, _, ⟨qq, rfl, _⟩, _⟩ := hq
        refine hK _ _ (.inr hs4) ?_
        clear hK K
        refine tailO_step rfl (fun K hK => ?_)
        go_simp
        refine hK _ _ (.inl rfl) (tailO_nil ?_)
        clear hK K
        have hrr := HS.out
        injection hrr with hrr
        subst hrr
        go_wp2_with (fail)
        go_ret
        exact HQ9.out
      | stop en s2_ =>
        have HQ9 := Lib.hid (HJ2.out.out HQ1.out HQ2.out HQ6.out (fun _ _ e => by cases e) HQ.out)
        obtain ⟨sv4, _, _, rfl⟩ := hq
        have hrr := HS.out
        injection hrr with hrr
        subst hrr
        exact ⟨rfl, HQ9.out⟩
/-- with any gas -/
theorem iruns_all {w0 : World} {fs : List Fx} {fv : Value} {M B : Nat} (hI : Ix w0 fs fv M B) : ∀ g, GE w0 fs fv M B g ∧ GB w0 fs fv M B g := by
  intro g
  induction g using Nat.strongRecOn with
  | ind g ih =>
    have hS : ∀ g', g' < g → GS w0 fs fv M B g' := fun g' hg d x av bv ev s r w sv v segs ks hev hok hsa hz hka hkb hke hst hks hbd => by
      obtain ⟨op, name, args, body, els⟩ := x
      simp only [St.op, St.name, St.args, St.body, St.els] at hz hka hkb hke ⊢
      by_cases o6 : op = 6
      · subst o6
        exact iloop_any hI (fun q hq => (ih q (by omega)).1) (fun q hq => (ih q (by omega)).2) hev hok hsa hka hkb hke hst hks
      · exact istmt_no hI (fun q hq => (ih q (by omega)).1) (fun q hq => (ih q (by omega)).2) d op name args body els av bv ev s r w sv v segs ks o6 hev hok hsa hz hka hkb hke hst hks hbd
    have hC : ∀ g', g' ≤ g → GC w0 fs fv M B g' := fun g' hg => icall_any hI (fun q hq => (ih q (by omega)).2)
    refine ⟨?_, iblock_any hI hS⟩
    intro d x kv s r w sv v a segs ks hev hex hnz hkv hst
    obtain ⟨op, n, name, kids⟩ := x
    simp only [Ex.kids, Ex.name, Ex.op, Ex.n] at hkv hnz ⊢
    cases g with
    | zero => simp [evE] at hev
    | succ g =>
    obtain ⟨hok, hck⟩ := hex
    cases d with
    | zero => simp [exOk] at hok
    | succ d =>
    simp only [exOk, Bool.and_eq_true, decide_eq_true_eq] at hok
    simp only [chkA, Bool.and_eq_true] at hck
    obtain ⟨⟨⟨⟨⟨hop, hkn⟩, _⟩, hn⟩, _⟩, hka⟩ := hok
    obtain ⟨h13, hkc⟩ := hck
    have hexk : ∀ y ∈ kids, exA fs d y := fun y hy => ⟨List.all_eq_true.1 hka y hy, List.all_eq_true.1 hkc y hy⟩
    have hGg := (ih g (Nat.lt_succ_self g)).1
    unfold evE at hev
    by_cases o1 : op = 1
    · subst o1
      rw [if_pos rfl] at hev
      injection hev with hev
      subst hev
      obtain ⟨k, rfl⟩ : ∃ k : Nat, n = k := ⟨n.toNat, by omega⟩
      obtain ⟨ka, kc, hkf⟩ := hkv.form
      subst hkf
      exact eval_num hst k (by omega) name _ _ _
    rw [if_neg o1] at hev
    by_cases o2 : op = 2
    · subst o2
      rw [if_pos rfl] at hev
      cases hv : Env.get segs.flatten name with
      | none => rw [hv] at hev; cases hev
      | some u =>
        rw [hv] at hev
        injection hev with hev
        subst hev
        obtain ⟨ka, kc, hkf⟩ := hkv.form
        subst hkf
        exact eval_var hst n name hnz _ _ _ hv
    rw [if_neg o2] at hev
    by_cases o13 : op = 13
    · subst o13
      rw [if_pos rfl] at hev h13
      cases hL : evL fs g kids segs.flatten s with
      | none => rw [hL] at hev; cases hf : fnIx fs name <;> rw [hf] at hev <;> cases hev
      | some RL =>
      cases hf : fnIx fs name with
      | none => rw [hf] at h13; cases h13
      | some k =>
      rw [hL, hf] at hev
      refine eval_call hI (fun g' hg => (ih g' (by omega)).1) (hC g (Nat.le_succ g)) hst n name hkv hexk (by have := hkn.2; simp [kidsN] at this; exact this) hf hL (r := r) ?_ ?_
      · intro vs s1 e; subst e; exact hev
      · intro en s1 e; subst e; injection hev with hev; exact hev.symm
    rw [if_neg o13] at hev
    by_cases o11 : op = 11
    · subst o11
      have hk1 : kids.length = 1 := by simp [kidsN] at hkn; omega
      obtain ⟨x, rfl⟩ := List.length_eq_one_iff.1 hk1
      simp only [if_true] at hev
      cases hE1 : evE fs g x segs.flatten s with
      | none => rw [hE1] at hev; cases hev
      | some r1 =>
        refine eval_not hI hGg hst n name hkv (hexk x (by simp)) hE1 ?_
        rw [hE1] at hev
        cases r1 <;> (injection hev with hev <;> exact hev.symm)
    by_cases o12 : op = 12
    · subst o12
      have hk1 : kids.length = 1 := by simp [kidsN] at hkn; omega
      obtain ⟨x, rfl⟩ := List.length_eq_one_iff.1 hk1
      simp only [if_neg o11, if_true] at hev
      cases hE1 : evE fs g x segs.flatten s with
      | none => rw [hE1] at hev; cases hev
      | some r1 =>
        refine eval_at hI hGg hst n name hkv (hexk x (by simp)) hE1 ?_
        rw [hE1] at hev
        cases r1 with
        | ret v s1 =>
          simp only at hev
          unfold atR
          simp only []
          split at hev <;> rename_i h16
          · rw [if_pos h16]; injection hev
          · rw [if_neg h16]; injection hev
        | stop en s1 => injection hev with hev <;> exact hev
    have hk2 : kids.length = 2 := by simp [kidsN, o1, o2, o11, o12, o13] at hkn; omega
    obtain ⟨x, y, rfl⟩ : ∃ x y, kids = [x, y] := by
      match kids, hk2 with
      | [x, y], _ => exact ⟨x, y, rfl⟩
    simp only at hev
    by_cases o10 : op = 10
    · subst o10
      simp only [if_true] at hev
      cases hE1 : evE fs g x segs.flatten s with
      | none => rw [hE1] at hev; cases hev
      | some r1 =>
      rw [hE1] at hev
      cases r1 with
      | stop en s1 =>
        injection hev with hev
        subst hev
        exact eval_and (q := .stop en s1) hI hGg hst n name hkv (hexk x (by simp)) (hexk y (by simp)) hE1 (fun v s1 e => by cases e) (fun en s1 e => by exact e ▸ rfl) rfl
      | ret v s1 =>
        simp only at hev
        by_cases hv0 : v = 0
        · rw [if_pos hv0] at hev
          injection hev with hev
          subst hev
          exact eval_and (q := .ret 0 s1) hI hGg hst n name hkv (hexk x (by simp)) (hexk y (by simp)) hE1 (fun v' s1' e hv' => by injection e with e _; exact absurd (e ▸ hv0) hv') (fun en s1 e => by cases e) (if_pos hv0)
        · rw [if_neg hv0] at hev
          cases hE2 : evE fs g y segs.flatten s1 with
          | none => rw [hE2] at hev; cases hev
          | some q =>
            rw [hE2] at hev
            refine eval_and (q := q) hI hGg hst n name hkv (hexk x (by simp)) (hexk y (by simp)) hE1 (fun v' s1' e _ => by injection e with e1 e2; rw [← e2]; exact hE2) (fun en s1 e => by cases e) ?_
            rw [show andR (.ret v s1) q = andQ q from if_neg hv0]
            cases q <;> (injection hev with hev <;> exact hev)
    rw [if_neg o10] at hev
    have ho39 : 3 ≤ op ∧ op ≤ 9 := by omega
    rw [if_pos ho39] at hev
    obtain ⟨k, rfl⟩ : ∃ k : Nat, op = k := ⟨op.toNat, by omega⟩
    cases hE1 : evE fs g x segs.flatten s with
    | none => rw [hE1] at hev; cases hev
    | some r1 =>
    rw [hE1] at hev
    cases r1 with
    | stop en s1 =>
      injection hev with hev
      subst hev
      exact eval_two (q := .stop en s1) hI hGg hst n name hkv (by omega) (hexk x (by simp)) (hexk y (by simp)) hE1 (fun v s1 e => by cases e) (fun en s1 e => by exact e ▸ rfl) rfl
    | ret v s1 =>
      simp only at hev
      cases hE2 : evE fs g y segs.flatten s1 with
      | none => rw [hE2] at hev; cases hev
      | some q =>
        rw [hE2] at hev
        refine eval_two (q := q) hI hGg hst n name hkv (by omega) (hexk x (by simp)) (hexk y (by simp)) hE1 (fun v' s1' e => by injection e with e1 e2; rw [← e2]; exact hE2) (fun en s1 e => by cases e) ?_
        show twoQ k v q = r
        cases q with
        | stop en s2 => injection hev with hev <;> exact hev
        | ret u s2 =>
          simp only [twoN, Int.toNat_natCast] at hev
          unfold twoQ
          simp only []
          cases harn : arithN k v u with
          | none => rw [harn] at hev; injection hev with hev <;> exact hev
          | some x => rw [harn] at hev; injection hev with hev <;> exact hev
end Go.Proofs.YtpnliencahnmoaaGreatDoor

set_option linter.unusedVariables false
set_option linter.unusedSimpArgs false
set_option maxRecDepth 100000
namespace Go.Proofs.YtpnliencahnmoaaGreatDoor
open Go.RowKit
set_option maxHeartbeats 1000000 in
theorem catch_panicking (p : Addr) (x : Value) (n : Nat) (w : World) (hc : w.cell? p = some x) (hz : w.frozen? p = false) :
    CallsD Tryz.prog 116 #[.pointer (some p)] (.panicking (endChain n)) w fun e u' w' =>
      e = .returned (.tuple #[]) ∧ u' = .panicking [{ v := .iface 148 (.int .i64 (n : Int)), recovered := true }] ∧ w' = w.setCell p (.int .i64 (n : Int)) := by
  have hta : ∀ (v : Value) (w : World), (Instr.typeAssert (.iface 148 v) 20 148 true).run Tryz.prog w = .ok (.tuple #[v, .bool true]) w := fun v w => by kernel_rfl
  unfold endChain
  refine callsD_of_wpS Tryz.func116 rfl fun c₀ cs hu => ?_
  apply wpS_seq
  apply wpS_region
  simp [wpOpsS, go_sem, recoverD, hu, Tryz.ntmps116, Exit.thenS]
  refine wpS_of_wp ?_
  have ht : (#[Value.pointer (some p)] ++ ((Array.replicate 15 undef).setIfInBounds 3 (Value.iface 148 (.int .i64 (n : Int)))).setIfInBounds 0 (Value.iface 148 (.int .i64 (n : Int)))) = #[.pointer (some p), Value.iface 148 (.int .i64 (n : Int)), undef, undef, Value.iface 148 (.int .i64 (n : Int)), undef, undef, undef, undef, undef, undef, undef, undef, undef, undef, undef] := by simp [Array.replicate]
  rw [ht]
  go_wp2_with (fail)
  simp_all [bodyPostS, results, Tryz.results116]
set_option maxHeartbeats 1000000 in
theorem catch_idle (p : Addr) (w : World) :
    CallsD Tryz.prog 116 #[.pointer (some p)] .returning w fun e u' w' => e = .returned (.tuple #[]) ∧ u' = .returning ∧ w' = w := by
  refine callsD_of_wpS Tryz.func116 rfl fun c₀ cs hu => ?_
  apply wpS_seq
  apply wpS_region
  simp [wpOpsS, go_sem, recoverD, hu, Tryz.ntmps116, Exit.thenS]
  refine wpS_of_wp ?_
  have ht : (#[Value.pointer (some p)] ++ ((Array.replicate 15 undef).setIfInBounds 3 Value.nilIface).setIfInBounds 0 Value.nilIface) = #[.pointer (some p), Value.nilIface, undef, undef, Value.nilIface, undef, undef, undef, undef, undef, undef, undef, undef, undef, undef, undef] := by simp [Array.replicate]
  rw [ht]
  go_wp2_with (fail)
  cases c₀
  simp_all [bodyPostS, results, Tryz.results116]
set_option maxHeartbeats 1000000 in
theorem caught_ret (w : World) (cap : Array Value) (Q : World → Prop) (h : Calls Tryz.prog 75 cap (w.alloc (.cells #[.int .i64 0] 3)) (fun e w2 => e = .returned (.tuple #[]) ∧ Q w2))
    (hq : ∀ w2, Q w2 → w2.cell? ⟨w.heap.size, 0, none⟩ = some (.int .i64 0) ∧ w2.frozen? ⟨w.heap.size, 0, none⟩ = false) :
    Calls Tryz.prog 74 #[.func (.func 75) #[] cap] w fun e w' => e = .returned (.int .i64 0) ∧ ∃ w2, Q w2 ∧ w' = w2.setCell ⟨w.heap.size, 0, none⟩ (.int .i64 0) := by
  have hmf : ∀ (fn : Fn) (first cap : Array Value) (w : World), (Instr.makeFunc fn first cap).run Tryz.prog w = .ok (.func fn first cap) w := fun _ _ _ _ => rfl
  have HC := Lib.hid h
  have HQ := Lib.hid hq
  clear h hq
  go_enter_defers Tryz.func74, Tryz.ntmps74
  go_wp2_with (fail)
  refine HC.out.mono ?_
  rintro e w2 ⟨rfl, hq⟩
  obtain ⟨q1, q2⟩ := HQ.out w2 hq
  have HQ2 := Lib.hid hq
  clear HQ HC hq
  go_wp2_with (fail)
  refine leaves_cons (f := 116) (args := #[.pointer (some ⟨w.heap.size, 0, none⟩)]) (by simp) (by simp [go_sem]) ?_
  refine (catch_idle ⟨w.heap.size, 0, none⟩ _).mono ?_
  rintro e u' w'' ⟨rfl, rfl, rfl⟩
  simp [Leaves, settle, results, Tryz.results74, go_sem, q1]
  exact ⟨w2, HQ2.out, rfl⟩
set_option maxHeartbeats 1000000 in
theorem caught_stop (w : World) (n : Nat) (cap : Array Value) (Q : World → Prop) (h : Calls Tryz.prog 75 cap (w.alloc (.cells #[.int .i64 0] 3)) (fun e w2 => e = .panicked (endChain n) ∧ Q w2))
    (hq : ∀ w2, Q w2 → w2.cell? ⟨w.heap.size, 0, none⟩ = some (.int .i64 0) ∧ w2.frozen? ⟨w.heap.size, 0, none⟩ = false) :
    Calls Tryz.prog 74 #[.func (.func 75) #[] cap] w fun e w' => e = .returned (.int .i64 (n : Int)) ∧ ∃ w2, Q w2 ∧ w' = w2.setCell ⟨w.heap.size, 0, none⟩ (.int .i64 (n : Int)) := by
  have hmf : ∀ (fn : Fn) (first cap : Array Value) (w : World), (Instr.makeFunc fn first cap).run Tryz.prog w = .ok (.func fn first cap) w := fun _ _ _ _ => rfl
  have HC := Lib.hid h
  have HQ := Lib.hid hq
  clear h hq
  go_enter_defers Tryz.func74, Tryz.ntmps74
  go_wp2_with (fail)
  refine HC.out.mono ?_
  rintro e w2 ⟨rfl, hq⟩
  obtain ⟨q1, q2⟩ := HQ.out w2 hq
  have HQ2 := Lib.hid hq
  clear HQ HC hq
  go_wp2_with (fail)
  refine leaves_cons (f := 116) (args := #[.pointer (some ⟨w.heap.size, 0, none⟩)]) (by simp) (by simp [go_sem]) ?_
  refine (catch_panicking ⟨w.heap.size, 0, none⟩ _ n _ q1 q2).mono ?_
  rintro e u' w'' ⟨rfl, rfl, rfl⟩
  simp [Leaves, settle, results, Tryz.results74, go_sem, q1]
  exact ⟨w2, HQ2.out, rfl⟩
end Go.Proofs.YtpnliencahnmoaaGreatDoor
