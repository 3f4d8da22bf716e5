/- The program of an image, on impl's side: ReadImage. -/
import Derived.Test.YtbdbmmdnidonjaaDoorUEd
import Derived.Test.YtbdbmmdnidonjaaDoorUJw
import Derived.Test.YtbdbmmdnidonjaaDoorURe
set_option linter.unusedVariables false
set_option linter.unusedSimpArgs false
set_option maxRecDepth 100000
namespace Go.Proofs.YtbdbmmdnidonjaaDoor
open Go.RowKit
theorem secCells_at : ∀ {l : List Sec} {k : Nat} {s : Sec}, l[k]? = some s → (secCells l)[k * 4]? = some (.int .i64 (s.par : Int)) ∧ (secCells l)[k * 4 + 1]? = some (.int .i64 (s.slo : Int)) ∧ (secCells l)[k * 4 + 2]? = some (.int .i64 (s.beg : Int)) ∧ (secCells l)[k * 4 + 3]? = some (.int .i64 (s.siz : Int))
 |[], k, s, h => by simp at h
 |x :: l, 0, s, h => by
  simp at h; subst h; exact ⟨rfl, rfl, rfl, rfl⟩
 |x :: l, k + 1, s, h => by
  have ih := secCells_at (l := l) (k := k) (s := s) (by simpa using h)
  have e : ∀ j, (secCells (x :: l))[j + 4]? = (secCells l)[j]? := fun j => by simp [secCells]
  rw [show (k + 1) * 4 = k * 4 + 4 by omega, show k * 4 + 4 + 1 = k * 4 + 1 + 4 by omega, show k * 4 + 4 + 2 = k * 4 + 2 + 4 by omega, show k * 4 + 4 + 3 = k * 4 + 3 + 4 by omega, e, e, e, e]
  exact ih
theorem readI_sec {b : List Nat} (h : ¬ (headN b = true ∧ ∃ l, secF b (byteN b 2) = some (l, b.length))) : readI b = none := by
 cases hh : headN b with
 |false => exact readI_none (.inl hh)
 |true =>
  cases hi : imF b (byteN b 2) with
  |none => exact readI_none (.inr hi)
  |some r =>
   obtain ⟨l, fs, p⟩ := r
   refine readI_bad hi (fun hp => h ⟨hh, l, ?_⟩)
   rw [← hp.1]; exact (imF_sec hi).1
theorem imF_can {b : List Nat} {j : Nat} {l : List Sec} {fs : List Mf} {p : Nat} (h : imF b j = some (l, fs, p)) : ∀ f ∈ fs, CanS f ∧ ∀ x ∈ f.ins, -9223372036854775808 ≤ x.n := by
 intro f hf
 obtain ⟨h1, h2, h4⟩ := imF_sec h
 obtain ⟨i, hi⟩ := List.getElem?_of_mem hf
 have hil := idx_lt hi
 obtain ⟨f', hf', hd⟩ := h4 i (l[i]'(by omega)) (List.getElem?_eq_getElem _)
 rw [hi] at hf'
 injection hf' with hf'
 subst hf'
 obtain ⟨_, _, hc, _, _, xs, ps, hda, he⟩ := decR_some hd
 refine ⟨hc, ?_⟩
 rw [he]
 exact rsv_ge (DecTo.of hda).nonneg
set_option maxHeartbeats 8000000 in
theorem iread_any (w : World) (v : Value) (b : List Nat) (hF : Forms w) (hM : Magic w) (h : CsC w v b) (hle : b.length ≤ 1048576) :
  Calls Tryd.prog 66 #[v] w (RdP b w) := by
 obtain ⟨j0, hj, hw0, hw1, hw2⟩ := info_parts info_mf
 have HCS := Lib.hid h; have HFO := Lib.hid hF; have HMG := Lib.hid hM
 have HU8 : Hid (AllU8 b) := Lib.hid (h.1.choose_spec.choose_spec.2.1)
 obtain ⟨a, cap, rfl, _⟩ := h.2
 have HSECS := Lib.hid (fun w' h1 h2 => sections_any w' (.slice a b.length cap) b h1 h2 hle)
 obtain ⟨L, hL⟩ : ∃ L, L = b.length := ⟨_, rfl⟩
 have HNO : Hid (∀ w' (fv : Value), readI b = none → fv = .slice none 0 0 → Below w.heap.size w w' → RdP b w (.returned (.tuple #[.agg #[fv], .bool false])) w') := Lib.hid (fun w' fv hd hv hb => by
  subst hv
  exact ⟨_, [], false, rfl, (fun h => by cases h), fun _ => ⟨hd, rfl⟩, ⟨[], World.ownsRow_nil _ _ _ _, fun i f hi => by simp at hi⟩, hb⟩)
 have HYES : Hid (∀ w' (fv : Value) l fs, readI b = some (l, fs) → OwnFns w.heap.size w' fv fs → Below w.heap.size w w' → RdP b w (.returned (.tuple #[.agg #[fv], .bool true])) w') := Lib.hid (fun w' fv l fs hd ho hb =>
  ⟨fv, fs, true, rfl, fun _ => ⟨l, hd⟩, (fun h => by cases h), ho, hb⟩)
 obtain ⟨Q, hQ⟩ : ∃ Q, Q = RdP b w := ⟨_, rfl⟩
 rw [← hQ] at HNO HYES ⊢
 have HLN := Lib.hid hL
 rw [← hL] at HCS HSECS hle ⊢
 clear hQ hL hF hM h
 go_enter Tryd.func66, Tryd.ntmps66
 go_wp2_with (fail)
 generalize hwa : w.alloc _ = w1
 have hR1 : Blk w1 w.heap.size [.slice none 0 0] := by rw [← hwa]; exact Blk.new _ _ _
 have hb1 : Below w.heap.size w w1 := by rw [← hwa]; exact below1 _ _
 have hs1 : w1.heap.size = w.heap.size + 1 := by rw [← hwa]; simp
 have HB1 := Lib.hid hb1
 have HR1 := Lib.hid hR1
 clear hwa hb1 hR1
 go_at_call 68
 refine (HSECS.out w1 (HMG.out.below HB1.out) (HCS.out.below HB1.out)).mono ?_
 rintro e wz ⟨sv, l, ok, rfl, hy, hno, hb5⟩
 have HB5 := Lib.hid (HB1.out.trans (hb5.mono HB1.out.size))
 have HR5 := Lib.hid (HR1.out.below hb5)
 have HY := Lib.hid hy; have HNN := Lib.hid hno
 have r5 := c1_of HR5.out
 have rf5 := HR5.out.frozen 0
 have hs5 := hb5.size
 clear hy hno hb5 HSECS HB1 HR1
 cases ok with
 |false =>
  have HX : Hid (readI b = none) := Lib.hid (readI_sec (HNN.out rfl))
  go_wp2_with (fail)
  refine bodyPost_ret (v := .tuple #[.agg #[.slice none 0 0], .bool false]) (by simp [results, Tryd.results66, go_sem, r5]) rfl ?_
  refine HNO.out _ _ HX.out rfl ?_
  exact HB5.out.setCell (p := ⟨w.heap.size, 0, none⟩) (by simp) _
 |true =>
  obtain ⟨hh, hsf, hso⟩ := HY.out rfl
  obtain ⟨sa, sc, rfl⟩ : ∃ sa sc, sv = .slice sa l.length sc := by
   rcases hso.2 with ⟨rfl, h0⟩ | ⟨g, cap, cur, rfl, _⟩
   ·exact ⟨none, 0, by rw [h0]⟩
   ·exact ⟨_, _, rfl⟩
  have HSC : Hid (∀ k s, l[k]? = some s → ∃ g, sa = some ⟨g, 0, none⟩ ∧ wz.cell? ⟨g, k * 4, none⟩ = some (.int .i64 (s.par : Int)) ∧ wz.cell? ⟨g, k * 4 + 1, none⟩ = some (.int .i64 (s.slo : Int)) ∧ wz.cell? ⟨g, k * 4 + 2, none⟩ = some (.int .i64 (s.beg : Int)) ∧ wz.cell? ⟨g, k * 4 + 3, none⟩ = some (.int .i64 (s.siz : Int))) := Lib.hid (fun k s hk => by
   have hl := idx_lt hk
   obtain ⟨g, cap, he⟩ := own_form hso (by omega)
   injection he with e1 e2 e3
   subst e1 e3
   obtain ⟨h0, h1, h2, h3⟩ := secCells_at hk
   refine ⟨g, rfl, ?_, ?_, ?_, ?_⟩
   ·rw [hso.cellAt _ (by omega)]; exact h0
   ·rw [hso.cellAt _ (by omega)]; exact h1
   ·rw [hso.cellAt _ (by omega)]; exact h2
   ·rw [hso.cellAt _ (by omega)]; exact h3)
  obtain ⟨hlm, _, _, hin⟩ := secF_len hsf
  have hl6 : l.length < 256 := by rw [hlm]; exact HU8.out.at 2
  have HSF := Lib.hid hsf; have HH := Lib.hid hh; have HLM := Lib.hid hlm
  have HIN : Hid (∀ s ∈ l, s.beg + s.siz ≤ L) := Lib.hid (fun s hs => by rw [HLN.out]; exact (hin s hs).2)
  have H3 : Hid (3 ≤ b.length) := Lib.hid (by
   have := hh
   unfold headN at this
   simp only [Bool.and_eq_true, decide_eq_true_eq] at this
   exact this.1.1)
  obtain ⟨m, hm⟩ : ∃ m, m = l.length := ⟨_, rfl⟩
  have HM := Lib.hid hm
  rw [← hm] at hl6 ⊢
  clear hh hsf hso hlm hin HY HNN r5 rf5 hm
  go_wp2_with (fail)
  generalize hwb : wz.alloc _ = w2
  have hM2 : Blk w2 wz.heap.size [.slice none 0 0] := by rw [← hwb]; exact Blk.new _ _ _
  have hb2 : Below wz.heap.size wz w2 := by rw [← hwb]; exact below1 _ _
  have hs2 : w2.heap.size = wz.heap.size + 1 := by rw [← hwb]; simp
  have HB25 := Lib.hid hb2
  have HB2 := Lib.hid (HB5.out.trans (hb2.mono HB5.out.size))
  have HR2 := Lib.hid (HR5.out.below hb2)
  have HM2 := Lib.hid hM2
  have HS2 := Lib.hid hs2
  have HS5 : Hid (w.heap.size + 1 ≤ wz.heap.size) := Lib.hid (by omega)
  clear hwb hM2 hb2 hs2 hs5 hs1
  go_loopw [23] (fun kv wr => ∃ (fs : List Mf) (k : Nat) (fa : Option Addr) (fc : Nat), kv = .int .i64 (k : Int) ∧ k ≤ m ∧ Hid (fs.length = k) ∧ Hid (∀ (i : Nat) (s : Sec), i < k → l[i]? = some s → ∃ f, fs[i]? = some f ∧ decS b s = some f) ∧ Hid (Blk wr wz.heap.size [.slice fa k fc]) ∧ Hid (OwnFns w2.heap.size wr (.slice fa k fc) fs) ∧ Hid (Only [wz.heap.size] w2 wr)) (fun kv _ => m - (intOf kv).toNat)
  case atStart => exact ⟨[], 0, none, 0, rfl, Nat.zero_le _, Lib.hid rfl, Lib.hid (fun i s h => by omega), HM2, Lib.hid ⟨[], World.ownsRow_nil _ _ _ _, fun i f hi => by simp at hi⟩, Lib.hid (Only.refl _ _)⟩
  case round =>
   obtain ⟨fs, k, fa, fc, rfl, hkm, HFL, HFD, HMB, HOF, HON⟩ := hrel
   obtain ⟨wo, rfl⟩ : ∃ wo : World, wo = wr := ⟨_, rfl⟩
   have hs2 := HS2.out; have hs5 := HS5.out
   have HBO : Hid (Below w.heap.size w wo) := Lib.hid (Only.below HB2.out HON.out HB2.out.size (fun b hb => by have := List.mem_singleton.1 hb; omega))
   have HBO5 : Hid (Below wz.heap.size wz wo) := Lib.hid (Only.below HB25.out HON.out HB25.out.size (fun b hb => by have := List.mem_singleton.1 hb; omega))
   have HRO : Hid (Blk wo w.heap.size [.slice none 0 0]) := Lib.hid (HR2.out.same (HON.out.block _ HR2.out.lt (by simp; omega)))
   clear hs2 hs5
   by_cases hgo : k < m
   ·have k0 : (0 : Int) ≤ k := by omega
    have k1 : (k : Int) < m := by omega
    obtain ⟨s, hs⟩ : ∃ s, l[k]? = some s := ⟨_, List.getElem?_eq_getElem (by rw [← HM.out]; exact hgo)⟩
    obtain ⟨g, rfl, c0, c1, c2, c3⟩ := HSC.out k s hs
    have hsz := HIN.out s (List.mem_of_getElem? hs)
    have HSS := Lib.hid hs
    have t0 := cellB HBO5.out c0; have t1 := cellB HBO5.out c1; have t2 := cellB HBO5.out c2; have t3 := cellB HBO5.out c3
    obtain ⟨y0, y1, p, n⟩ := s
    simp only at t0 t1 t2 t3 hsz
    clear c0 c1 c2 c3 hs
    go_wp2_with (fail)
    have hbx := below1 wo (.cells #[.int .i64 (y0 : Int), .int .i64 (y1 : Int), .int .i64 (p : Int), .int .i64 (n : Int)] 87)
    have hnx : Blk (wo.alloc (.cells #[.int .i64 (y0 : Int), .int .i64 (y1 : Int), .int .i64 (p : Int), .int .i64 (n : Int)] 87)) wo.heap.size [.int .i64 (y0 : Int), .int .i64 (y1 : Int), .int .i64 (p : Int), .int .i64 (n : Int)] := Blk.new _ _ _
    have HMB2 := Lib.hid (HMB.out.below hbx)
    have HRO2 := Lib.hid (HRO.out.below hbx)
    have HOF2 := Lib.hid (HOF.out.only (Only.of_below hbx []) (by simp))
    have HON2 := Lib.hid (HON.out.trans (Only.of_below hbx _))
    have HBO2 := Lib.hid (HBO.out.trans (hbx.mono HBO.out.size))
    generalize hwd : wo.alloc _ = wd at *
    obtain ⟨q, hq⟩ : ∃ q, q = wo.heap.size := ⟨_, rfl⟩
    rw [← hq] at hnx ⊢
    have hqlt := hnx.lt
    have w0 : wd.cell? ⟨q, 0, none⟩ = some (.int .i64 (y0 : Int)) := by rw [hnx.cell]; rfl
    have w1' : wd.cell? ⟨q, 1, none⟩ = some (.int .i64 (y1 : Int)) := by rw [hnx.cell]; rfl
    have w2' : wd.cell? ⟨q, 2, none⟩ = some (.int .i64 (p : Int)) := by rw [hnx.cell]; rfl
    have w3' : wd.cell? ⟨q, 3, none⟩ = some (.int .i64 (n : Int)) := by rw [hnx.cell]; rfl
    clear hwd hbx hnx hq t0 t1 t2 t3 HMB HRO HOF HON HBO HBO5
    obtain ⟨ca, cc, hsv, hsl, _⟩ := slice_cs HCS.out (show p + n ≤ L from hsz)
    have HDE := Lib.hid (fun w' hf h => idecfn_any w' (y0 : Int) (y1 : Int) (.slice ca n cc) (cutN b p n) hf h (by rw [cutN_len (by rw [← HLN.out]; exact hsz)]; omega))
    unfold DecP at HDE
    have HDS : Hid (decS b ⟨y0, y1, p, n⟩ = decR (y0 : Int) (y1 : Int) (cutN b p n)) := Lib.hid rfl
    have HSV := Lib.hid hsv
    have s0 : IntKind.i64.wrap ((p : Int) + n) = (p : Int) + n := IntWalk.i64_in _ (by omega)
    have hsl2 : ∀ w', (Instr.slice 22 (.slice a L cap) (some (.int .i64 (p : Int))) (some (.int .i64 ((p : Int) + n))) none).run Tryd.prog w' = .ok (.slice ca n cc) w' := fun w' => hsl w' _ _ rfl (by omega)
    have hK : ∀ W, Below wd.heap.size wd W → (fun W => W.cell? ⟨q, 0, none⟩ = some (.int .i64 (y0 : Int)) ∧ W.cell? ⟨q, 1, none⟩ = some (.int .i64 (y1 : Int)) ∧ W.cell? ⟨q, 2, none⟩ = some (.int .i64 (p : Int)) ∧ W.cell? ⟨q, 3, none⟩ = some (.int .i64 (n : Int))) W := fun W h => ⟨cellB h w0, cellB h w1', cellB h w2', cellB h w3'⟩
    have hSa := hK _ (Below.refl _ _)
    have hSb := hK _ (Below.refl _ _).drew
    have hSz := hK _ ((Below.refl _ _).alloc (Nat.le_refl _) (.cells #[.int .i64 0, .int .i64 0, .slice none 0 0] 105))
    have hSf := hK _ ((Below.refl _ _).alloc (Nat.le_refl _) (.cells #[.int .i64 0, .int .i64 0, .slice none 0 0] 105)).drew
    have HK := Lib.hid hK
    have HDA := Lib.hid (HDE.out wd.drew ((HFO.out.below HBO2.out).below (Below.refl _ _).drew) (((HSV.out.below HBO2.out).below (Below.refl _ _).drew)))
    have HDB := Lib.hid (HDE.out (wd.alloc (.cells #[.int .i64 0, .int .i64 0, .slice none 0 0] 105)).drew ((HFO.out.below HBO2.out).below ((Below.refl _ _).alloc (Nat.le_refl _) (.cells #[.int .i64 0, .int .i64 0, .slice none 0 0] 105)).drew) (((HSV.out.below HBO2.out).below ((Below.refl _ _).alloc (Nat.le_refl _) (.cells #[.int .i64 0, .int .i64 0, .slice none 0 0] 105)).drew)))
    have HZB : Hid (Blk (wd.alloc (.cells #[.int .i64 0, .int .i64 0, .slice none 0 0] 105)).drew wd.heap.size [.int .i64 0, .int .i64 0, .slice none 0 0]) := Lib.hid (Blk.new wd _ _)
    clear hK w0 w1' w2' w3' hsl hsv
    go_region_held3 (fun W => W.cell? ⟨q, 0, none⟩ = some (.int .i64 (y0 : Int)) ∧ W.cell? ⟨q, 1, none⟩ = some (.int .i64 (y1 : Int)) ∧ W.cell? ⟨q, 2, none⟩ = some (.int .i64 (p : Int)) ∧ W.cell? ⟨q, 3, none⟩ = some (.int .i64 (n : Int))) (first | assumption) (first | (((with_reducible refine HDA.out.mono ?_)); rintro e w5 ⟨f, iv, ok, rfl, hy, hno, hoi, hb5⟩; obtain ⟨ia, ic, rfl⟩ := hoi.form; have hB5 := ((Below.refl wd.heap.size wd).drew.trans hb5); have hSc := HK.out w5 hB5; have hSd := HK.out _ (hB5.alloc hB5.size (.cells #[.int .i64 0, .int .i64 0, .slice none 0 0] 105)); have hSe := HK.out _ (hB5.alloc hB5.size (.cells #[.int .i64 f.params, .int .i64 f.slots, .slice ia f.ins.length ic] 105)); have HY := Lib.hid hy; have HNN := Lib.hid hno; have HX8 : Hid (∃ W8, W8 = w5.alloc (.cells #[.int .i64 f.params, .int .i64 f.slots, .slice ia f.ins.length ic] 105) ∧ Blk W8 w5.heap.size [.int .i64 f.params, .int .i64 f.slots, .slice ia f.ins.length ic] ∧ OwnIns wd.heap.size W8 (.slice ia f.ins.length ic) f.ins ∧ Below wd.heap.size wd W8) := Lib.hid ⟨_, rfl, Blk.new _ _ _, (hoi.only (Only.of_below (below1 _ _) []) (by simp)), hB5.alloc hB5.size _⟩; clear hb5 hy hno hoi hB5) | (((with_reducible refine HDB.out.mono ?_)); rintro e w5 ⟨f, iv, ok, rfl, hy, hno, hoi, hb5⟩; obtain ⟨ia, ic, rfl⟩ := hoi.form; have hB5 := (((Below.refl wd.heap.size wd).alloc (Nat.le_refl _) (.cells #[.int .i64 0, .int .i64 0, .slice none 0 0] 105)).drew.trans (hb5.mono (by simp))); have hSc := HK.out w5 hB5; have hSe := HK.out (((w5.setCell ⟨wd.heap.size, 0, none⟩ (.int .i64 f.params)).setCell ⟨wd.heap.size, 1, none⟩ (.int .i64 f.slots)).setCell ⟨wd.heap.size, 2, none⟩ (.slice ia f.ins.length ic)) (((hB5.setCell (p := ⟨wd.heap.size, 0, none⟩) (Nat.le_refl _) _).setCell (p := ⟨wd.heap.size, 1, none⟩) (Nat.le_refl _) _).setCell (p := ⟨wd.heap.size, 2, none⟩) (Nat.le_refl _) _); have hZ5 := HZB.out.below hb5; obtain ⟨v0, v1, v2⟩ := c3_of hZ5; have vf0 := hZ5.frozen 0; have vf1 := hZ5.frozen 1; have vf2 := hZ5.frozen 2; have HY := Lib.hid hy; have HNN := Lib.hid hno; have HX8 : Hid (∃ W8, W8 = ((w5.setCell ⟨wd.heap.size, 0, none⟩ (.int .i64 f.params)).setCell ⟨wd.heap.size, 1, none⟩ (.int .i64 f.slots)).setCell ⟨wd.heap.size, 2, none⟩ (.slice ia f.ins.length ic) ∧ Blk W8 wd.heap.size [.int .i64 f.params, .int .i64 f.slots, .slice ia f.ins.length ic] ∧ OwnIns wd.heap.size W8 (.slice ia f.ins.length ic) f.ins ∧ Below wd.heap.size wd W8) := Lib.hid ⟨_, rfl, ((hZ5.set 0 _).set 1 _).set 2 _, (hoi.only (((((Only.refl [wd.heap.size] w5).setCell (p := ⟨wd.heap.size, 0, none⟩) (by simp) _).setCell (p := ⟨wd.heap.size, 1, none⟩) (by simp) _).setCell (p := ⟨wd.heap.size, 2, none⟩) (by simp) _)) (by simp)).mono (by simp), (((hB5.setCell (p := ⟨wd.heap.size, 0, none⟩) (Nat.le_refl _) _).setCell (p := ⟨wd.heap.size, 1, none⟩) (Nat.le_refl _) _).setCell (p := ⟨wd.heap.size, 2, none⟩) (Nat.le_refl _) _)⟩; clear hb5 hy hno hoi hB5 hZ5))
    all_goals
     obtain ⟨W8, hW8, hB8, hO8, hb8⟩ := HX8.out
     rw [← hW8]
     have HB8 := Lib.hid (HBO2.out.trans (hb8.mono HBO2.out.size))
     have HM8 := Lib.hid (HMB2.out.below hb8)
     have HR8 := Lib.hid (HRO2.out.below hb8)
     have HN8 := Lib.hid (HON2.out.trans (Only.of_below hb8 _))
     have hsd := HON2.out.size
     have hs8 := hb8.size
     have hs22 := HS2.out
     have HI8 := Lib.hid (hO8.mono hsd)
     have HF8 := Lib.hid (HOF2.out.only (Only.of_below hb8 []) (by simp))
     have hr8 := c1_of HR8.out
     have hrf8 := HR8.out.frozen 0
     have hm8 := c1_of HM8.out
     have hmf8 := HM8.out.frozen 0
     obtain ⟨v0, v1, v2⟩ := c3_of hB8
     clear hW8 hB8 hO8 hb8 HX8 HMB2 HRO2 HON2 HOF2 HBO2 hSa hSb hSz hSf hSc hSe HK HDA HDB HZB hsl2 s0 HDE
     try clear hSd
     cases ok with
     |false =>
      have HX : Hid (readI b = none) := Lib.hid (readI_none (.inr (imF_bad HSF.out (List.mem_of_getElem? HSS.out) (by rw [HDS.out]; exact (HNN.out rfl).1))))
      go_wp2_with (fail)
      refine bodyPost_ret (v := .tuple #[.agg #[.slice none 0 0], .bool false]) (by simp [results, Tryd.results66, go_sem, hr8]) rfl ?_
      refine HNO.out _ _ HX.out rfl ?_
      exact HB8.out.setCell (p := ⟨w.heap.size, 0, none⟩) (by simp) _
     |true =>
      have HFN : Hid (∀ (i : Nat) (s : Sec), i < k + 1 → l[i]? = some s → ∃ f', (fs ++ [f])[i]? = some f' ∧ decS b s = some f') := Lib.hid (fun i s hi hl => by
       have hfl := HFL.out
       rcases Nat.lt_or_ge i k with h | h
       ·obtain ⟨f', h1, h2⟩ := HFD.out i s h hl
        exact ⟨f', by rw [List.getElem?_append_left (by omega)]; exact h1, h2⟩
       ·obtain rfl : i = k := by omega
        rw [HSS.out] at hl
        injection hl with hl
        subst hl
        exact ⟨f, by rw [List.getElem?_append_right (by omega)]; simp [hfl], by rw [HDS.out]; exact HY.out rfl⟩)
      obtain ⟨ys, hys, hxs⟩ := HF8.out
      rw [HFL.out] at hys
      have HYS := Lib.hid hys; have HXS := Lib.hid hxs
      have hk4 : k ≤ 256 := by omega
      clear hys hxs HY HNN HDS
      go_wp2_with (first | (at_builtin; refine wpList_append_own _ rfl _ _ 23 (by rfl) w2.heap.size 105 j0 _ 3 40 Tryd.underlying23 hj hw0 hw1 hw2 rfl (by decide) _ k ys (by rfl) (HYS.out.alloc _) ⟨W8.heap.size, 0, none⟩ 1 1 [.int .i64 f.params, .int .i64 f.slots, .slice ia f.ins.length ic] (by rfl) rfl (World.news_of_block (cs := #[.int .i64 f.params, .int .i64 f.slots, .slice ia f.ins.length ic]) (t := 105) (fr := (0, 0)) (heap_alloc_new W8 _)) (by simp [Value.oneCell']) (by unfold maxLen; omega) (by omega) (by simp; omega) ?_; intro v9 w9 ho9 hg9 _; obtain ⟨g9, c9, rfl⟩ := own_form ho9 (by omega); have hM9 := (HM8.out.alloc _).grown hg9 (fun e => by have := ownBlock_of HYS.out _ e; omega); have m9 := c1_of hM9; have mf9 := hM9.frozen 0; have HM9 := Lib.hid hM9; have HO9 := Lib.hid ho9; have HG9 := Lib.hid hg9; clear ho9 hg9 hM9) | fail)
      go_roundw
      case rel =>
       have hF := OwnFns.snoc (fs := fs) (w := W8.alloc (.cells #[.int .i64 f.params, .int .i64 f.slots, .slice ia f.ins.length ic] 105)) (by rw [HFL.out]; exact HYS.out.alloc _) (fun i f' hi' => by
        obtain ⟨a0, a1, iv', a2, hm⟩ := HXS.out i f' hi'
        exact ⟨a0, a1, iv', a2, hm.only ((Only.refl [] _).alloc _) (by simp)⟩) (HI8.out.only ((Only.refl [] _).alloc _) (by simp)) HG9.out (by rw [HFL.out]; exact HO9.out)
       refine ⟨fs ++ [f], k + 1, some ⟨g9, 0, none⟩, c9, by go_num, by omega, Lib.hid (by simp [HFL.out]), HFN, Lib.hid (HM9.out.set 0 _), Lib.hid ?_, Lib.hid ?_⟩
       ·exact hF.only ((Only.refl [wz.heap.size] w9).setCell (p := ⟨wz.heap.size, 0, none⟩) (by simp) _) (fun b hb => by have := List.mem_singleton.1 hb; omega)
       ·exact ((HN8.out.alloc _).grown HG9.out (fun q hq => ownBlock_of HYS.out q hq)).setCell (p := ⟨wz.heap.size, 0, none⟩) (by simp) _
      case measure => simp [intOf]; omega
   ·obtain rfl : k = m := by omega
    have hIM : imF b (byteN b 2) = some (l, fs, b.length) := imF_of HSF.out (by rw [HFL.out, HM.out]) (fun i s hi => HFD.out i s (by rw [HM.out]; exact idx_lt hi) hi)
    have HIM := Lib.hid hIM
    have HFA := Lib.hid (HOF.out.at)
    have HLEM : Hid (MfsLe fs) := Lib.hid ⟨by rw [HFL.out]; omega, fun f hf => by have := (imF_le H3.out HIM.out).2.2.2 f hf; omega⟩
    have hm0 := c1_of HMB.out
    rw [HFL.out] at *
    clear hIM
    go_wp2_with (fail)
    go_at_call 90
    refine (image_any wo _ fs (HFO.out.below HBO.out) (HMG.out.below HBO.out) HFA.out HLEM.out (fun f hf => (imF_can HIM.out f hf).2)).mono ?_
    rintro e w6 ⟨bv, bs, ok, rfl, hok, hbs, hb6⟩
    have HB6 := Lib.hid (HBO.out.trans (hb6.mono HBO.out.size))
    have HOK := Lib.hid hok; have HBS := Lib.hid hbs
    have HR6 := Lib.hid (HRO.out.below hb6)
    have HM6 := Lib.hid (HMB.out.below hb6)
    have HF6 := Lib.hid (HOF.out.only (Only.of_below hb6 []) (by simp))
    have r6 := c1_of HR6.out
    have rf6 := HR6.out.frozen 0
    have m6 := c1_of HM6.out
    clear hb6 hok hbs hm0 HMB HRO HOF HFA
    cases ok with
    |false =>
     have HX : Hid (readI b = none) := Lib.hid (readI_bad HIM.out (fun h => by have := HOK.out.2 ⟨h.2, fun f hf => (imF_can HIM.out f hf).1⟩; cases this))
     go_wp2_with (fail)
     refine bodyPost_ret (v := .tuple #[.agg #[.slice none 0 0], .bool false]) (by simp [results, Tryd.results66, go_sem, r6]) rfl ?_
     refine HNO.out _ _ HX.out rfl ?_
     exact HB6.out.setCell (p := ⟨w.heap.size, 0, none⟩) (by simp) _
    |true =>
     have HX : Hid (readI b = some (l, fs)) := Lib.hid (readI_yes HH.out HIM.out ⟨rfl, (HOK.out.1 rfl).1⟩)
     obtain ⟨hbe, hbo⟩ := HBS.out rfl
     have hbb : bs = b := by rw [hbe]; exact img_bytes HU8.out HH.out HIM.out
     subst hbb
     have HBQ := Lib.hid (beq_any w6 bv (.slice a L cap) bs bs (CsAt.of hbo HU8.out) (HCS.out.below HB6.out).1)
     rw [decide_eq_true rfl] at HBQ
     clear hbe hbo HBS
     go_wp2_with (fail)
     go_at_call 91
     refine HBQ.out.mono ?_
     rintro e _ ⟨rfl, rfl⟩
     go_wp2_with (fail)
     refine bodyPost_ret (v := .tuple #[.agg #[.slice fa k fc], .bool true]) (by simp [results, Tryd.results66, go_sem, r6]) rfl ?_
     refine HYES.out _ _ _ _ HX.out ?_ ?_
     ·exact (HF6.out.only ((Only.refl [w.heap.size] w6).setCell (p := ⟨w.heap.size, 0, none⟩) (by simp) _) (fun b hb => by have := List.mem_singleton.1 hb; have := HS2.out; have := HS5.out; omega)).mono (by have := HS2.out; have := HS5.out; omega)
     ·exact HB6.out.setCell (p := ⟨w.heap.size, 0, none⟩) (by simp) _
end Go.Proofs.YtbdbmmdnidonjaaDoor
