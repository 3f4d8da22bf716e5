/- The reference's InputsFor. The reference's ApartOn. The program's run: how it stands in memory; its small functions. -/
import Derived.Test.YtpnliencahnmoaaGreatDoorQ18
import Derived.Test.YtpnliencahnmoaaGreatDoorQ13
set_option linter.unusedVariables false
set_option linter.unusedSimpArgs false
set_option linter.unusedVariables false
set_option linter.unusedSimpArgs false
set_option maxRecDepth 100000
namespace Go.Proofs.YtpnliencahnmoaaGreatDoor
open Go.RowKit
def inp : Nat → List Nat
  | 0 => [0, 0, 0]
  | 1 => [1, 2, 3]
  | _ => [255, 16, 7]
theorem inp_len (i : Nat) : (inp i).length = 3 := by
  match i with
  | 0 => rfl
  | 1 => rfl
  | _ + 2 => rfl
theorem inp_small (i n : Nat) : Small ((inp i).take n) := fun x hx => by
  have h := List.mem_of_mem_take hx
  match i, h with
  | 0, h => simp [inp] at h; omega
  | 1, h => simp [inp] at h; omega
  | _ + 2, h => simp [inp] at h; omega
theorem info_ints : (Tryz.prog.info? 26).map (fun i => (i.zero, i.size, i.bytes)) = some (some (.slice none 0 0), 1, 24) := by kernel_rfl
/-- so many inputs lie in a row -/
structure InsAt (w : World) (B : Nat) (v : Value) (j n : Nat) (rs : List Value) : Prop where
  row : w.ownsRow B 26 1 v j rs
  each : ∀ i, i < j → ∃ rv, rs[i]? = some rv ∧ w.ownsRow B 3 1 rv n (nats ((inp i).take n)) ∧ ∀ q, rv.ownBlock = some q → v.ownBlock ≠ some q
theorem InsAt.below {w w' : World} {B : Nat} {v : Value} {j n : Nat} {rs : List Value} (h : InsAt w B v j n rs) (hb : Below w.heap.size w w') : InsAt w' B v j n rs :=
  ⟨ownsRow_below h.row hb, fun i hi => by obtain ⟨rv, h1, h2, h3⟩ := h.each i hi; exact ⟨rv, h1, ownsRow_below h2 hb, h3⟩⟩
theorem InsAt.snoc {w w2 w9 : World} {B : Nat} {v : Value} {j n : Nat} {rs : List Value} (h : InsAt w B v j n rs) (hb : Below w.heap.size w w2) {rv : Value} (hr : w2.ownsRow B 3 1 rv n (nats ((inp j).take n))) (hn : ∀ q, rv.ownBlock = some q → w.heap.size ≤ q) {o : Obj} {g c : Nat} (hg : (w2.alloc o).grownBy w9 v.ownBlock) (ha : v.ownBlock = some g ∨ g = (w2.alloc o).heap.size)
    (ho : w9.ownsRow B 26 1 (.slice (some ⟨g, 0, none⟩) (j + 1) c) (j + 1) (rs ++ [rv])) : InsAt w9 B (.slice (some ⟨g, 0, none⟩) (j + 1) c) (j + 1) n (rs ++ [rv]) := by
  have hrl : rs.length = j := by have := h.row.1; omega
  have hvl : ∀ q, v.ownBlock = some q → q < w.heap.size := fun q hq => (World.ownsRow.lt h.row q hq).2
  have hk : ∀ q, q < w2.heap.size → v.ownBlock ≠ some q → w9.heap[q]? = w2.heap[q]? := fun q h1 h2 => by rw [hg.block q (by simp; omega) (fun e => h2 e.symm), Below.heap_alloc _ _ _ h1]
  have hgn : ∀ q, q < w2.heap.size → v.ownBlock ≠ some q → g ≠ q := fun q h1 h2 e => by subst e; exact ha.elim h2 (fun e => by simp at e; omega)
  refine ⟨ho, fun i hi => ?_⟩
  rcases Nat.lt_or_ge i j with hij | hij
  · obtain ⟨rv', h1, h2, h3⟩ := h.each i hij
    have h2' := ownsRow_below h2 hb
    refine ⟨rv', by rw [List.getElem?_append_left (by omega)]; exact h1, ownsRow_same h2' (fun q hq => hk q (World.ownsRow.lt h2' q hq).2 (h3 q hq)), fun q hq e => ?_⟩
    simp [Value.ownBlock] at e
    exact hgn q (World.ownsRow.lt h2' q hq).2 (h3 q hq) e
  · obtain rfl : i = j := by omega
    have hne : ∀ q, rv.ownBlock = some q → v.ownBlock ≠ some q := fun q hq e => by have := hvl q e; have := hn q hq; omega
    refine ⟨rv, by rw [List.getElem?_append_right (by omega), hrl]; simp, ownsRow_same hr (fun q hq => hk q (World.ownsRow.lt hr q hq).2 (hne q hq)), fun q hq e => ?_⟩
    simp [Value.ownBlock] at e
    exact hgn q (World.ownsRow.lt hr q hq).2 (hne q hq) e
theorem InsAt.mono {w : World} {B C : Nat} {v : Value} {j n : Nat} {rs : List Value} (h : InsAt w B v j n rs) (hC : C ≤ B) : InsAt w C v j n rs :=
  ⟨ownsRow_mono h.row hC, fun i hi => by obtain ⟨rv, h1, h2, h3⟩ := h.each i hi; exact ⟨rv, h1, ownsRow_mono h2 hC, h3⟩⟩
theorem below_grown {B : Nat} {a w w' : World} {row : Option Nat} (h : Below B a w) (hg : w.grownBy w' row) (hB : B ≤ w.heap.size) (hr : ∀ z, row = some z → B ≤ z) : Below B a w' :=
  Only.below h (bs := row.toList) ⟨hg.os, hg.tape, hg.output, hg.size, fun k hk hn => hg.block k hk (fun e => hn (by rw [← e]; simp))⟩ hB (fun z hz => hr z (by simpa using hz))
def InsP (n : Nat) (w : World) (e : Ending) (w' : World) : Prop := ∃ v rs, e = .returned v ∧ Below w.heap.size w w' ∧ InsAt w' w.heap.size v 3 n rs
set_option maxHeartbeats 4000000 in
theorem l5Inputs_any (w : World) (n : Nat) (hn : n ≤ 3) : Calls Tryz.prog 44 #[.int .i64 (n : Int)] w (InsP n w) := by
  obtain ⟨i0, hi, hz0, hz1, hz2⟩ := info_parts info_int
  obtain ⟨j0, hj, hy0, hy1, hy2⟩ := info_parts info_ints
  go_enter Tryz.func44, Tryz.ntmps44
  go_upto_region 2 with (fail)
  have hb0 : Blk (((w.alloc (.cells #[.int .i64 0, .int .i64 0, .int .i64 0] 3)).alloc (.cells #[.int .i64 1, .int .i64 2, .int .i64 3] 3)).alloc (.cells #[.int .i64 255, .int .i64 16, .int .i64 7] 3)) w.heap.size (nats (inp 0)) := ((Blk.new w #[.int .i64 0, .int .i64 0, .int .i64 0] 3).alloc _).alloc _
  have hb1 : Blk (((w.alloc (.cells #[.int .i64 0, .int .i64 0, .int .i64 0] 3)).alloc (.cells #[.int .i64 1, .int .i64 2, .int .i64 3] 3)).alloc (.cells #[.int .i64 255, .int .i64 16, .int .i64 7] 3)) (w.heap.size + 1) (nats (inp 1)) := by
    have h := Blk.new (w.alloc (.cells #[.int .i64 0, .int .i64 0, .int .i64 0] 3)) #[.int .i64 1, .int .i64 2, .int .i64 3] 3
    rw [show (w.alloc (.cells #[.int .i64 0, .int .i64 0, .int .i64 0] 3)).heap.size = w.heap.size + 1 by simp] at h
    exact h.alloc _
  have hb2 : Blk (((w.alloc (.cells #[.int .i64 0, .int .i64 0, .int .i64 0] 3)).alloc (.cells #[.int .i64 1, .int .i64 2, .int .i64 3] 3)).alloc (.cells #[.int .i64 255, .int .i64 16, .int .i64 7] 3)) (w.heap.size + 2) (nats (inp 2)) := by
    have h := Blk.new ((w.alloc (.cells #[.int .i64 0, .int .i64 0, .int .i64 0] 3)).alloc (.cells #[.int .i64 1, .int .i64 2, .int .i64 3] 3)) #[.int .i64 255, .int .i64 16, .int .i64 7] 3
    rw [show ((w.alloc (.cells #[.int .i64 0, .int .i64 0, .int .i64 0] 3)).alloc (.cells #[.int .i64 1, .int .i64 2, .int .i64 3] 3)).heap.size = w.heap.size + 2 by simp] at h
    exact h
  have hsz : (((w.alloc (.cells #[.int .i64 0, .int .i64 0, .int .i64 0] 3)).alloc (.cells #[.int .i64 1, .int .i64 2, .int .i64 3] 3)).alloc (.cells #[.int .i64 255, .int .i64 16, .int .i64 7] 3)).heap.size = w.heap.size + 3 := by simp
  have hbb : Below w.heap.size w (((w.alloc (.cells #[.int .i64 0, .int .i64 0, .int .i64 0] 3)).alloc (.cells #[.int .i64 1, .int .i64 2, .int .i64 3] 3)).alloc (.cells #[.int .i64 255, .int .i64 16, .int .i64 7] 3)) := (((Below.refl _ w).alloc (Nat.le_refl _) _).alloc (by simp) _).alloc (by simp; omega) _
  generalize hwv : ((w.alloc (.cells #[.int .i64 0, .int .i64 0, .int .i64 0] 3)).alloc (.cells #[.int .i64 1, .int .i64 2, .int .i64 3] 3)).alloc (.cells #[.int .i64 255, .int .i64 16, .int .i64 7] 3) = wv at hb0 hb1 hb2 hsz hbb ⊢
  have hbd := Blk.new wv #[.slice (some ⟨w.heap.size, 0, none⟩) 3 3, .slice (some ⟨w.heap.size + 1, 0, none⟩) 3 3, .slice (some ⟨w.heap.size + 1 + 1, 0, none⟩) 3 3] 26
  have hbl : Below wv.heap.size wv (wv.alloc (.cells #[.slice (some ⟨w.heap.size, 0, none⟩) 3 3, .slice (some ⟨w.heap.size + 1, 0, none⟩) 3 3, .slice (some ⟨w.heap.size + 1 + 1, 0, none⟩) 3 3] 26)) := below1 _ _
  generalize hwl : World.alloc wv _ = wl at hbd hbl ⊢
  have hsl : wl.heap.size = w.heap.size + 4 := by rw [← hwl]; simp; omega
  rw [hsz] at hbd
  obtain ⟨D, hD⟩ : ∃ D, D = w.heap.size + 1 + 1 + 1 := ⟨_, rfl⟩
  rw [← hD]
  have HBD : Hid (Blk wl D [.slice (some ⟨w.heap.size, 0, none⟩) 3 3, .slice (some ⟨w.heap.size + 1, 0, none⟩) 3 3, .slice (some ⟨w.heap.size + 1 + 1, 0, none⟩) 3 3]) := Lib.hid (by rw [hD]; exact hbd)
  have HIN : Hid (∀ i, i < 3 → Blk wl (w.heap.size + i) (nats (inp i)) ∧ wl.cell? ⟨D, i, none⟩ = some (.slice (some ⟨w.heap.size + i, 0, none⟩) 3 3)) := Lib.hid (fun i hi => by
    have hi3 : i = 0 ∨ i = 1 ∨ i = 2 := by omega
    rcases hi3 with rfl | rfl | rfl
    · exact ⟨hb0.below hbl, HBD.out.cell 0⟩
    · exact ⟨hb1.below hbl, HBD.out.cell 1⟩
    · exact ⟨hb2.below hbl, HBD.out.cell 2⟩)
  have HWL : Hid (Below w.heap.size w wl) := Lib.hid (hbb.trans (hbl.mono hbb.size))
  have hDl : w.heap.size ≤ D ∧ D < wl.heap.size := by omega
  have hwle : w.heap.size ≤ wl.heap.size := by omega
  have HWV := Lib.hid hwle
  clear hwv hwl hb0 hb1 hb2 hsz hbb hbd hbl hsl hD
  go_wp2_with (fail)
  go_loopw [4, 5] (fun v i wr => ∃ (j : Nat) (rs : List Value), j ≤ 3 ∧ i = .int .i64 j ∧ Hid (InsAt wr wl.heap.size v j n rs) ∧ Hid (Below wl.heap.size wl wr)) (fun _ i _ => 3 - (intOf i).toNat)
  case atStart => exact ⟨0, [], Nat.zero_le _, rfl, Lib.hid ⟨ownLit0 wl _ _ rfl (Nat.le_refl _), fun i hi => by omega⟩, Lib.hid (below1 _ _)⟩
  case round =>
  obtain ⟨j, rs, hj3, rfl, HI, HB⟩ := hrel
  obtain ⟨va, vc, hvf⟩ := rowForm HI.out.row
  subst hvf
  by_cases hlt : j < 3
  · obtain ⟨hbj, hcj⟩ := HIN.out j hlt
    have hcj := cellB HB.out hcj
    have HBJ := Lib.hid hbj
    have k0 : (0 : Int) ≤ j := by omega
    have k1 : (j : Int) < 3 := by omega
    have hws : wl.heap.size ≤ wr.heap.size := HB.out.size
    have hDr : D < wr.heap.size := Nat.lt_of_lt_of_le hDl.2 HB.out.size
    have hjl : ((inp j).take n).length = n := by rw [List.length_take, inp_len]; omega
    have HJL := Lib.hid hjl
    have HAT : Hid (∀ ad, (some (⟨w.heap.size + j, 0, none⟩ : Addr)) = some ad → ∀ t u, (nats ((inp j).take n))[t]? = some u → (wr.alloc (.cells #[] 3)).cell? (ad.add t) = some u) := Lib.hid (fun ad had t u hu => by
      injection had with had
      subst had
      have ht : t < n := by have := idx_lt hu; rw [nats_len, HJL.out] at this; exact this
      have h1 : (nats (inp j))[t]? = some u := by
        unfold nats at hu ⊢
        rw [List.map_take, List.getElem?_take_of_lt ht] at hu
        exact hu
      have e0 : wl.cell? ⟨w.heap.size + j, t, none⟩ = some u := by rw [HBJ.out.cell]; exact h1
      have e1 := cellB (below1 wr (.cells #[] 3)) (cellB HB.out e0)
      by_cases ht0 : t = 0
      · subst ht0; simpa [Addr.add] using e1
      · simpa [Addr.add, ht0] using e1)
    clear hbj hjl
    go_wp2_with (first
      | (at_builtin; refine wpList_app _ rfl (.tmp 18) (.tmp 24) 26 (by rfl) wl.heap.size 3 i0 _ 1 8 Tryz.underlying26 hi hz0 hz1 hz2 rfl (by decide) _ 0 [] (by rfl) (ownLit0 _ _ _ rfl hws) _ n 3 (nats ((inp j).take n)) (by rfl) (by rw [nats_len, HJL.out]; omega) HAT.out (fun e => by cases e) (fun u hu => by unfold nats at hu; rw [List.mem_map] at hu; obtain ⟨_, _, rfl⟩ := hu; rfl) (by unfold maxLen; omega) (by omega) (by simp; omega) ?_; intro nv1 w3 ho hg hv; rw [Nat.zero_add, List.nil_append] at ho; have HO := Lib.hid ho; have HB3 := Lib.hid (app_below hg); have HN3 := Lib.hid (app_new hv); clear ho hg hv; obtain ⟨na, nc, hnf⟩ := rowForm HO.out; subst hnf; have hws3 : wl.heap.size ≤ w3.heap.size := Nat.le_trans hws HB3.out.size)
      | (at_builtin; refine wpList_append_lies _ rfl (.tmp 17) (.tmp 26) 50 (by rfl) wl.heap.size 26 j0 _ 1 24 Tryz.underlying50 hj hy0 hy1 hy2 rfl (by decide) _ j rs (by rfl) ((HI.out.below HB3.out).row.alloc _) ⟨w3.heap.size, 0, none⟩ 1 1 [.slice na n nc] (by rfl) rfl (World.news_of_block (heap_alloc_new _ _)) (by simp [Value.oneCell']) (by decide) (by unfold maxLen; omega) (by omega) (by simp; omega) _ rfl ?_; intro g9 c9 w9 ho9 hg9 hat9 _; have HI9 := Lib.hid (HI.out.snoc HB3.out HO.out HN3.out hg9 hat9 ho9); have HB9 : Hid (Below wl.heap.size wl w9) := Lib.hid (below_grown (HB.out.trans ((HB3.out.trans ((below1 w3 _).mono HB3.out.size)).mono HB.out.size)) hg9 (by simp; omega) (fun z hz => ownBlock_of HI.out.row z hz)); clear ho9 hg9 hat9))
    exact ⟨⟨j + 1, _, by omega, by go_num, HI9, HB9⟩, by simp [intOf]; omega⟩
  · obtain rfl : j = 3 := by omega
    go_wp2_with (fail)
    go_ret
    exact ⟨_, rs, rfl, HWL.out.trans (HB.out.mono HWL.out.size), HI.out.mono HWV.out⟩
/-- how InputsFor answers -/
def ForP (fs : List Fx) (w : World) (e : Ending) (w' : World) : Prop := ∃ v j n rs, e = .returned v ∧ Below w.heap.size w w' ∧ InsAt w' w.heap.size v j n rs ∧ (prFine isNB fs → j = 3 ∧ n ≤ 3 ∧ ∃ f, fs[fs.length - 1]? = some f ∧ n = f.params.length) ∧ (¬ prFine isNB fs → j = 0)
set_option maxHeartbeats 4000000 in
theorem specFor_any (w : World) (fs : List Fx) (v : Value) (hX : FxsAt w v fs) (hle : fxsW fs ≤ 4194304) : Calls Tryz.prog 20 #[.agg #[v]] w (ForP fs w) := by
  obtain ⟨fa, fc, hvf, hfm⟩ := hX.form
  by_cases hp : prFine isNB fs
  · have h0 := hp.1
    unfold prVal at h0
    simp only [Bool.and_eq_true, decide_eq_true_eq] at h0
    obtain ⟨k, hk⟩ : ∃ k, fs.length = k + 1 := ⟨fs.length - 1, by omega⟩
    obtain ⟨f, hf⟩ : ∃ f, fs[k]? = some f := ⟨_, List.getElem?_eq_getElem (by omega)⟩
    have hfo := List.all_eq_true.1 h0.1.2 f (List.mem_of_getElem? hf)
    simp only [fxOk, Bool.and_eq_true, decide_eq_true_eq] at hfo
    have hn3 := hfo.1.1.2
    rw [hk] at hvf hfm
    subst hvf
    obtain ⟨_, fb, fo, pv, bv, rfl, hbl, x0, x1, x2, hpv, hbv⟩ := hX.get hf
    obtain ⟨pa, pc, hpf, hpm⟩ := hpv.form
    obtain ⟨n, hn⟩ : ∃ n, n = f.params.length := ⟨_, rfl⟩
    rw [← hn] at hpf hpm hn3
    subst hpf
    have hb1 := below1 w (.cells #[.slice (some ⟨fb, fo, none⟩) (k + 1) fc] 31)
    have HFI := Lib.hid (specFine_any fs _ (.slice (some ⟨fb, fo, none⟩) (k + 1) fc) true (hX.below hb1) hle ⟨fun _ => hp, fun _ => rfl⟩)
    have HX1 := Lib.hid x1; have HB1 := Lib.hid hb1; have HP := Lib.hid hp; have HF : Hid (fs[fs.length - 1]? = some f) := Lib.hid (by rw [hk, Nat.add_sub_cancel]; exact hf)
    have HN := Lib.hid hn
    have HIN := Lib.hid (fun w' => l5Inputs_any w' n hn3)
    unfold big at hfm hpm
    have k0 : (0 : Int) ≤ k := by omega
    clear hX hle hp hk hf hbv hpv hn x0 x1 x2 hb1 h0 hfo
    go_enter Tryz.func20, Tryz.ntmps20
    go_wp2_with (fail)
    go_at_call 43
    refine HFI.out.mono ?_
    rintro e w2 ⟨rfl, hb2⟩
    have hbw := HB1.out.trans (hb2.mono HB1.out.size)
    have x1 := cellB hbw HX1.out
    have q0 : w2.cell? ⟨w.heap.size, 0, none⟩ = some (.slice (some ⟨fb, fo, none⟩) (k + 1) fc) := by
      have hq : Blk (w.alloc (.cells #[.slice (some ⟨fb, fo, none⟩) (k + 1) fc] 31)) w.heap.size [.slice (some ⟨fb, fo, none⟩) (k + 1) fc] := Blk.new _ _ _
      rw [(hq.below hb2).cell]; rfl
    have HBW := Lib.hid hbw
    clear hb2 hbw
    go_wp2_with (fail)
    go_at_call 44
    refine (HIN.out w2).mono ?_
    rintro e w3 ⟨v, rs, rfl, hb3, hI⟩
    have HI := Lib.hid hI; have HB3 := Lib.hid (HBW.out.trans (hb3.mono HBW.out.size))
    obtain ⟨va, vc, hvf⟩ := rowForm hI.row
    subst hvf
    clear hI hb3
    go_wp2_with (fail)
    go_ret
    exact ⟨_, 3, n, rs, rfl, HB3.out, HI.out.mono HBW.out.size, fun _ => ⟨rfl, hn3, f, HF.out, HN.out⟩, fun h => absurd HP.out h⟩
  · subst hvf
    have hb1 := below1 w (.cells #[.slice fa fs.length fc] 31)
    have HFI := Lib.hid (specFine_any fs _ (.slice fa fs.length fc) false (hX.below hb1) hle ⟨fun h => (by cases h), fun h => absurd h hp⟩)
    have HB1 := Lib.hid hb1; have HP := Lib.hid hp
    clear hX hle hp hb1
    go_enter Tryz.func20, Tryz.ntmps20
    go_wp2_with (fail)
    go_at_call 43
    refine HFI.out.mono ?_
    rintro e w2 ⟨rfl, hb2⟩
    have HBW := Lib.hid (HB1.out.trans (hb2.mono HB1.out.size))
    clear hb2
    go_wp2_with (fail)
    go_ret
    exact ⟨_, 0, 0, [], rfl, HBW.out.trans ((below1 w2 _).mono HBW.out.size), ⟨ownLit0 w2 _ _ rfl HBW.out.size, fun i hi => by omega⟩, fun h => absurd h HP.out, fun _ => rfl⟩
end Go.Proofs.YtpnliencahnmoaaGreatDoor

set_option linter.unusedVariables false
set_option linter.unusedSimpArgs false
set_option maxRecDepth 100000
namespace Go.Proofs.YtpnliencahnmoaaGreatDoor
open Go.RowKit
/-- two programs are apart on an input -/
def Ap1 (fa fb : List Fx) (xs : List Nat) : Prop := Fits fa xs ∧ Fits fb xs ∧ ∃ ra ga rb gb, evC fa ga (fa.length - 1) xs (startCm 400) = some ra ∧ evC fb gb (fb.length - 1) xs (startCm 400) = some rb ∧ ra.en ≠ 3 ∧ rb.en ≠ 3 ∧ ¬ Alike ra rb
/-- how many parameters the main function has -/
def mainN (fs : List Fx) : Nat := match fs[fs.length - 1]? with
  | some f => f.params.length
  | none => 0
def ApIn (fa fb : List Fx) (i : Nat) : Prop := Ap1 fa fb ((inp i).take (mainN fa))
/-- the answer: the first input on which they are apart -/
def AnsOf (fa fb : List Fx) (b : Bool) (xs : List Nat) : Prop :=
  (b = true ∧ ∃ i, i < 3 ∧ (∀ k, k < i → ¬ ApIn fa fb k) ∧ ApIn fa fb i ∧ xs = (inp i).take (mainN fa)) ∨ (b = false ∧ xs = [] ∧ ∀ i, i < 3 → ¬ ApIn fa fb i)
theorem AnsOf.one {fa fb : List Fx} {b c : Bool} {xs ys : List Nat} (h : AnsOf fa fb b xs) (k : AnsOf fa fb c ys) : b = c ∧ xs = ys := by
  rcases h with ⟨rfl, i, h1, h2, h3, rfl⟩ | ⟨rfl, rfl, h1⟩ <;> rcases k with ⟨rfl, j, k1, k2, k3, rfl⟩ | ⟨rfl, rfl, k1⟩
  · rcases Nat.lt_trichotomy i j with e | e | e
    · exact absurd h3 (k2 i e)
    · subst e; exact ⟨rfl, rfl⟩
    · exact absurd k3 (h2 j e)
  · exact absurd h3 (k1 i ‹_›)
  · exact absurd k3 (h1 j ‹_›)
  · exact ⟨rfl, rfl⟩
theorem evC_one {fs : List Fx} {g g' k : Nat} {vs : List Nat} {s : Cm} {r q : Rs} (h : evC fs g k vs s = some r) (h' : evC fs g' k vs s = some q) : r = q := by
  have a := evC_le (Nat.le_max_left g g') h
  have b := evC_le (Nat.le_max_right g g') h'
  rw [a] at b
  injection b
theorem OutAt.en_eq {w : World} {B : Nat} {v0 v3 : Value} {en z : Int} {r : Rs} (h : OutAt w B (.agg #[v0, .int .i64 en, .int .i64 z, v3]) r) : en = (r.en : Int) := by
  obtain ⟨sa, sc, CB, h1, _⟩ := h
  simp only [Value.agg.injEq, Array.mk.injEq, List.cons.injEq, Value.int.injEq] at h1
  exact h1.2.1.2
/-- the answer of ApartOn -/
def ApartP (fa fb : List Fx) (w : World) (e : Ending) (w' : World) : Prop :=
  ∃ (v : Value) (b : Bool) (xs : List Nat), e = .returned (.tuple #[v, .bool b]) ∧ Below w.heap.size w w' ∧ w'.ownsRow w.heap.size 3 1 v xs.length (nats xs) ∧ AnsOf fa fb b xs
/-- a run of one program is done: its outcome lies in a block of its own -/
def OneP (fs : List Fx) (xs : List Nat) (wr : World) (X : Nat) (v0 : Value) (en z : Int) (v3 : Value) (b : Bool) (wx : World) : Prop :=
  wr.heap.size ≤ X ∧ Blk wx X [v0, .int .i64 en, .int .i64 z, v3] ∧ Below wr.heap.size wr wx ∧ (b = true ↔ Fits fs xs) ∧ (b = true → ∃ r g, evC fs g (fs.length - 1) xs (startCm 400) = some r ∧ OutAt wx wr.heap.size (.agg #[v0, .int .i64 en, .int .i64 z, v3]) r)
theorem OutAt.mono {w : World} {B C : Nat} {v : Value} {r : Rs} (h : OutAt w B v r) (hC : C ≤ B) : OutAt w C v r := by
  obtain ⟨sa, sc, CB, h1, h2, h3, h4, h5, h6⟩ := h
  exact ⟨sa, sc, CB, h1, ownsRow_mono h2 hC, h3, Nat.le_trans hC h4, h5, h6⟩
theorem oneAfter {fs : List Fx} {xs : List Nat} {wr w2 : World} {v0 v3 : Value} {en z : Int} {b : Bool} {B : Nat} (hb : Below wr.heap.size wr w2) (hB : wr.heap.size ≤ B) (hq : (b = true ↔ Fits fs xs) ∧ (b = true → ∃ r g, evC fs g (fs.length - 1) xs (startCm 400) = some r ∧ OutAt w2 B (.agg #[v0, .int .i64 en, .int .i64 z, v3]) r)) (t : TypeId) :
    OneP fs xs wr w2.heap.size v0 en z v3 b (w2.alloc (.cells #[v0, .int .i64 en, .int .i64 z, v3] t)) := by
  refine ⟨hb.size, Blk.new _ _ _, hb.trans ((below1 _ _).mono hb.size), hq.1, fun h => ?_⟩
  obtain ⟨r, g, h1, h2⟩ := hq.2 h
  exact ⟨r, g, h1, (h2.below (below1 _ _)).mono hB⟩
theorem oneBefore {fs : List Fx} {xs : List Nat} {wr w2 : World} {o : Array Value} {t : TypeId} {v0 v3 : Value} {en z : Int} {b : Bool} (ho : o.size = 4) (hb : Below (wr.alloc (.cells o t)).heap.size (wr.alloc (.cells o t)) w2) (hq : (b = true ↔ Fits fs xs) ∧ (b = true → ∃ r g, evC fs g (fs.length - 1) xs (startCm 400) = some r ∧ OutAt w2 (wr.alloc (.cells o t)).heap.size (.agg #[v0, .int .i64 en, .int .i64 z, v3]) r)) :
    OneP fs xs wr wr.heap.size v0 en z v3 b ((((w2.setCell ⟨wr.heap.size, 0, none⟩ v0).setCell ⟨wr.heap.size, 1, none⟩ (.int .i64 en)).setCell ⟨wr.heap.size, 2, none⟩ (.int .i64 z)).setCell ⟨wr.heap.size, 3, none⟩ v3) := by
  have hO : Only [wr.heap.size] w2 ((((w2.setCell ⟨wr.heap.size, 0, none⟩ v0).setCell ⟨wr.heap.size, 1, none⟩ (.int .i64 en)).setCell ⟨wr.heap.size, 2, none⟩ (.int .i64 z)).setCell ⟨wr.heap.size, 3, none⟩ v3) := ((((Only.refl _ w2).setCell (by simp) _).setCell (by simp) _).setCell (by simp) _).setCell (by simp) _
  have hb2 : Below wr.heap.size wr w2 := (below1 wr _).trans (hb.mono (by simp))
  obtain ⟨a, b', c, d, rfl⟩ : ∃ a b c d, o = #[a, b, c, d] := ⟨o[0], o[1], o[2], o[3], by
    apply Array.ext' ; rcases o with ⟨l⟩; match l, ho with
    | [_, _, _, _], _ => rfl⟩
  refine ⟨Nat.le_refl _, ?_, Only.below hb2 hO hb2.size (by simp), hq.1, fun h => ?_⟩
  · exact ((((Blk.below (Blk.new wr #[a, b', c, d] t) hb).set 0 _).set 1 _).set 2 _).set 3 _
  · obtain ⟨r, g, h1, h2⟩ := hq.2 h
    refine ⟨r, g, h1, ((h2.mono (by simp)).only hO ?_)⟩
    intro sa n cc CB e1 e2 he
    obtain ⟨sa', sc', CB', k1, k2, k3, k4, _⟩ := h2
    rw [k1] at he
    simp only [Value.agg.injEq, Array.mk.injEq, List.cons.injEq, Value.slice.injEq, Option.some.injEq, Addr.mk.injEq, and_true, true_and] at he
    obtain ⟨⟨rfl, rfl, rfl⟩, _, _, rfl⟩ := he
    refine ⟨by simp at k4; omega, fun hh => ?_⟩
    have := ownBlock_of k2 _ hh
    simp at this
    omega
theorem runForm {v : Value} {b : Bool} (hz : b = false → v = .agg #[.slice none 0 0, .int .i64 0, .int .i64 0, .slice none 0 0]) {fs : List Fx} {xs : List Nat} {w : World} {B : Nat} (ht : b = true → ∃ r g, evC fs g (fs.length - 1) xs (startCm 400) = some r ∧ OutAt w B v r) : ∃ (sa : Option Addr) (sl sc : Nat) (en z : Int) (ca : Option Addr) (cl cc : Nat), v = .agg #[.slice sa sl sc, .int .i64 en, .int .i64 z, .slice ca cl cc] := by
  cases b
  · exact ⟨none, 0, 0, 0, 0, none, 0, 0, hz rfl⟩
  · obtain ⟨r, g, _, sa, sc, CB, h, _⟩ := ht rfl
    exact ⟨_, _, _, _, _, _, _, _, h⟩
set_option maxHeartbeats 8000000 in
theorem specApart_any (w : World) (fa fb : List Fx) (va vb : Value) (hXa : FxsAt w va fa) (hXb : FxsAt w vb fb) (hla : fxsW fa ≤ 4194304) (hlb : fxsW fb ≤ 4194304) : Calls Tryz.prog 6 #[.agg #[va], .agg #[vb]] w (ApartP fa fb w) := by
  obtain ⟨aa, ac, hvf, hfm⟩ := hXa.form
  obtain ⟨ba, bc, hvg, hfn⟩ := hXb.form
  obtain ⟨la, hla2⟩ : ∃ l, l = fa.length := ⟨_, rfl⟩
  obtain ⟨lb, hlb2⟩ : ∃ l, l = fb.length := ⟨_, rfl⟩
  rw [← hla2] at hvf
  rw [← hlb2] at hvg
  subst hvf hvg
  have hb1 : Below w.heap.size w ((w.alloc (.cells #[.slice aa la ac] 31)).alloc (.cells #[.slice ba lb bc] 31)) := (below1 w _).trans ((below1 _ _).mono (by simp))
  have hbx : Blk ((w.alloc (.cells #[.slice aa la ac] 31)).alloc (.cells #[.slice ba lb bc] 31)) w.heap.size [.slice aa la ac] := (Blk.new w _ _).alloc _
  have hby := Blk.new (w.alloc (.cells #[.slice aa la ac] 31)) #[.slice ba lb bc] 31
  rw [show (w.alloc (.cells #[.slice aa la ac] 31)).heap.size = w.heap.size + 1 by simp] at hby
  have HB1 := Lib.hid hb1; have HBX := Lib.hid hbx; have HBY := Lib.hid hby; have HXA := Lib.hid hXa; have HXB := Lib.hid hXb
  have HFO := Lib.hid (specFor_any _ fa _ (hXa.below hb1) hla)
  have HRB := Lib.hid (fun w' (hb : Below w.heap.size w w') iv xs => specRun_any w' fb _ iv xs (hXb.below hb) hlb)
  have HRA := Lib.hid (fun w' (hb : Below w.heap.size w w') iv xs => specRun_any w' fa _ iv xs (hXa.below hb) hla)
  clear hXa hXb hb1 hbx hby hla hlb hla2 hlb2 hfm hfn
  go_enter Tryz.func6, Tryz.ntmps6
  go_wp2_with (fail)
  go_at_call 20
  refine HFO.out.mono ?_
  rintro e wl ⟨v, J, n, rs, rfl, hbl, hI, hJ1, hJ0⟩
  have HBL := Lib.hid (HB1.out.trans (hbl.mono HB1.out.size)); have HI := Lib.hid hI; have HJ1 := Lib.hid hJ1; have HJ0 := Lib.hid hJ0
  obtain ⟨ga, gc, hvf⟩ := rowForm hI.row
  subst hvf
  have HBXL := Lib.hid (HBX.out.below hbl); have HBYL := Lib.hid (HBY.out.below hbl)
  have hJ3 : J ≤ 3 := by
    by_cases hp : prFine isNB fa
    · rw [(hJ1 hp).1]; omega
    · rw [hJ0 hp]; omega
  clear hI hJ1 hJ0 hbl
  go_wp2_with (fail)
  go_loopw [7] (fun i wr => ∃ j : Nat, j ≤ J ∧ i = .int .i64 (j : Int) ∧ Hid (Below wl.heap.size wl wr ∧ ∀ i, i < j → ¬ Ap1 fa fb ((inp i).take n))) (fun i _ => J - (intOf i).toNat)
  case atStart => exact ⟨0, Nat.zero_le _, rfl, Lib.hid ⟨Below.refl _ _, fun i hi => by omega⟩⟩
  case round =>
  obtain ⟨j, hj, rfl, HB⟩ := hrel
  by_cases hlt : j < J
  · obtain ⟨rv, hrv, hro, _⟩ := HI.out.each j hlt
    obtain ⟨ra, rc, hrf⟩ := rowForm hro
    subst hrf
    obtain ⟨g, c', hf⟩ := own_form HI.out.row (by omega)
    injection hf with hf _ hf2
    subst hf hf2
    have hp : prFine isNB fa := Classical.byContradiction (fun h => by have := HJ0.out h; omega)
    obtain ⟨hje, hn3, f, hfl, hnl⟩ := HJ1.out hp
    have hxl : ((inp j).take n).length = n := by rw [List.length_take, inp_len]; omega
    have c0 := own_cell1 HI.out.row hlt
    rw [hrv] at c0
    have hwr := HBL.out.trans (HB.out.1.mono HBL.out.size)
    have HRUN := Lib.hid (fun w' (hb : Below wr.heap.size wr w') => HRA.out w' (hwr.trans (hb.mono hwr.size)) (.slice ra n rc) ((inp j).take n) (by rw [hxl]; exact ownsRow_mono (ownsRow_below hro (HB.out.1.trans (hb.mono HB.out.1.size))) (Nat.zero_le _)) (inp_small j n) (by omega))
    have HRUN2 := Lib.hid (fun w' (hb : Below wr.heap.size wr w') => HRB.out w' (hwr.trans (hb.mono hwr.size)) (.slice ra n rc) ((inp j).take n) (by rw [hxl]; exact ownsRow_mono (ownsRow_below hro (HB.out.1.trans (hb.mono HB.out.1.size))) (Nat.zero_le _)) (inp_small j n) (by omega))
    have c0 := cellB HB.out.1 c0
    have x0 : wr.cell? ⟨w.heap.size, 0, none⟩ = some (.slice aa la ac) := by rw [(HBXL.out.below HB.out.1).cell]; rfl
    have y0 : wr.cell? ⟨w.heap.size + 1, 0, none⟩ = some (.slice ba lb bc) := by rw [(HBYL.out.below HB.out.1).cell]; rfl
    have k0 : (0 : Int) ≤ j := by omega
    have k1 : (j : Int) < J := by omega
    have hkq : ∀ W, Below wr.heap.size wr W → (fun W : World => Below wr.heap.size wr W ∧ W.cell? ⟨w.heap.size, 0, none⟩ = some (.slice aa la ac) ∧ W.cell? ⟨g, j, none⟩ = some (.slice ra n rc)) W := fun W hb => ⟨hb, cellB hb x0, cellB hb c0⟩
    have hs1 : (fun W : World => Below wr.heap.size wr W ∧ W.cell? ⟨w.heap.size, 0, none⟩ = some (.slice aa la ac) ∧ W.cell? ⟨g, j, none⟩ = some (.slice ra n rc)) wr := hkq _ (Below.refl _ _)
    have hs2 : (fun W : World => Below wr.heap.size wr W ∧ W.cell? ⟨w.heap.size, 0, none⟩ = some (.slice aa la ac) ∧ W.cell? ⟨g, j, none⟩ = some (.slice ra n rc)) wr.drew := hkq _ (Below.refl _ _).drew
    have HKQ := Lib.hid hkq
    have HPF := Lib.hid hp
    have HMN : Hid (mainN fa = n) := Lib.hid (by unfold mainN; rw [hfl]; exact hnl.symm)
    have HROW : Hid (∀ W, Below wl.heap.size wl W → W.ownsRow w.heap.size 3 1 (.slice ra n rc) ((inp j).take n).length (nats ((inp j).take n))) := Lib.hid (fun W hb => by rw [hxl]; exact ownsRow_mono (ownsRow_below hro hb) (by simp; omega))
    clear hkq hro hrv hxl hwr hp hfl hnl hje
    go_upto_region 5 with (fail)
    go_cut [8, 9] from 17 to 28 (fun c b wx => ∃ (X : Nat) (sa : Option Addr) (sl sc : Nat) (en z : Int) (ca : Option Addr) (cl cc : Nat) (b1 : Bool), c = .pointer (some ⟨X, 0, none⟩) ∧ b = .bool b1 ∧ Hid (OneP fa ((inp j).take n) wr X (.slice sa sl sc) en z (.slice ca cl cc) b1 wx))
    case first =>
      go_region_held3 (fun W : World => Below wr.heap.size wr W ∧ W.cell? ⟨w.heap.size, 0, none⟩ = some (.slice aa la ac) ∧ W.cell? ⟨g, j, none⟩ = some (.slice ra n rc)) (first | assumption | exact HKQ.out _ ((And.left (by assumption : (fun W : World => Below wr.heap.size wr W ∧ W.cell? ⟨w.heap.size, 0, none⟩ = some (.slice aa la ac) ∧ W.cell? ⟨g, j, none⟩ = some (.slice ra n rc)) _)).trans ((below1 _ _).mono (And.left (by assumption : (fun W : World => Below wr.heap.size wr W ∧ W.cell? ⟨w.heap.size, 0, none⟩ = some (.slice aa la ac) ∧ W.cell? ⟨g, j, none⟩ = some (.slice ra n rc)) _)).size)) | exact HKQ.out _ (((((And.left (by assumption : (fun W : World => Below wr.heap.size wr W ∧ W.cell? ⟨w.heap.size, 0, none⟩ = some (.slice aa la ac) ∧ W.cell? ⟨g, j, none⟩ = some (.slice ra n rc)) _)).setCell (by first | exact Nat.le_refl _ | exact (And.left (by assumption : (fun W : World => Below wr.heap.size wr W ∧ W.cell? ⟨w.heap.size, 0, none⟩ = some (.slice aa la ac) ∧ W.cell? ⟨g, j, none⟩ = some (.slice ra n rc)) _)).size) _).setCell (by first | exact Nat.le_refl _ | exact (And.left (by assumption : (fun W : World => Below wr.heap.size wr W ∧ W.cell? ⟨w.heap.size, 0, none⟩ = some (.slice aa la ac) ∧ W.cell? ⟨g, j, none⟩ = some (.slice ra n rc)) _)).size) _).setCell (by first | exact Nat.le_refl _ | exact (And.left (by assumption : (fun W : World => Below wr.heap.size wr W ∧ W.cell? ⟨w.heap.size, 0, none⟩ = some (.slice aa la ac) ∧ W.cell? ⟨g, j, none⟩ = some (.slice ra n rc)) _)).size) _).setCell (by first | exact Nat.le_refl _ | exact (And.left (by assumption : (fun W : World => Below wr.heap.size wr W ∧ W.cell? ⟨w.heap.size, 0, none⟩ = some (.slice aa la ac) ∧ W.cell? ⟨g, j, none⟩ = some (.slice ra n rc)) _)).size) _)) ((go_at_call 21; refine (HRUN.out _ (And.left (by assumption : (fun W : World => Below wr.heap.size wr W ∧ W.cell? ⟨w.heap.size, 0, none⟩ = some (.slice aa la ac) ∧ W.cell? ⟨g, j, none⟩ = some (.slice ra n rc)) _))).mono ?_; rintro e w2 ⟨v2, b2, rfl, hb2, hq2, hz2, ht2⟩; obtain ⟨o1, o2, o3, o4, o5, o6, o7, o8, hvf⟩ := runForm hz2 ht2; subst hvf; have HRB := Lib.hid hb2; have HRA := Lib.hid (And.intro hq2 ht2); have hs3 : (fun W : World => Below wr.heap.size wr W ∧ W.cell? ⟨w.heap.size, 0, none⟩ = some (.slice aa la ac) ∧ W.cell? ⟨g, j, none⟩ = some (.slice ra n rc)) w2 := HKQ.out _ ((And.left (by assumption : (fun W : World => Below wr.heap.size wr W ∧ W.cell? ⟨w.heap.size, 0, none⟩ = some (.slice aa la ac) ∧ W.cell? ⟨g, j, none⟩ = some (.slice ra n rc)) _)).trans (hb2.mono (And.left (by assumption : (fun W : World => Below wr.heap.size wr W ∧ W.cell? ⟨w.heap.size, 0, none⟩ = some (.slice aa la ac) ∧ W.cell? ⟨g, j, none⟩ = some (.slice ra n rc)) _)).size)); obtain ⟨hcc, hff⟩ := bcell hb2; clear hb2 hq2 hz2 ht2))

      · go_wp2_with (fail)
        go_meet
        case rel => exact ⟨_, _, _, _, _, _, _, _, _, _, rfl, rfl, Lib.hid (oneAfter hs3.1 (Nat.le_refl _) HRA.out _)⟩
      · go_wp2_with (fail)
        go_meet
        case rel => exact ⟨_, _, _, _, _, _, _, _, _, _, rfl, rfl, Lib.hid (oneBefore rfl ((Below.refl _ _).drew.trans HRB.out) HRA.out)⟩
    case rest =>
      obtain ⟨X, sa, sl, sc, en, z, ca, cl, cc, b1, rfl, rfl, HO1⟩ := hcut
      obtain ⟨wk, rfl⟩ : ∃ wk : World, wk = wc := ⟨_, rfl⟩
      have HBC : Hid (Below wr.heap.size wr wk) := Lib.hid HO1.out.2.2.1
      have y1 := cellB HBC.out y0
      have c1 := cellB HBC.out c0
      have HRUN3 := Lib.hid (fun w' (hb : Below wk.heap.size wk w') => HRUN2.out w' (HBC.out.trans (hb.mono HBC.out.size)))
      have hkq2 : ∀ W, Below wk.heap.size wk W → (fun W : World => Below wk.heap.size wk W ∧ W.cell? ⟨(w.heap.size + 1), 0, none⟩ = some (.slice ba lb bc) ∧ W.cell? ⟨g, j, none⟩ = some (.slice ra n rc)) W := fun W hb => ⟨hb, cellB hb y1, cellB hb c1⟩
      have hs11 : (fun W : World => Below wk.heap.size wk W ∧ W.cell? ⟨(w.heap.size + 1), 0, none⟩ = some (.slice ba lb bc) ∧ W.cell? ⟨g, j, none⟩ = some (.slice ra n rc)) wk := hkq2 _ (Below.refl _ _)
      have hs12 : (fun W : World => Below wk.heap.size wk W ∧ W.cell? ⟨(w.heap.size + 1), 0, none⟩ = some (.slice ba lb bc) ∧ W.cell? ⟨g, j, none⟩ = some (.slice ra n rc)) wk.drew := hkq2 _ (Below.refl _ _).drew
      have HKQ2 := Lib.hid hkq2
      clear hkq2 hs1 hs2 HKQ HRUN HRUN2 x0 y0 c0
      go_upto_region 6 with (fail)
      go_cut [10, 11] from 29 to 37 (fun c b wx => ∃ (X : Nat) (sa : Option Addr) (sl sc : Nat) (en z : Int) (ca : Option Addr) (cl cc : Nat) (b1 : Bool), c = .pointer (some ⟨X, 0, none⟩) ∧ b = .bool b1 ∧ Hid (OneP fb ((inp j).take n) wk X (.slice sa sl sc) en z (.slice ca cl cc) b1 wx))
      case first =>
        go_region_held3 (fun W : World => Below wk.heap.size wk W ∧ W.cell? ⟨(w.heap.size + 1), 0, none⟩ = some (.slice ba lb bc) ∧ W.cell? ⟨g, j, none⟩ = some (.slice ra n rc)) (first | assumption | exact HKQ2.out _ ((And.left (by assumption : (fun W : World => Below wk.heap.size wk W ∧ W.cell? ⟨(w.heap.size + 1), 0, none⟩ = some (.slice ba lb bc) ∧ W.cell? ⟨g, j, none⟩ = some (.slice ra n rc)) _)).trans ((below1 _ _).mono (And.left (by assumption : (fun W : World => Below wk.heap.size wk W ∧ W.cell? ⟨(w.heap.size + 1), 0, none⟩ = some (.slice ba lb bc) ∧ W.cell? ⟨g, j, none⟩ = some (.slice ra n rc)) _)).size)) | exact HKQ2.out _ (((((And.left (by assumption : (fun W : World => Below wk.heap.size wk W ∧ W.cell? ⟨(w.heap.size + 1), 0, none⟩ = some (.slice ba lb bc) ∧ W.cell? ⟨g, j, none⟩ = some (.slice ra n rc)) _)).setCell (by first | exact Nat.le_refl _ | exact (And.left (by assumption : (fun W : World => Below wk.heap.size wk W ∧ W.cell? ⟨(w.heap.size + 1), 0, none⟩ = some (.slice ba lb bc) ∧ W.cell? ⟨g, j, none⟩ = some (.slice ra n rc)) _)).size) _).setCell (by first | exact Nat.le_refl _ | exact (And.left (by assumption : (fun W : World => Below wk.heap.size wk W ∧ W.cell? ⟨(w.heap.size + 1), 0, none⟩ = some (.slice ba lb bc) ∧ W.cell? ⟨g, j, none⟩ = some (.slice ra n rc)) _)).size) _).setCell (by first | exact Nat.le_refl _ | exact (And.left (by assumption : (fun W : World => Below wk.heap.size wk W ∧ W.cell? ⟨(w.heap.size + 1), 0, none⟩ = some (.slice ba lb bc) ∧ W.cell? ⟨g, j, none⟩ = some (.slice ra n rc)) _)).size) _).setCell (by first | exact Nat.le_refl _ | exact (And.left (by assumption : (fun W : World => Below wk.heap.size wk W ∧ W.cell? ⟨(w.heap.size + 1), 0, none⟩ = some (.slice ba lb bc) ∧ W.cell? ⟨g, j, none⟩ = some (.slice ra n rc)) _)).size) _)) ((go_at_call 21; refine (HRUN3.out _ (And.left (by assumption : (fun W : World => Below wk.heap.size wk W ∧ W.cell? ⟨(w.heap.size + 1), 0, none⟩ = some (.slice ba lb bc) ∧ W.cell? ⟨g, j, none⟩ = some (.slice ra n rc)) _))).mono ?_; rintro e w2 ⟨v2, b2, rfl, hb2, hq2, hz2, ht2⟩; obtain ⟨o1, o2, o3, o4, o5, o6, o7, o8, hvf⟩ := runForm hz2 ht2; subst hvf; have HRB := Lib.hid hb2; have HRA := Lib.hid (And.intro hq2 ht2); have hs3 : (fun W : World => Below wk.heap.size wk W ∧ W.cell? ⟨(w.heap.size + 1), 0, none⟩ = some (.slice ba lb bc) ∧ W.cell? ⟨g, j, none⟩ = some (.slice ra n rc)) w2 := HKQ2.out _ ((And.left (by assumption : (fun W : World => Below wk.heap.size wk W ∧ W.cell? ⟨(w.heap.size + 1), 0, none⟩ = some (.slice ba lb bc) ∧ W.cell? ⟨g, j, none⟩ = some (.slice ra n rc)) _)).trans (hb2.mono (And.left (by assumption : (fun W : World => Below wk.heap.size wk W ∧ W.cell? ⟨(w.heap.size + 1), 0, none⟩ = some (.slice ba lb bc) ∧ W.cell? ⟨g, j, none⟩ = some (.slice ra n rc)) _)).size)); obtain ⟨hcc, hff⟩ := bcell hb2; clear hb2 hq2 hz2 ht2))

        · go_wp2_with (fail)
          go_meet
          case rel => exact ⟨_, _, _, _, _, _, _, _, _, _, rfl, rfl, Lib.hid (oneAfter hs3.1 (Nat.le_refl _) HRA.out _)⟩
        · go_wp2_with (fail)
          go_meet
          case rel => exact ⟨_, _, _, _, _, _, _, _, _, _, rfl, rfl, Lib.hid (oneBefore rfl ((Below.refl _ _).drew.trans HRB.out) HRA.out)⟩
      case rest =>
        obtain ⟨Y, sb, tl, tc, en2, z2, cb, dl, dc, b2, rfl, rfl, HO2⟩ := hcut
        have HBD : Hid (Below wk.heap.size wk wc) := Lib.hid HO2.out.2.2.1
        have HBT : Hid (Below wr.heap.size wr wc) := Lib.hid (HBC.out.trans (HBD.out.mono HBC.out.size))
        have HLB : Hid (Below wl.heap.size wl wc) := Lib.hid (HB.out.1.trans (HBT.out.mono HB.out.1.size))
        have HNO : Hid (∀ i, i < j → ¬ Ap1 fa fb ((inp i).take n)) := Lib.hid HB.out.2
        have c2 := cellB HBD.out c1
        obtain ⟨p0, p1, p2, p3⟩ := blkc4 (HO1.out.2.1.below HBD.out)
        obtain ⟨q0, q1, q2, q3⟩ := blkc4 HO2.out.2.1
        clear hs11 hs12 HKQ2 HRUN3 y1 c1
        have HGO : Hid (¬ Ap1 fa fb ((inp j).take n) → ∀ i, i < j + 1 → ¬ Ap1 fa fb ((inp i).take n)) := Lib.hid (fun h i hi => by
          rcases Nat.lt_or_ge i j with e | e
          · exact HNO.out i e
          · obtain rfl : i = j := by omega
            exact h)
        cases b1
        · have HNA : Hid (¬ Ap1 fa fb ((inp j).take n)) := Lib.hid (fun h => by have := HO1.out.2.2.2.1.2 h.1; cases this)
          go_wp2_with (fail)
          go_roundw
          case rel => exact ⟨j + 1, by omega, by go_num, Lib.hid ⟨HLB.out, HGO.out HNA.out⟩⟩
          case measure => simp [intOf]; omega
        · cases b2
          · have HNA : Hid (¬ Ap1 fa fb ((inp j).take n)) := Lib.hid (fun h => by have := HO2.out.2.2.2.1.2 h.2.1; cases this)
            go_wp2_with (fail)
            go_roundw
            case rel => exact ⟨j + 1, by omega, by go_num, Lib.hid ⟨HLB.out, HGO.out HNA.out⟩⟩
            case measure => simp [intOf]; omega
          · obtain ⟨r, gr, hev, hout⟩ := HO1.out.2.2.2.2 rfl
            obtain ⟨q, gq, hev2, hout2⟩ := HO2.out.2.2.2.2 rfl
            have HE1 := Lib.hid hev; have HE2 := Lib.hid hev2
            have HU1 := Lib.hid (hout.below HBD.out); have HU2 := Lib.hid hout2
            obtain rfl := hout.en_eq
            obtain rfl := hout2.en_eq
            clear hev hev2 hout hout2
            by_cases e1 : r.en = 3
            · have HNA : Hid (¬ Ap1 fa fb ((inp j).take n)) := Lib.hid (fun h => by
                obtain ⟨_, _, ra', ga', rb', gb', h1, h2, h3, h4, h5⟩ := h
                obtain rfl := evC_one HE1.out h1
                exact h3 e1)
              have e3 : ((r.en : Int) != 3) = false := by rw [e1]; rfl
              have e4 : decide ((r.en : Int) = 3) = true := by rw [e1]; rfl
              have e5 : ((r.en : Int) == 3) = true := by rw [e1]; rfl
              have e6 : (r.en : Int) = 3 := by rw [e1]; rfl
              clear e1
              go_wp2_with (fail)
              go_roundw
              case rel => exact ⟨j + 1, by omega, by go_num, Lib.hid ⟨HLB.out, HGO.out HNA.out⟩⟩
              case measure => simp [intOf]; omega
            · have e3 : ((r.en : Int) != 3) = true := by simp; omega
              have e4 : ¬ (r.en : Int) = 3 := by omega
              by_cases e2 : q.en = 3
              · have HNA : Hid (¬ Ap1 fa fb ((inp j).take n)) := Lib.hid (fun h => by
                  obtain ⟨_, _, ra', ga', rb', gb', h1, h2, h3, h4, h5⟩ := h
                  obtain rfl := evC_one HE2.out h2
                  exact h4 e2)
                have f3 : ((q.en : Int) != 3) = false := by rw [e2]; rfl
                have f6 : (q.en : Int) = 3 := by rw [e2]; rfl
                clear e1 e2
                go_wp2_with (fail)
                go_roundw
                case rel => exact ⟨j + 1, by omega, by go_num, Lib.hid ⟨HLB.out, HGO.out HNA.out⟩⟩
                case measure => simp [intOf]; omega
              · have f3 : ((q.en : Int) != 3) = true := by simp; omega
                have f4 : ¬ (q.en : Int) = 3 := by omega
                have HNE := Lib.hid (And.intro e1 e2)
                obtain ⟨p, hp⟩ : ∃ p, p = decide (Alike r q) := ⟨_, rfl⟩
                have HSM := Lib.hid (specSame_any wc _ _ _ _ r q HU1.out HU2.out)
                rw [← hp] at HSM
                have HP := Lib.hid hp
                clear e1 e2 hp
                go_wp2_with (fail)
                go_at_call 22
                refine HSM.out.mono ?_
                rintro e w5 ⟨rfl, hb5⟩
                have HB5 := Lib.hid hb5
                have HL5 : Hid (Below wl.heap.size wl w5) := Lib.hid (HLB.out.trans (hb5.mono HLB.out.size))
                have c5 := cellB hb5 c2
                clear hb5
                cases p
                · have hal : ¬ Alike r q := of_decide_eq_false HP.out.symm
                  have HYE : Hid (Ap1 fa fb ((inp j).take n)) := Lib.hid (by
                    exact ⟨HO1.out.2.2.2.1.1 rfl, HO2.out.2.2.2.1.1 rfl, r, gr, q, gq, HE1.out, HE2.out, HNE.out.1, HNE.out.2, hal⟩)
                  clear hal
                  go_wp2_with (fail)
                  refine bodyPost_ret (v := .tuple #[.slice ra n rc, .bool true]) (by simp [results, Tryz.results6, go_sem]) rfl ?_
                  exact ⟨_, true, (inp j).take n, rfl, HBL.out.trans (HL5.out.mono HBL.out.size), HROW.out w5 HL5.out, .inl ⟨rfl, j, by rw [← HJ1.out HPF.out |>.1]; exact hlt, fun k hk h => HNO.out k hk (by unfold ApIn at h; rw [HMN.out] at h; exact h), by unfold ApIn; rw [HMN.out]; exact HYE.out, by rw [HMN.out]⟩⟩
                · have hal : Alike r q := of_decide_eq_true HP.out.symm
                  have HNA : Hid (¬ Ap1 fa fb ((inp j).take n)) := Lib.hid (fun h => by
                    obtain ⟨_, _, ra', ga', rb', gb', h1, h2, h3, h4, h5⟩ := h
                    obtain rfl := evC_one HE1.out h1
                    obtain rfl := evC_one HE2.out h2
                    exact h5 hal)
                  clear hal
                  go_wp2_with (fail)
                  go_roundw
                  case rel => exact ⟨j + 1, by omega, by go_num, Lib.hid ⟨HL5.out, HGO.out HNA.out⟩⟩
                  case measure => simp [intOf]; omega
  · obtain rfl : j = J := by omega
    have HNX : Hid (∀ i, i < 3 → ¬ ApIn fa fb i) := Lib.hid (fun i hi h => by
      have hp : prFine isNB fa := h.1.1
      obtain ⟨rfl, hn3, f, hfl, hnl⟩ := HJ1.out hp
      have hmn : mainN fa = n := by unfold mainN; rw [hfl]; exact hnl.symm
      unfold ApIn at h
      rw [hmn] at h
      exact HB.out.2 i hi h)
    have hle : w.heap.size ≤ wr.heap.size := Nat.le_trans HBL.out.size HB.out.1.size
    have HLE := Lib.hid hle
    clear hle
    go_wp2_with (fail)
    refine bodyPost_ret (v := .tuple #[.slice (some ⟨wr.heap.size, 0, none⟩) 0 0, .bool false]) (by simp [results, Tryz.results6, go_sem]) rfl ?_
    exact ⟨_, false, [], rfl, (HBL.out.trans (HB.out.1.mono HBL.out.size)).trans ((below1 wr _).mono HLE.out), ownLit0 wr _ _ rfl HLE.out, .inr ⟨rfl, rfl, HNX.out⟩⟩
end Go.Proofs.YtpnliencahnmoaaGreatDoor

set_option linter.unusedVariables false
set_option linter.unusedSimpArgs false
set_option maxRecDepth 100000
namespace Go.Proofs.YtpnliencahnmoaaGreatDoor
open Go.RowKit
/-- the panic that ends a run -/
def endChain (n : Nat) : List PanicEntry := [{ v := .iface 148 (.int .i64 (n : Int)), recovered := false }]
set_option maxHeartbeats 1000000 in
theorem stop_any (w : World) (n : Nat) : Calls Tryz.prog 181 #[.int .i64 (n : Int)] w fun e w' => e = .panicked (endChain n) ∧ w = w' := by
  go_enter Tryz.func181, Tryz.ntmps181
  go_wp2_with (fail)
  exact ⟨rfl, rfl, rfl⟩
set_option maxHeartbeats 1000000 in
theorem truth_any (w : World) (p : Bool) : Calls Tryz.prog 178 #[.bool p] w fun e w' => e = .returned (.int .i64 ((if p then 1 else 0 : Nat) : Int)) ∧ w = w' := by
  cases p
  · go_enter Tryz.func178, Tryz.ntmps178
    go_wp2_with (fail)
    go_ret
    exact ⟨rfl, rfl⟩
  · go_enter Tryz.func178, Tryz.ntmps178
    go_wp2_with (fail)
    go_ret
    exact ⟨rfl, rfl⟩
theorem truth_named (w : World) (p : Bool) (v : Nat) (hv : v = if p then 1 else 0) : Calls Tryz.prog 178 #[.bool p] w fun e w' => e = .returned (.int .i64 (v : Int)) ∧ w = w' := by
  rw [hv]; exact truth_any w p
def arithV (op a b : Nat) : Value :=
  match arithN op a b with
  | some v => .tuple #[.int .i64 (v : Int), .bool true]
  | none => .tuple #[.int .i64 0, .bool false]
set_option maxHeartbeats 2000000 in
theorem arith_any (w : World) (op a b : Nat) (h1 : 3 ≤ op) (h2 : op ≤ 9) (ha : a < 256) (hb : b < 256) :
    Calls Tryz.prog 142 #[.int .i64 (op : Int), .int .i64 (a : Int), .int .i64 (b : Int)] w fun e w' => e = .returned (arithV op a b) ∧ w = w' := by
  have HT := Lib.hid (fun w' p v hv => truth_named w' p v hv)
  have hc : op = 3 ∨ op = 4 ∨ op = 5 ∨ op = 6 ∨ op = 7 ∨ op = 8 ∨ op = 9 := by omega
  rcases hc with rfl | rfl | rfl | rfl | rfl | rfl | rfl
  · go_enter Tryz.func142, Tryz.ntmps142
    go_wp2_with (fail)
    refine bodyPost_ret (v := .tuple #[.int .i64 (((a + b) % 256 : Nat) : Int), .bool true]) (by simp [results, Tryz.results142, go_sem]) rfl ⟨?_, rfl⟩
    rfl
  · go_enter Tryz.func142, Tryz.ntmps142
    go_wp2_with (fail)
    refine bodyPost_ret (v := .tuple #[.int .i64 (((a + 256 - b) % 256 : Nat) : Int), .bool true]) (by simp [results, Tryz.results142, go_sem]; omega) rfl ⟨?_, rfl⟩
    rfl
  · have hp0 : (0 : Int) ≤ (a : Int) * b := Int.mul_nonneg (by omega) (by omega)
    have hp1 : (a : Int) * b < 65536 := by
      have h := Nat.mul_lt_mul'' ha hb
      have h2 : ((a * b : Nat) : Int) < ((256 * 256 : Nat) : Int) := by exact_mod_cast h
      rw [Int.natCast_mul] at h2
      exact h2
    go_enter Tryz.func142, Tryz.ntmps142
    go_wp2_with (fail)
    refine bodyPost_ret (v := .tuple #[.int .i64 ((a * b % 256 : Nat) : Int), .bool true]) (by simp [results, Tryz.results142, go_sem]) rfl ⟨?_, rfl⟩
    rfl
  · by_cases hb0 : b = 0
    · subst hb0
      go_enter Tryz.func142, Tryz.ntmps142
      go_wp2_with (fail)
      refine bodyPost_ret (v := .tuple #[.int .i64 0, .bool false]) (by simp [results, Tryz.results142, go_sem]) rfl ⟨?_, rfl⟩
      rfl
    · have hbi : ¬ (b : Int) = 0 := by omega
      have hq0 : (0 : Int) ≤ (a : Int) / b := Int.ediv_nonneg (by omega) (by omega)
      have hq1 : (a : Int) / b < 256 := by
        have h := Nat.div_le_self a b
        have h2 : ((a / b : Nat) : Int) ≤ (a : Int) := by exact_mod_cast h
        rw [Int.natCast_ediv] at h2
        omega
      go_enter Tryz.func142, Tryz.ntmps142
      go_wp2_with (fail)
      refine bodyPost_ret (v := .tuple #[.int .i64 ((a / b : Nat) : Int), .bool true]) (by simp [results, Tryz.results142, go_sem]) rfl ⟨?_, rfl⟩
      simp [arithV, arithN, hb0]
  · by_cases hb0 : b = 0
    · subst hb0
      go_enter Tryz.func142, Tryz.ntmps142
      go_wp2_with (fail)
      refine bodyPost_ret (v := .tuple #[.int .i64 0, .bool false]) (by simp [results, Tryz.results142, go_sem]) rfl ⟨?_, rfl⟩
      rfl
    · have hbi : ¬ (b : Int) = 0 := by omega
      go_enter Tryz.func142, Tryz.ntmps142
      go_wp2_with (fail)
      refine bodyPost_ret (v := .tuple #[.int .i64 ((a % b : Nat) : Int), .bool true]) (by simp [results, Tryz.results142, go_sem]) rfl ⟨?_, rfl⟩
      simp [arithV, arithN, hb0]
  · go_enter Tryz.func142, Tryz.ntmps142
    go_wp2_with (fail)
    obtain ⟨v, hv⟩ : ∃ v : Nat, v = if a < b then 1 else 0 := ⟨_, rfl⟩
    have hv2 : v = if decide (a < b) = true then 1 else 0 := by rw [hv]; simp
    have hav : arithV 8 a b = .tuple #[.int .i64 (v : Int), .bool true] := by rw [hv]; rfl
    have HAV := Lib.hid hav
    refine (HT.out _ _ v hv2).mono ?_
    rintro e _ ⟨rfl, rfl⟩
    clear hv hv2 hav
    go_wp2_with (fail)
    refine bodyPost_ret (v := .tuple #[.int .i64 (v : Int), .bool true]) (by simp [results, Tryz.results142, go_sem]) rfl ⟨by rw [HAV.out], rfl⟩
  · go_enter Tryz.func142, Tryz.ntmps142
    go_wp2_with (fail)
    obtain ⟨v, hv⟩ : ∃ v : Nat, v = if a = b then 1 else 0 := ⟨_, rfl⟩
    have hv2 : v = if ((a : Int) == (b : Int)) = true then 1 else 0 := by rw [hv]; simp [Int.ofNat_inj]
    have hav : arithV 9 a b = .tuple #[.int .i64 (v : Int), .bool true] := by rw [hv]; rfl
    have HAV := Lib.hid hav
    refine (HT.out _ _ v hv2).mono ?_
    rintro e _ ⟨rfl, rfl⟩
    clear hv hv2 hav
    go_wp2_with (fail)
    refine bodyPost_ret (v := .tuple #[.int .i64 (v : Int), .bool true]) (by simp [results, Tryz.results142, go_sem]) rfl ⟨by rw [HAV.out], rfl⟩
/-- a run: the program's row, the fuel, what is used, what was said, the cells -/
structure Mn (w : World) (M B : Nat) (fv sv : Value) (s : Cm) : Prop where
  blk : Blk w M ([fv, .int .i64 400, .int .i64 ((400 - s.left : Nat) : Int), sv] ++ nats s.cells)
  said : w.ownsRow B 3 1 sv s.said.length (nats s.said)
  ne : sv.ownBlock ≠ some M
  cm : CmOk s
  bd : s.said.length + s.left ≤ 400
theorem Mn.below {w w' : World} {M B : Nat} {fv sv : Value} {s : Cm} (h : Mn w M B fv sv s) (hb : Below w.heap.size w w') : Mn w' M B fv sv s :=
  ⟨h.blk.below hb, ownsRow_below h.said hb, h.ne, h.cm, h.bd⟩
theorem Mn.cells {w : World} {M B : Nat} {fv sv : Value} {s : Cm} (h : Mn w M B fv sv s) : w.cell? ⟨M, 0, none⟩ = some fv ∧ w.cell? ⟨M, 1, none⟩ = some (.int .i64 400) ∧ w.cell? ⟨M, 2, none⟩ = some (.int .i64 ((400 - s.left : Nat) : Int)) ∧ w.cell? ⟨M, 3, none⟩ = some sv := by
  refine ⟨?_, ?_, ?_, ?_⟩
  all_goals (rw [h.blk.cell]; rfl)
theorem Mn.at {w : World} {M B : Nat} {fv sv : Value} {s : Cm} (h : Mn w M B fv sv s) {i : Nat} (hi : i < 16) : w.cell? ⟨M, 4 + i, none⟩ = some (.int .i64 ((s.cells.getD i 0 : Nat) : Int)) := by
  rw [h.blk.cell, List.getElem?_append_right (by simp)]
  have : 4 + i - [fv, Value.int .i64 400, .int .i64 ((400 - s.left : Nat) : Int), sv].length = i := by simp
  rw [this]
  unfold nats
  rw [List.getElem?_map, List.getElem?_eq_getElem (by rw [h.cm.cells]; exact hi), List.getD_eq_getElem?_getD, List.getElem?_eq_getElem (by rw [h.cm.cells]; exact hi)]
  rfl
/-- a run's turn that leaves what was said alone -/
theorem Mn.set {w : World} {M B : Nat} {fv sv : Value} {s : Cm} (h : Mn w M B fv sv s) {i v : Nat} (hi : i < 16) (hv : v < 256) : Mn (w.setCell ⟨M, 4 + i, none⟩ (.int .i64 (v : Int))) M B fv sv { s with cells := s.cells.set i v } := by
  refine ⟨?_, ownsRow_same h.said (fun q hq => ?_), h.ne, ⟨by simp [h.cm.cells], h.cm.cellsS.set _ _ hv, h.cm.saidS⟩, h.bd⟩
  · have h1 := h.blk.set (4 + i) (.int .i64 (v : Int))
    have e : ([fv, .int .i64 400, .int .i64 ((400 - s.left : Nat) : Int), sv] ++ nats s.cells).set (4 + i) (.int .i64 (v : Int)) = [fv, .int .i64 400, .int .i64 ((400 - s.left : Nat) : Int), sv] ++ nats (s.cells.set i v) := by
      rw [List.set_append_right _ _ (by simp)]
      have : 4 + i - [fv, Value.int .i64 400, .int .i64 ((400 - s.left : Nat) : Int), sv].length = i := by simp
      rw [this]
      unfold nats
      rw [List.map_set]
    rw [e] at h1
    exact h1
  · exact ((Only.refl [M] w).setCell (p := ⟨M, 4 + i, none⟩) (by simp) _).block q (World.ownsRow.lt h.said q hq).2 (by simp; rintro rfl; exact h.ne hq)
theorem Mn.ticked {w : World} {M B : Nat} {fv sv : Value} {s : Cm} (h : Mn w M B fv sv s) (hl : s.left ≠ 0) : Mn (w.setCell ⟨M, 2, none⟩ (.int .i64 ((400 - (s.left - 1) : Nat) : Int))) M B fv sv s.tick := by
  refine ⟨?_, ownsRow_same h.said (fun q hq => ?_), h.ne, ⟨h.cm.cells, h.cm.cellsS, h.cm.saidS⟩, by have := h.bd; show s.said.length + (s.left - 1) ≤ 400; omega⟩
  · exact h.blk.set 2 _
  · exact ((Only.refl [M] w).setCell (p := ⟨M, 2, none⟩) (by simp) _).block q (World.ownsRow.lt h.said q hq).2 (by simp; rintro rfl; exact h.ne hq)
/-- tick: the run stops, or a piece of fuel is taken -/
def TickP (w : World) (M B : Nat) (fv sv : Value) (s : Cm) (e : Ending) (w' : World) : Prop :=
  if s.left = 0 then e = .panicked (endChain 3) ∧ Mn w' M B fv sv s ∧ Only [M] w w' else e = .returned (.tuple #[]) ∧ Mn w' M B fv sv s.tick ∧ Only [M] w w'
set_option maxHeartbeats 1000000 in
theorem tick_any (w : World) (M B : Nat) (fv sv : Value) (s : Cm) (h : Mn w M B fv sv s) : Calls Tryz.prog 146 #[.pointer (some ⟨M, 0, none⟩)] w (TickP w M B fv sv s) := by
  have HS := Lib.hid (fun w' => stop_any w' 3)
  obtain ⟨x0, x1, x2, x3⟩ := h.cells
  have f2 : w.frozen? ⟨M, 2, none⟩ = false := h.blk.frozen 2
  have HM := Lib.hid h
  have hl := h.bd
  unfold TickP
  by_cases e : s.left = 0
  · simp only [if_pos e]
    rw [e] at x2
    have x2 : w.cell? ⟨M, 2, none⟩ = some (.int .i64 400) := x2
    clear h hl x0 x3 f2 e
    go_enter Tryz.func146, Tryz.ntmps146
    go_wp2_with (fail)
    go_quiet (fail)
    go_wp2_with (fail)
    go_at_call 181
    refine (HS.out _).mono ?_
    rintro e _ ⟨rfl, rfl⟩
    go_wp2_with (fail)
    exact ⟨rfl, rfl, HM.out.below (belowDrewN (Below.refl _ _) _), Only.of_below (belowDrewN (Below.refl _ _) _) _⟩
  · simp only [if_neg e]
    obtain ⟨u, hu⟩ : ∃ u, u = 400 - s.left := ⟨_, rfl⟩
    rw [← hu] at x2
    have hu2 : u < 400 := by omega
    have h1 : ((u : Int) == 400) = false := by simp; omega
    have HU : Hid (u + 1 = 400 - (s.left - 1)) := Lib.hid (by omega)
    have HE := Lib.hid e
    clear h hl x0 x3 e hu
    go_enter Tryz.func146, Tryz.ntmps146
    go_wp2_with (fail)
    go_quiet (fail)
    go_wp2_with (fail)
    go_end0
    have hm := (HM.out.below (belowDrewN (Below.refl _ w) nq)).ticked HE.out
    rw [← HU.out] at hm
    exact ⟨rfl, hm, (Only.of_below (belowDrewN (Below.refl _ _) _) _).setCell (by simp) _⟩
set_option maxHeartbeats 1000000 in
theorem mcell_any (w : World) (M i : Nat) :
    Calls Tryz.prog 185 #[.pointer (some ⟨M, 0, none⟩), .int .i64 (i : Int)] w fun e w' => w = w' ∧ if 16 ≤ i then e = .panicked (endChain 2) else e = .returned (.pointer (some ⟨M, 4 + i, none⟩)) := by
  have HS := Lib.hid (fun w' => stop_any w' 2)
  by_cases hi : 16 ≤ i
  · simp only [if_pos hi]
    have hh : (16 : Int) ≤ i := by omega
    clear hi
    go_enter Tryz.func185, Tryz.ntmps185
    go_wp2_with (fail)
    go_at_call 181
    refine (HS.out _).mono ?_
    rintro e _ ⟨rfl, rfl⟩
    go_wp2_with (fail)
    exact ⟨rfl, rfl, rfl⟩
  · simp only [if_neg hi]
    have h0 : (0 : Int) ≤ i := by omega
    have hh : (i : Int) < 16 := by omega
    clear hi HS
    go_enter Tryz.func185, Tryz.ntmps185
    go_wp2_with (fail)
    go_ret
    exact ⟨rfl, by go_num⟩
end Go.Proofs.YtpnliencahnmoaaGreatDoor
