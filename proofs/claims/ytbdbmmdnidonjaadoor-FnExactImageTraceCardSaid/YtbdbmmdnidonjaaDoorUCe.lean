/- The bytes of a function, on the reference's side: EncodeFn. -/
import Derived.Test.YtbdbmmdnidonjaaDoorUJp
import Derived.Deep.AppendLies
set_option linter.unusedVariables false
set_option linter.unusedSimpArgs false
set_option maxRecDepth 100000
namespace Go.Proofs.YtbdbmmdnidonjaaDoor
open Go.RowKit
def EncPost (f : Mf) (w : World) (e : Ending) (w' : World) : Prop :=
 ∃ v b bs, e = .returned (.tuple #[v, .bool b]) ∧ (b = true ↔ CanS f) ∧ (b = true → bs = encF (nisOf f) (longN (nisOf f)) (nisOf f).length) ∧ w'.ownsRow w.heap.size 5 1 v bs.length (u8s bs) ∧ Below w.heap.size w w'
theorem info_u8 : (Tryd.prog.info? 5).map (fun i => (i.zero, i.size, i.bytes)) = some (some (.int .u8 0), 1, 1) := by kernel_rfl
theorem Fr.app {sv v' : Value} {wa w' : World} (hg : wa.grownBy w' sv.ownBlock) (hat : v'.ownBlock = sv.ownBlock ∨ v'.ownBlock = some wa.heap.size) : Fr [] sv wa v' w' := by
 refine ⟨⟨hg.os, hg.tape, hg.output, hg.size, fun k hk hn => hg.block k hk (fun e => hn (by rw [← e]; simp))⟩, ?_⟩
 rcases hat with h | h
 ·exact .inl h
 ·exact .inr fun k hk => by rw [h] at hk; injection hk with hk; omega
theorem Fr.cell {sv sv' : Value} {w w' : World} (h : Fr [] sv w sv' w') {a : Addr} {u : Value} (hs : sv.ownBlock ≠ some a.block) (hc : w.cell? a = some u) : w'.cell? a = some u := by
 rw [World.cell?_of_block (w := w) (h.block (World.block_lt_of_cell? w a hc) (by simp) hs)]
 exact hc
theorem encI_len (xs : List Ni) (lg : List Bool) (i : Nat) : (encI xs lg i).length ≤ 4 := by
 unfold encI encB
 repeat' split
 all_goals simp
theorem encF_len (xs : List Ni) (lg : List Bool) : ∀ k, (encF xs lg k).length ≤ 4 * k
 |0 => by simp [encF]
 |k + 1 => by
  have := encF_len xs lg k
  have := encI_len xs lg k
  simp [encF]; omega
theorem u8s_app (a b : List Nat) : u8s (a ++ b) = u8s a ++ u8s b := by simp [u8s]
theorem u8_wrap (z : Int) : IntKind.u8.wrap z = (((z % 256).toNat : Nat) : Int) := by
 unfold IntKind.wrap
 simp [IntKind.signed, IntKind.bits]
 omega
set_option maxHeartbeats 4000000 in
theorem enc_any (w : World) (p s : Int) (iv : Value) (xs : List Mi) (hm : MisAt w iv xs) (hn : xs.length ≤ 1048576) :
  Calls Tryd.prog 118 #[.agg #[.int .i64 p, .int .i64 s, iv]] w (EncPost ⟨p, s, xs⟩ w) := by
 obtain ⟨i0, hi, hz0, hz1, hz2⟩ := info_parts info_u8
 have HCN := Lib.hid (fun w' h => can_any w' p s iv xs h hn)
 obtain ⟨C, hC⟩ : ∃ C, C = CanS ⟨p, s, xs⟩ := ⟨_, rfl⟩
 obtain ⟨ns, hns⟩ : ∃ ns, ns = nisOf ⟨p, s, xs⟩ := ⟨_, rfl⟩
 have HFB : Hid (C → (ns.length ≤ 2000 ∧ 0 < ns.length ∧ ns.map Ni.mi = xs ∧ (∀ i, i < ns.length → BOk (niAt ns i)) ∧ (∀ i, i < ns.length → jmpN (niAt ns i).op = true → (niAt ns i).n < ns.length) ∧ totN ns (longN ns) ≤ 8000)) := Lib.hid (fun h => by
  rw [hC] at h
  have hF := CanS.fn h.1
  have h1 := hF.len; have h2 := hF.pos; have h3 := hF.mi; have h4 := hF.ok; have h5 := hF.jmp; have h6 := h.2
  rw [← nisOf_len, ← hns] at h1 h2
  rw [← hns] at h3 h4 h5 h6
  exact ⟨h1, h2, h3, h4, h5, h6⟩)
 have HEP : Hid (∀ v b bs e w', e = .returned (.tuple #[v, .bool b]) → (b = true ↔ C) → (b = true → bs = encF ns (longN ns) ns.length) → w'.ownsRow w.heap.size 5 1 v bs.length (u8s bs) → Below w.heap.size w w' → EncPost ⟨p, s, xs⟩ w e w') := Lib.hid (fun v b bs e w' h1 h2 h3 h4 h5 => by
  rw [hC] at h2; rw [hns] at h3
  exact ⟨v, b, bs, h1, h2, h3, h4, h5⟩)
 have HMI := Lib.hid hm
 obtain ⟨n, hnn⟩ : ∃ n, n = xs.length := ⟨_, rfl⟩
 obtain ⟨la, lc, rfl, _⟩ := hm
 rw [← hnn] at HCN HMI hn ⊢
 have HNN := Lib.hid hnn
 obtain ⟨Q, hQ⟩ : ∃ Q, Q = EncPost ⟨p, s, xs⟩ w := ⟨_, rfl⟩
 rw [← hQ] at HEP ⊢
 unfold CanPost at HCN
 rw [← hC] at HCN
 clear hC hns hnn hQ
 go_enter Tryd.func118, Tryd.ntmps118
 go_wp2_with (fail)
 go_at_call 139
 generalize hw1 : w.alloc _ = w1
 have hsz1 : w1.heap.size = w.heap.size + 1 := by rw [← hw1]; simp
 obtain ⟨hb1, x0, x1, x2⟩ := box3 hw1
 generalize hw2 : w1.alloc _ = w2
 have hO2 : w2.ownsRow w.heap.size 5 1 (.slice (some ⟨w.heap.size + 1, 0, none⟩) 0 0) 0 [] := by rw [← hw2]; exact ownLit0 _ _ _ hsz1.symm (by omega)
 have hb2 : Below w1.heap.size w1 w2 := by rw [← hw2]; exact below1 _ _
 have hsz2 : w2.heap.size = w.heap.size + 1 + 1 := by rw [← hw2]; simp [hsz1]
 have HSZ2 := Lib.hid hsz2
 have hb02 := hb1.trans (hb2.mono hb1.size)
 refine (HCN.out w2 (HMI.out.below hb02)).mono ?_
 rintro e w3 ⟨b, rfl, hb, hb3⟩
 have y0 := cellB hb3 (cellB hb2 x0); have y1 := cellB hb3 (cellB hb2 x1); have y2 := cellB hb3 (cellB hb2 x2)
 have HB3 := Lib.hid (hb02.trans (hb3.mono hb02.size))
 have HO3 := Lib.hid (ownsRow_below hO2 hb3)
 have HBC := Lib.hid hb
 have hs23 := hb3.size
 clear hw1 hw2 hb1 hb2 hb02 hb3 hb x0 x1 x2 hsz1 hsz2 hO2 HCN
 cases b with
 |false =>
  go_wp2_with (fail)
  try go_ret2
  exact HEP.out _ false [] _ _ rfl HBC.out (fun h => (by cases h)) HO3.out HB3.out
 |true =>
  have hc := HBC.out.1 rfl
  obtain ⟨h1, h2, h3, h4, h5, h6⟩ := HFB.out hc
  have hln : n = ns.length := by rw [HNN.out, ← h3, List.length_map]
  have hni : NisAt w (.slice la n lc) ns := NisAt.of (by rw [h3]; exact HMI.out)
  have HLO := Lib.hid (fun w' h => long_any w' p s (.slice la n lc) ns h h1 h2 h4 h5)
  have HPL := Lib.hid (fun w' lv lg h hl hlg => places_any w' p s (.slice la n lc) lv ns lg h hl hlg h1 h4)
  have HNI := Lib.hid hni
  have HOK := Lib.hid hc
  unfold LongPost at HLO
  unfold PlcPost at HPL
  have hle : n ≤ 2000 := by omega
  have hp0 : 0 < n := by omega
  have HBO : Hid (∀ i, i < n → BOk (niAt ns i)) := Lib.hid (by rw [hln]; exact h4)
  have HJM : Hid (∀ i, i < n → jmpN (niAt ns i).op = true → (niAt ns i).n < n) := Lib.hid (by rw [hln]; exact h5)
  have HLN := Lib.hid hln
  rw [← hln] at HLO HPL
  clear hc h1 h2 h3 h4 h5 h6 hln hni HFB hn
  go_wp2_with (fail)
  go_at_call 140
  refine (HLO.out w3 (HNI.out.below HB3.out)).mono ?_
  rintro e w4 ⟨g, cap, rfl, ho4, hb4, hl4⟩
  have z0 := cellB hb4 y0; have z1 := cellB hb4 y1; have z2 := cellB hb4 y2
  have HB4 := Lib.hid (HB3.out.trans (hb4.mono HB3.out.size))
  have HO4 := Lib.hid (ownsRow_below HO3.out hb4)
  have HLG := Lib.hid ho4
  have HLL : Hid ((longN ns).length = n) := Lib.hid hl4
  have hs34 := hb4.size
  clear hb4 ho4 hl4 y0 y1 y2 HO3
  go_wp2_with (fail)
  go_at_call 141
  refine (HPL.out w4 _ (longN ns) (HNI.out.below HB4.out) (LgAt.of HLL.out HLG.out) HLL.out).mono ?_
  rintro e w5 ⟨pv, rfl, ho5, hb5⟩
  obtain ⟨gp, cp, rfl⟩ := own_form ho5 hp0
  have HX2 := Lib.hid (cellB hb5 z2)
  have HB5 := Lib.hid (HB4.out.trans (hb5.mono HB4.out.size))
  have HO5 := Lib.hid (ownsRow_below HO4.out hb5)
  have HL5 := Lib.hid (ownsRow_below HLG.out hb5)
  have HP5 := Lib.hid ho5
  have hs45 := hb5.size
  clear hb5 ho5 z0 z1 z2 HO4 HLG
  go_wp2_with (fail)
  go_loopw [4, 8] (fun o i wr => ∃ k : Nat, k ≤ n ∧ i = .int .i64 k ∧ wr.ownsRow w.heap.size 5 1 o (encF ns (longN ns) k).length (u8s (encF ns (longN ns) k)) ∧ Fr [] (.slice (some ⟨w.heap.size + 1, 0, none⟩) 0 0) w5 o wr) (fun _ i _ => n - (intOf i).toNat)
  case atStart => exact ⟨0, Nat.zero_le _, rfl, HO5.out, Fr.refl _ _ _⟩
  case round =>
   obtain ⟨k, hk, rfl, hown, hfr⟩ := hrel
   obtain ⟨wo, rfl⟩ : ∃ wo : World, wo = wr := ⟨_, rfl⟩
   have HOW := Lib.hid hown
   have HFR := Lib.hid hfr
   have hw5o := hfr.size
   have hs5 := HB5.out.size
   have HKC : Hid (∀ a u, w5.cell? a = some u → a.block ≠ w.heap.size + 1 → wo.cell? a = some u) := Lib.hid (fun a u h hne => HFR.out.cell (by simp [Value.ownBlock]; omega) h)
   have y2 := HKC.out _ _ HX2.out (by simp)
   clear hown hfr
   by_cases hlt : k < n
   ·have k0 : (0 : Int) ≤ k := by omega
    have k1 : (k : Int) < n := by omega
    have hnio := HNI.out
    obtain ⟨a', cap', hv', hc'⟩ := hnio
    obtain ⟨rfl, hnl, rfl⟩ : la = a' ∧ n = ns.length ∧ lc = cap' := by injection hv' with q1 q2 q3; exact ⟨q1, q2, q3⟩
    obtain ⟨b, off, rfl, c0, c1, c2, c3, c4⟩ := hc' k (by omega)
    have hbl : b < w.heap.size := World.block_lt_of_cell? w _ c0
    have t0 := HKC.out _ _ (cellB HB5.out c0) (by simp only []; omega); have t1 := HKC.out _ _ (cellB HB5.out c1) (by simp only []; omega); have t3 := HKC.out _ _ (cellB HB5.out c2) (by simp only []; omega); have t4 := HKC.out _ _ (cellB HB5.out c3) (by simp only []; omega); have t5 := HKC.out _ _ (cellB HB5.out c4) (by simp only []; omega)
    obtain ⟨x, hxe⟩ : ∃ x, x = niAt ns k := ⟨_, rfl⟩
    obtain ⟨jp, hjp⟩ : ∃ jp, jp = jmpN x.op := ⟨_, rfl⟩
    have hbx := HBO.out k hlt
    have hjn := HJM.out k hlt
    have hen : encF ns (longN ns) (k + 1) = encF ns (longN ns) k ++ encI ns (longN ns) k := rfl
    have hll := encF_len ns (longN ns) k
    rw [← hxe] at t0 t1 t3 t4 t5 hbx hjn
    rw [← hjp] at hjn
    have HJ := Lib.hid (fun w' => sjump_any w' x.op x.a x.b x.c x.n)
    rw [← hjp] at HJ
    have HBX := Lib.hid hbx; have HJN := Lib.hid hjn; have HEN := Lib.hid hen; have HXE := Lib.hid hxe; have HJP := Lib.hid hjp
    clear hv' hc' hnl c0 c1 c2 c3 c4 hbl hxe hjp hbx hjn hen
    obtain ⟨ln, hln⟩ : ∃ ln, ln = (encF ns (longN ns) k).length := ⟨_, rfl⟩
    rw [← hln] at HOW hll
    have HLE := Lib.hid hln
    clear hln
    go_wp2_with (fail)
    go_at_call 116
    generalize hwx : wo.alloc _ = wx
    obtain ⟨hbx, e0, e1, e2, e3, e4⟩ := box5 hwx
    refine (HJ.out wx).mono ?_
    rintro e w7 ⟨rfl, hb7⟩
    have d0 := cellB hb7 e0; have d1 := cellB hb7 e1; have d2 := cellB hb7 e2; have d3 := cellB hb7 e3; have d4 := cellB hb7 e4
    have HB7 := Lib.hid (hbx.trans (hb7.mono hbx.size))
    clear hwx hbx hb7 e0 e1 e2 e3 e4 HJ t0 t1 t3 t4 t5
    cases jp with
    |false =>
     have HEI : Hid (encI ns (longN ns) k = encB x) := Lib.hid (by unfold encI; rw [← HXE.out, ← HJP.out]; rfl)
     go_wp2_with (fail)
     go_at_call 142
     refine (plain_any w7 x HBX.out HJP.out.symm).mono ?_
     rintro e w8 ⟨g8, c8, rfl, ho8, hb8⟩
     have HB8 := Lib.hid (HB7.out.trans (hb8.mono HB7.out.size))
     have HOW8 := Lib.hid (ownsRow_below HOW.out HB8.out)
     have hel : (encB x).length ≤ 4 := by unfold encB; (repeat' split) <;> simp
     obtain ⟨el, hel0⟩ : ∃ el, el = (encB x).length := ⟨_, rfl⟩
     rw [← hel0] at hel ho8 ⊢
     have HEL := Lib.hid hel0
     have HNW : Hid (∀ j u, (u8s (encB x))[j]? = some u → w8.cell? ((⟨g8, 0, none⟩ : Addr).add j) = some u) := Lib.hid (fun j u hu => by
      have hjl : j < el := by
       rcases Nat.lt_or_ge j el with h | h
       ·exact h
       ·rw [List.getElem?_eq_none (by rw [u8s_len, ← HEL.out]; exact h)] at hu; cases hu
      have := own_cell1 ho8 hjl
      rw [hu] at this
      by_cases e : j = 0
      ·subst e; simpa [Addr.add] using this
      ·simpa [Addr.add, e] using this)
     have hs8 := HB8.out.size
     clear hb8 ho8 HB7 hel0 d0 d1 d2 d3 d4
     go_wp2_with (first | (at_builtin; refine wpList_append_own_at _ rfl _ _ 22 (by rfl) w.heap.size 5 i0 (.int .u8 0) 1 1 Tryd.underlying22 hi hz0 hz1 hz2 rfl (by decide) _ ln _ (by rfl) HOW8.out ⟨g8, 0, none⟩ el c8 (u8s (encB x)) (by rfl) (by rw [u8s_len, Nat.mul_one, ← HEL.out]) HNW.out (by intro u hu; obtain ⟨b, _, rfl⟩ := List.mem_map.1 hu; rfl) (by unfold maxLen; omega) (by omega) (by omega) ?_; intro v9 w9 ho9 hg9 _ hat9; have HO9 := Lib.hid ho9; have HF9 := Lib.hid ((HFR.out.trans (Fr.below HB8.out)).trans (Fr.app hg9 hat9)); clear ho9 hg9 hat9) | fail)
     go_roundw
     case rel =>
      refine ⟨k + 1, by omega, by go_num, ?_, HF9.out⟩
      rw [HEN.out, HEI.out, u8s_app, List.length_append, ← HLE.out, ← HEL.out]
      exact HO9.out
     case measure => simp [intOf]; omega
    |true =>
     obtain ⟨op, a, b', c, N⟩ := x
     have hNn : N < n := HJN.out (by first | rfl | trivial)
     obtain ⟨T, hT⟩ : ∃ T, T = plcN ns (longN ns) N := ⟨_, rfl⟩
     obtain ⟨P, hP⟩ : ∃ P, P = plcN ns (longN ns) k := ⟨_, rfl⟩
     obtain ⟨g1, hg1⟩ : ∃ g1, g1 = (longN ns).getD k false := ⟨_, rfl⟩
     have cT := own_cell1 HP5.out hNn
     rw [show (nats (plcs ns (longN ns) n))[N]? = some (.int .i64 ((plcN ns (longN ns) N : Nat) : Int)) by simp [nats, plcs, hNn], ← hT] at cT
     have cP := own_cell1 HP5.out hlt
     rw [show (nats (plcs ns (longN ns) n))[k]? = some (.int .i64 ((plcN ns (longN ns) k : Nat) : Int)) by simp [nats, plcs, hlt], ← hP] at cP
     have cL := own_cell1 HL5.out hlt
     rw [bools_get (by rw [HLL.out]; exact hlt), ← hg1] at cL
     have hgp := (ownsRow_lt HP5.out).2.1
     have hgl := (ownsRow_lt HL5.out).2.1
     have hsz2 := HSZ2.out
     have sT := cellB HB7.out (HKC.out _ _ cT (by simp only []; omega))
     have sP := cellB HB7.out (HKC.out _ _ cP (by simp only []; omega))
     have sL := cellB HB7.out (HKC.out _ _ cL (by simp only []; omega))
     have hT8 := plcN_le ns (longN ns) N
     have hP8 := plcN_le ns (longN ns) k
     rw [← hT] at hT8; rw [← hP] at hP8
     have k2 : (0 : Int) ≤ N := by omega
     have k3 : (N : Int) < n := by omega
     obtain ⟨hop1, hop2⟩ := HBX.out.op
     simp only at hop1 hop2
     obtain ⟨t1, ht1⟩ : ∃ t1, t1 = if g1 then (1 : Nat) else 0 := ⟨_, rfl⟩
     have hl1 : t1 ≤ 1 := by rw [ht1]; split <;> omega
     have HT1 := Lib.hid (fun w' => struth_any w' g1 t1 ht1)
     have HTT := Lib.hid hT; have HPP := Lib.hid hP; have HG1 := Lib.hid hg1; have HTE := Lib.hid ht1
     have s1 : IntKind.i64.wrap (128 * (t1 : Int)) = 128 * t1 := IntWalk.i64_in _ (by omega)
     have s2 : IntKind.i64.wrap ((op : Int) + 128 * t1) = (op : Int) + 128 * t1 := IntWalk.i64_in _ (by omega)
     have s3 : IntKind.u8.wrap ((op : Int) + 128 * t1) = ((op + 128 * t1 : Nat) : Int) := by have := u8_small (op + 128 * t1) (by omega); simpa using this
     have HS1 := Lib.hid s1; have HS2 := Lib.hid s2; have HS3 := Lib.hid s3
     have HOW7 := Lib.hid (ownsRow_below HOW.out HB7.out)
     clear hT hP hg1 ht1 cT cP cL hgp hgl hsz2 s1 s2 s3 hl1
     go_wp2_with (fail)
     have hKeep : ∀ W, Below w7.heap.size w7 W → (fun W => W.cell? ⟨wo.heap.size, 0, none⟩ = some (.int .i64 (op : Int)) ∧ W.cell? ⟨g, k, none⟩ = some (.bool g1)) W := fun W h => ⟨cellB h d0, cellB h sL⟩
     have hS1 := hKeep _ (Below.refl _ _)
     have hS2 := hKeep _ (Below.refl _ w7).drew
     have hS3 := hKeep _ ((Below.refl _ w7).drew.alloc (Nat.le_refl _) (.cells #[.int .u8 ((op + 128 * t1 : Nat) : Int)] 5))
     have HK := Lib.hid hKeep
     have s1 := HS1.out; have s2 := HS2.out; have s3 := HS3.out
     have HO7d : Hid (w7.drew.ownsRow w.heap.size 5 1 u4 ln (u8s (encF ns (longN ns) k))) := HOW7.out
     have hs7 := HB7.out.size
     have hgpl := (ownsRow_lt HP5.out)
     have hgll := (ownsRow_lt HL5.out)
     have hsz2 := HSZ2.out
     have HNE : Hid (∀ q, (q = wo.heap.size ∨ q = g ∨ q = gp) → some q ≠ Value.ownBlock u4) := Lib.hid (fun q hq e => by
      have hlt' := (World.ownsRow.lt HOW.out q e.symm).2
      rcases hq with rfl | rfl | rfl
      ·omega
      ·exact HFR.out.ne hgll.1 (by simp [Value.ownBlock]; omega) e.symm
      ·exact HFR.out.ne hgpl.1 (by simp [Value.ownBlock]; omega) e.symm)
     clear hKeep hgpl hgll hsz2
     go_region_held3 (fun W => W.cell? ⟨wo.heap.size, 0, none⟩ = some (.int .i64 (op : Int)) ∧ W.cell? ⟨g, k, none⟩ = some (.bool g1)) (first | assumption) (first | (go_at_call 133; refine (HT1.out _).mono ?_; rintro e _ ⟨rfl, rfl⟩) | (refine step_append_lies _ rfl (.tmp 48) (.tmp 59) 22 rfl w.heap.size 5 i0 (.int .u8 0) 1 1 Tryd.underlying22 hi hz0 hz1 hz2 rfl (by decide) u4 ln (u8s (encF ns (longN ns) k)) (by rfl) (HO7d.out.alloc _) ⟨w7.heap.size, 0, none⟩ 1 1 [.int .u8 ((op + 128 * t1 : Nat) : Int)] (by rfl) rfl (World.news_of_block (heap_alloc_new _ _)) (by simp [Value.oneCell']) (by decide) (by unfold maxLen; omega) (by omega) (by simp; omega) _ rfl ?_; intro g9 c9 w9 ho9 hg9 hat9 _; have HK9 : Hid (∀ a u, w7.cell? a = some u → (a.block = wo.heap.size ∨ a.block = g ∨ a.block = gp) → w9.cell? a = some u) := Lib.hid (fun a u h hq => by rw [hg9.cell_far a (by have := World.block_lt_of_cell? w7 a h; simp; omega) (HNE.out _ hq)]; exact cellB ((Below.refl _ w7).drew.alloc (Nat.le_refl _) _) h); have hS9 := (show (fun W => W.cell? ⟨wo.heap.size, 0, none⟩ = some (.int .i64 (op : Int)) ∧ W.cell? ⟨g, k, none⟩ = some (.bool g1)) w9 from ⟨HK9.out _ _ d0 (.inl rfl), HK9.out _ _ sL (.inr (.inl rfl))⟩); have HX9 : Hid (g9 ≠ wo.heap.size) := Lib.hid (by rcases hat9 with h | h; exact (fun e => HNE.out _ (.inl rfl) (by rw [h, e])); exact (by simp at h; omega)); have HO9 := Lib.hid ho9; have HF9 := Lib.hid ((HFR.out.trans (Fr.below (HB7.out.drew.alloc hs7 _))).trans (Fr.app (v' := .slice (some ⟨g9, 0, none⟩) (ln + 1) c9) hg9 (by rcases hat9 with h | h; exact .inl h.symm; exact .inr (by rw [h]; rfl)))); clear ho9 hg9 hat9))
     all_goals
      try clear hS1 hS2 hS3 s1 s2 s3
      have hop : op = 20 ∨ op = 21 := by
       have := HJP.out.symm
       unfold jmpN at this
       simpa only [Bool.or_eq_true, beq_iff_eq] using this
      have hEN : encF ns (longN ns) (k + 1) = encF ns (longN ns) k ++ ((op + (if g1 then 128 else 0)) :: ((if op = 21 then [a] else []) ++ (if g1 then [T % 256, T / 256] else [((offN ns (longN ns) k + 256) % 256).toNat]))) := by
       rw [HEN.out]; unfold encI; rw [← HXE.out, ← HG1.out, if_pos HJP.out.symm, ← HTT.out]
      have HEN2 := Lib.hid hEN
      have q0 := HK9.out _ _ d0 (.inl rfl); have q1 := HK9.out _ _ d1 (.inl rfl); have q2 := HK9.out _ _ d2 (.inl rfl); have q3 := HK9.out _ _ d3 (.inl rfl); have q4 := HK9.out _ _ d4 (.inl rfl)
      have qL := HK9.out _ _ sL (.inr (.inl rfl)); have qP := HK9.out _ _ sP (.inr (.inr rfl))
      clear hEN
      rcases hop with rfl | rfl
      ·cases g1 with
       |true =>
        have hb9 : w.heap.size ≤ w9.heap.size := Nat.le_trans hs5 HF9.out.size
        go_wp2_with (first | (at_builtin; refine wpList_append_lies _ rfl _ _ 22 (by rfl) w.heap.size 5 i0 (.int .u8 0) 1 1 Tryd.underlying22 hi hz0 hz1 hz2 rfl (by decide) _ (ln + 1) _ (by rfl) (HO9.out.alloc _) ⟨w9.heap.size, 0, none⟩ 2 2 [.int .u8 ((T : Int) % 256), .int .u8 ((T : Int) / 256)] (by rfl) rfl (World.news_of_block (heap_alloc_new _ _)) (by simp [Value.oneCell']) (by decide) (by unfold maxLen; omega) (by omega) (by simp; omega) _ rfl ?_; intro g10 c10 w10 ho10 hg10 hat10 _; have HO10 := Lib.hid ho10; have HF10 := Lib.hid ((HF9.out.trans (Fr.below (below1 _ _))).trans (Fr.app (v' := .slice (some ⟨g10, 0, none⟩) (ln + 1 + 2) c10) hg10 (by rcases hat10 with h | h; exact .inl h.symm; exact .inr (by rw [h]; rfl)))); clear ho10 hg10 hat10) | fail)
        go_roundw
        case rel =>
         refine ⟨k + 1, by omega, by go_num, ?_, HF10.out⟩
         have e1 : (encF ns (longN ns) (k + 1)).length = ln + 1 + 2 := by rw [HEN2.out, HLE.out]; simp
         have e2 : u8s (encF ns (longN ns) (k + 1)) = u8s (encF ns (longN ns) k) ++ [.int .u8 ((20 + 128 * t1 : Nat) : Int)] ++ [.int .u8 ((T : Int) % 256), .int .u8 ((T : Int) / 256)] := by rw [HEN2.out, HTE.out]; simp [u8s]
         rw [e1, e2]; exact HO10.out
        case measure => simp [intOf]; omega
       |false =>
        have hb9 : w.heap.size ≤ w9.heap.size := Nat.le_trans hs5 HF9.out.size
        obtain ⟨z, hz⟩ : ∃ z, z = sizN ⟨20, a, b', c, N⟩ false := ⟨_, rfl⟩
        have hz4 := (sizN_le ⟨20, a, b', c, N⟩ false).2
        have HSI := Lib.hid (fun w' => ssize_any w' _ HBX.out false)
        rw [← hz] at hz4 HSI
        simp only at HSI
        have hoff : offN ns (longN ns) k = (T : Int) - P - z := by unfold offN; rw [← HXE.out, ← HG1.out, HTT.out, HPP.out, hz]
        obtain ⟨V, hV⟩ : ∃ V, V = (((offN ns (longN ns) k + 256) % 256).toNat) := ⟨_, rfl⟩
        have HVE := Lib.hid hV
        have HG9 : Hid (some gp ≠ Value.ownBlock (.slice (some ⟨g9, 0, none⟩) (ln + 1) c9)) := Lib.hid (fun e => HF9.out.ne (ownsRow_lt HP5.out).1 (by have h1 := HSZ2.out; have h2 := (ownsRow_lt HP5.out).2.1; simp [Value.ownBlock]; omega) e.symm)
        rw [hoff] at hV
        have r1 : IntKind.i64.wrap ((T : Int) - P) = (T : Int) - P := IntWalk.i64_in _ (by omega)
        have r2 : IntKind.i64.wrap ((T : Int) - P - z) = (T : Int) - P - z := IntWalk.i64_in _ (by omega)
        have r3 : IntKind.i64.wrap ((T : Int) - P - z + 256) = (T : Int) - P - z + 256 := IntWalk.i64_in _ (by omega)
        have r4 : IntKind.u8.wrap ((T : Int) - P - z + 256) = (V : Int) := by rw [u8_wrap, hV]
        have R1 := Lib.hid r1; have R2 := Lib.hid r2; have R3 := Lib.hid r3; have R4 := Lib.hid r4
        have hKeep : ∀ W, Below w9.heap.size w9 W → (fun W => W.cell? ⟨wo.heap.size, 0, none⟩ = some (.int .i64 20) ∧ W.cell? ⟨wo.heap.size, 1, none⟩ = some (.int .i64 (a : Int)) ∧ W.cell? ⟨wo.heap.size, 2, none⟩ = some (.int .i64 (b' : Int)) ∧ W.cell? ⟨wo.heap.size, 3, none⟩ = some (.int .i64 (c : Int)) ∧ W.cell? ⟨wo.heap.size, 4, none⟩ = some (.int .i64 (N : Int)) ∧ W.cell? ⟨gp, k, none⟩ = some (.int .i64 (P : Int))) W := fun W h => ⟨cellB h q0, cellB h q1, cellB h q2, cellB h q3, cellB h q4, cellB h qP⟩
        clear hz hz4 hoff hV r1 r2 r3 r4
        go_wp2_with (fail)
        have r1 := R1.out; have r2 := R2.out; have r3 := R3.out; have r4 := R4.out
        have hS1 := hKeep _ (Below.refl _ _)
        have hS2 := hKeep _ (Below.refl _ w9).drew
        have HK2 := Lib.hid hKeep
        clear hKeep
        go_region_held3 (fun W => W.cell? ⟨wo.heap.size, 0, none⟩ = some (.int .i64 20) ∧ W.cell? ⟨wo.heap.size, 1, none⟩ = some (.int .i64 (a : Int)) ∧ W.cell? ⟨wo.heap.size, 2, none⟩ = some (.int .i64 (b' : Int)) ∧ W.cell? ⟨wo.heap.size, 3, none⟩ = some (.int .i64 (c : Int)) ∧ W.cell? ⟨wo.heap.size, 4, none⟩ = some (.int .i64 (N : Int)) ∧ W.cell? ⟨gp, k, none⟩ = some (.int .i64 (P : Int))) (first | assumption) (first | (go_at_call 138; refine (HSI.out _).mono ?_; rintro e w10 ⟨rfl, hb10⟩; have HB10 := Lib.hid ((Below.refl w9.heap.size w9).drew.trans hb10); have hS3 := HK2.out _ HB10.out; have hS4 := HK2.out _ (HB10.out.alloc HB10.out.size (.cells #[.int .u8 (V : Int)] 5)); have HO10 := Lib.hid (ownsRow_below HO9.out HB10.out); have hs10 := HB10.out.size; clear hb10) | (refine step_append_lies _ rfl (.tmp 83) (.tmp 95) 22 rfl w.heap.size 5 i0 (.int .u8 0) 1 1 Tryd.underlying22 hi hz0 hz1 hz2 rfl (by decide) _ (ln + 1) _ (by rfl) (HO10.out.alloc _) ⟨w10.heap.size, 0, none⟩ 1 1 [.int .u8 (V : Int)] (by rfl) rfl (World.news_of_block (heap_alloc_new _ _)) (by simp [Value.oneCell']) (by decide) (by unfold maxLen; omega) (by omega) (by simp; omega) _ rfl ?_; intro g11 c11 w11 ho11 hg11 hat11 _; have HO11 := Lib.hid ho11; have HF11 := Lib.hid ((HF9.out.trans (Fr.below (HB10.out.alloc hs10 _))).trans (Fr.app (v' := .slice (some ⟨g11, 0, none⟩) (ln + 1 + 1) c11) hg11 (by rcases hat11 with h | h; exact .inl h.symm; exact .inr (by rw [h]; rfl)))); have hk11 : ∀ (q j : Nat) u, w10.cell? ⟨q, j, none⟩ = some u → (q = wo.heap.size ∨ q = gp) → w11.cell? ⟨q, j, none⟩ = some u := (fun q j u h hq => by rw [hg11.cell_far _ (by have := World.block_lt_of_cell? w10 _ h; simp at this ⊢; omega) (by rcases hq with rfl | rfl; exact (fun e => by simp [Value.ownBlock] at e; exact HX9.out e.symm); exact HG9.out)]; exact cellB (below1 w10 _) h); have hS5 : (fun W => W.cell? ⟨wo.heap.size, 0, none⟩ = some (.int .i64 20) ∧ W.cell? ⟨wo.heap.size, 1, none⟩ = some (.int .i64 (a : Int)) ∧ W.cell? ⟨wo.heap.size, 2, none⟩ = some (.int .i64 (b' : Int)) ∧ W.cell? ⟨wo.heap.size, 3, none⟩ = some (.int .i64 (c : Int)) ∧ W.cell? ⟨wo.heap.size, 4, none⟩ = some (.int .i64 (N : Int)) ∧ W.cell? ⟨gp, k, none⟩ = some (.int .i64 (P : Int))) w11 := ⟨hk11 _ _ _ hS3.1 (.inl rfl), hk11 _ _ _ hS3.2.1 (.inl rfl), hk11 _ _ _ hS3.2.2.1 (.inl rfl), hk11 _ _ _ hS3.2.2.2.1 (.inl rfl), hk11 _ _ _ hS3.2.2.2.2.1 (.inl rfl), hk11 _ _ _ hS3.2.2.2.2.2 (.inr rfl)⟩; clear ho11 hg11 hat11))
        all_goals
         go_wp2_with (fail)
         go_roundw
         case rel =>
          refine ⟨k + 1, by omega, by go_num, ?_, HF11.out⟩
          have e1 : (encF ns (longN ns) (k + 1)).length = ln + 1 + 1 := by rw [HEN2.out, HLE.out]; simp
          have e2 : u8s (encF ns (longN ns) (k + 1)) = u8s (encF ns (longN ns) k) ++ [.int .u8 ((20 + 128 * t1 : Nat) : Int)] ++ [.int .u8 (V : Int)] := by rw [HEN2.out, HTE.out, ← HVE.out]; simp [u8s]
          rw [e1, e2]; exact HO11.out
         case measure => simp [intOf]; omega
      ·have hb9 : w.heap.size ≤ w9.heap.size := Nat.le_trans hs5 HF9.out.size
       have e1a : IntKind.u8.wrap (a : Int) = (a : Int) := u8_small a (by have := HBX.out.a; simp only [] at this; omega)
       have HG9 : Hid (some g ≠ Value.ownBlock (.slice (some ⟨g9, 0, none⟩) (ln + 1) c9)) := Lib.hid (fun e => HF9.out.ne (ownsRow_lt HL5.out).1 (by have h1 := HSZ2.out; have h2 := (ownsRow_lt HL5.out).2.1; simp [Value.ownBlock]; omega) e.symm)
       cases g1 with
       |true =>
        go_wp2_with (first | (at_builtin; refine wpList_append_lies _ rfl (.tmp 64) (.tmp 68) 22 (by rfl) w.heap.size 5 i0 (.int .u8 0) 1 1 Tryd.underlying22 hi hz0 hz1 hz2 rfl (by decide) _ (ln + 1) _ (by rfl) (HO9.out.alloc _) ⟨w9.heap.size, 0, none⟩ 1 1 [.int .u8 (a : Int)] (by rfl) rfl (World.news_of_block (heap_alloc_new _ _)) (by simp [Value.oneCell']) (by decide) (by unfold maxLen; omega) (by omega) (by simp; omega) _ rfl ?_; intro g10 c10 w10 ho10 hg10 hat10 _; have qM : w10.cell? ⟨g, k, none⟩ = some (.bool true) := (by rw [hg10.cell_far _ (by have := World.block_lt_of_cell? w9 _ qL; simp at this ⊢; omega) HG9.out]; exact cellB (below1 _ _) qL); have HO10 := Lib.hid ho10; have HF10 := Lib.hid ((HF9.out.trans (Fr.below (below1 _ _))).trans (Fr.app (v' := .slice (some ⟨g10, 0, none⟩) (ln + 1 + 1) c10) hg10 (by rcases hat10 with h | h; exact .inl h.symm; exact .inr (by rw [h]; rfl)))); have hb10 : w.heap.size ≤ w10.heap.size := Nat.le_trans hs5 HF10.out.size; clear ho10 hg10 hat10) | (at_builtin; refine wpList_append_lies _ rfl (.tmp 74) (.tmp 81) 22 (by rfl) w.heap.size 5 i0 (.int .u8 0) 1 1 Tryd.underlying22 hi hz0 hz1 hz2 rfl (by decide) _ (ln + 1 + 1) _ (by rfl) (HO10.out.alloc _) ⟨w10.heap.size, 0, none⟩ 2 2 [.int .u8 ((T : Int) % 256), .int .u8 ((T : Int) / 256)] (by rfl) rfl (World.news_of_block (heap_alloc_new _ _)) (by simp [Value.oneCell']) (by decide) (by unfold maxLen; omega) (by omega) (by simp; omega) _ rfl ?_; intro g11 c11 w11 ho11 hg11 hat11 _; have HO11 := Lib.hid ho11; have HF11 := Lib.hid ((HF10.out.trans (Fr.below (below1 _ _))).trans (Fr.app (v' := .slice (some ⟨g11, 0, none⟩) (ln + 1 + 1 + 2) c11) hg11 (by rcases hat11 with h | h; exact .inl h.symm; exact .inr (by rw [h]; rfl)))); clear ho11 hg11 hat11) | fail)
        go_roundw
        case rel =>
         refine ⟨k + 1, by omega, by go_num, ?_, HF11.out⟩
         have e1 : (encF ns (longN ns) (k + 1)).length = ln + 1 + 1 + 2 := by rw [HEN2.out, HLE.out]; simp
         have e2 : u8s (encF ns (longN ns) (k + 1)) = u8s (encF ns (longN ns) k) ++ [.int .u8 ((21 + 128 * t1 : Nat) : Int)] ++ [.int .u8 (a : Int)] ++ [.int .u8 ((T : Int) % 256), .int .u8 ((T : Int) / 256)] := by rw [HEN2.out, HTE.out]; simp [u8s]
         rw [e1, e2]; exact HO11.out
        case measure => simp [intOf]; omega
       |false =>
        have HGA : Hid (some gp ≠ Value.ownBlock (.slice (some ⟨g9, 0, none⟩) (ln + 1) c9)) := Lib.hid (fun e => HF9.out.ne (ownsRow_lt HP5.out).1 (by have h1 := HSZ2.out; have h2 := (ownsRow_lt HP5.out).2.1; simp [Value.ownBlock]; omega) e.symm)
        go_wp2_with (first | (at_builtin; refine wpList_append_lies _ rfl (.tmp 64) (.tmp 68) 22 (by rfl) w.heap.size 5 i0 (.int .u8 0) 1 1 Tryd.underlying22 hi hz0 hz1 hz2 rfl (by decide) _ (ln + 1) _ (by rfl) (HO9.out.alloc _) ⟨w9.heap.size, 0, none⟩ 1 1 [.int .u8 (a : Int)] (by rfl) rfl (World.news_of_block (heap_alloc_new _ _)) (by simp [Value.oneCell']) (by decide) (by unfold maxLen; omega) (by omega) (by simp; omega) _ rfl ?_; intro g10 c10 w10 ho10 hg10 hat10 _; have qM : w10.cell? ⟨g, k, none⟩ = some (.bool false) := (by rw [hg10.cell_far _ (by have := World.block_lt_of_cell? w9 _ qL; simp at this ⊢; omega) HG9.out]; exact cellB (below1 _ _) qL); have HO10 := Lib.hid ho10; have HF10 := Lib.hid ((HF9.out.trans (Fr.below (below1 _ _))).trans (Fr.app (v' := .slice (some ⟨g10, 0, none⟩) (ln + 1 + 1) c10) hg10 (by rcases hat10 with h | h; exact .inl h.symm; exact .inr (by rw [h]; rfl)))); have hb10 : w.heap.size ≤ w10.heap.size := Nat.le_trans hs5 HF10.out.size; have HX10 : Hid (g10 ≠ wo.heap.size) := Lib.hid (by rcases hat10 with h | h; exact (fun e => HX9.out (by simp [Value.ownBlock] at h; omega)); exact (by have := World.block_lt_of_cell? w9 _ q0; simp at h this; omega)); have hkA : ∀ (q j : Nat) u, w9.cell? ⟨q, j, none⟩ = some u → (q = wo.heap.size ∨ q = gp) → w10.cell? ⟨q, j, none⟩ = some u := (fun q j u h hq => by rw [hg10.cell_far _ (by have := World.block_lt_of_cell? w9 _ h; simp at this ⊢; omega) (by rcases hq with rfl | rfl; exact (fun e => by simp [Value.ownBlock] at e; exact HX9.out e.symm); exact HGA.out)]; exact cellB (below1 w9 _) h); have m0 := hkA _ _ _ q0 (.inl rfl); have m1 := hkA _ _ _ q1 (.inl rfl); have m2 := hkA _ _ _ q2 (.inl rfl); have m3 := hkA _ _ _ q3 (.inl rfl); have m4 := hkA _ _ _ q4 (.inl rfl); have mP := hkA _ _ _ qP (.inr rfl); clear ho10 hg10 hat10 hkA) | fail)
        have HGB : Hid (some gp ≠ Value.ownBlock (.slice (some ⟨g10, 0, none⟩) (ln + 1 + 1) c10)) := Lib.hid (fun e => HF10.out.ne (ownsRow_lt HP5.out).1 (by have h1 := HSZ2.out; have h2 := (ownsRow_lt HP5.out).2.1; simp [Value.ownBlock]; omega) e.symm)
        obtain ⟨z, hz⟩ : ∃ z, z = sizN ⟨21, a, b', c, N⟩ false := ⟨_, rfl⟩
        have hz4 := (sizN_le ⟨21, a, b', c, N⟩ false).2
        have HSI := Lib.hid (fun w' => ssize_any w' _ HBX.out false)
        rw [← hz] at hz4 HSI
        simp only at HSI
        have hoff : offN ns (longN ns) k = (T : Int) - P - z := by unfold offN; rw [← HXE.out, ← HG1.out, HTT.out, HPP.out, hz]
        obtain ⟨V, hV⟩ : ∃ V, V = (((offN ns (longN ns) k + 256) % 256).toNat) := ⟨_, rfl⟩
        have HVE := Lib.hid hV
        rw [hoff] at hV
        have r1 : IntKind.i64.wrap ((T : Int) - P) = (T : Int) - P := IntWalk.i64_in _ (by omega)
        have r2 : IntKind.i64.wrap ((T : Int) - P - z) = (T : Int) - P - z := IntWalk.i64_in _ (by omega)
        have r3 : IntKind.i64.wrap ((T : Int) - P - z + 256) = (T : Int) - P - z + 256 := IntWalk.i64_in _ (by omega)
        have r4 : IntKind.u8.wrap ((T : Int) - P - z + 256) = (V : Int) := by rw [u8_wrap, hV]
        have R1 := Lib.hid r1; have R2 := Lib.hid r2; have R3 := Lib.hid r3; have R4 := Lib.hid r4
        have hKeep : ∀ W, Below w10.heap.size w10 W → (fun W => W.cell? ⟨wo.heap.size, 0, none⟩ = some (.int .i64 21) ∧ W.cell? ⟨wo.heap.size, 1, none⟩ = some (.int .i64 (a : Int)) ∧ W.cell? ⟨wo.heap.size, 2, none⟩ = some (.int .i64 (b' : Int)) ∧ W.cell? ⟨wo.heap.size, 3, none⟩ = some (.int .i64 (c : Int)) ∧ W.cell? ⟨wo.heap.size, 4, none⟩ = some (.int .i64 (N : Int)) ∧ W.cell? ⟨gp, k, none⟩ = some (.int .i64 (P : Int))) W := fun W h => ⟨cellB h m0, cellB h m1, cellB h m2, cellB h m3, cellB h m4, cellB h mP⟩
        clear hz hz4 hoff hV r1 r2 r3 r4
        have r1 := R1.out; have r2 := R2.out; have r3 := R3.out; have r4 := R4.out
        have hS1 := hKeep _ (Below.refl _ _)
        have hS2 := hKeep _ (Below.refl _ w10).drew
        have HK2 := Lib.hid hKeep
        clear hKeep
        go_region_held3 (fun W => W.cell? ⟨wo.heap.size, 0, none⟩ = some (.int .i64 21) ∧ W.cell? ⟨wo.heap.size, 1, none⟩ = some (.int .i64 (a : Int)) ∧ W.cell? ⟨wo.heap.size, 2, none⟩ = some (.int .i64 (b' : Int)) ∧ W.cell? ⟨wo.heap.size, 3, none⟩ = some (.int .i64 (c : Int)) ∧ W.cell? ⟨wo.heap.size, 4, none⟩ = some (.int .i64 (N : Int)) ∧ W.cell? ⟨gp, k, none⟩ = some (.int .i64 (P : Int))) (first | assumption) (first | (go_at_call 138; refine (HSI.out _).mono ?_; rintro e w11 ⟨rfl, hb11⟩; have HB11 := Lib.hid ((Below.refl w10.heap.size w10).drew.trans hb11); have hS3 := HK2.out _ HB11.out; have hS4 := HK2.out _ (HB11.out.alloc HB11.out.size (.cells #[.int .u8 (V : Int)] 5)); have HO11 := Lib.hid (ownsRow_below HO10.out HB11.out); have hs11 := HB11.out.size; clear hb11) | (refine step_append_lies _ rfl (.tmp 83) (.tmp 95) 22 rfl w.heap.size 5 i0 (.int .u8 0) 1 1 Tryd.underlying22 hi hz0 hz1 hz2 rfl (by decide) _ (ln + 1 + 1) _ (by rfl) (HO11.out.alloc _) ⟨w11.heap.size, 0, none⟩ 1 1 [.int .u8 (V : Int)] (by rfl) rfl (World.news_of_block (heap_alloc_new _ _)) (by simp [Value.oneCell']) (by decide) (by unfold maxLen; omega) (by omega) (by simp; omega) _ rfl ?_; intro g12 c12 w12 ho12 hg12 hat12 _; have HO12 := Lib.hid ho12; have HF12 := Lib.hid ((HF10.out.trans (Fr.below (HB11.out.alloc hs11 _))).trans (Fr.app (v' := .slice (some ⟨g12, 0, none⟩) (ln + 1 + 1 + 1) c12) hg12 (by rcases hat12 with h | h; exact .inl h.symm; exact .inr (by rw [h]; rfl)))); have hk12 : ∀ (q j : Nat) u, w11.cell? ⟨q, j, none⟩ = some u → (q = wo.heap.size ∨ q = gp) → w12.cell? ⟨q, j, none⟩ = some u := (fun q j u h hq => by rw [hg12.cell_far _ (by have := World.block_lt_of_cell? w11 _ h; simp at this ⊢; omega) (by rcases hq with rfl | rfl; exact (fun e => by simp [Value.ownBlock] at e; exact HX10.out e.symm); exact HGB.out)]; exact cellB (below1 w11 _) h); have hS5 : (fun W => W.cell? ⟨wo.heap.size, 0, none⟩ = some (.int .i64 21) ∧ W.cell? ⟨wo.heap.size, 1, none⟩ = some (.int .i64 (a : Int)) ∧ W.cell? ⟨wo.heap.size, 2, none⟩ = some (.int .i64 (b' : Int)) ∧ W.cell? ⟨wo.heap.size, 3, none⟩ = some (.int .i64 (c : Int)) ∧ W.cell? ⟨wo.heap.size, 4, none⟩ = some (.int .i64 (N : Int)) ∧ W.cell? ⟨gp, k, none⟩ = some (.int .i64 (P : Int))) w12 := ⟨hk12 _ _ _ hS3.1 (.inl rfl), hk12 _ _ _ hS3.2.1 (.inl rfl), hk12 _ _ _ hS3.2.2.1 (.inl rfl), hk12 _ _ _ hS3.2.2.2.1 (.inl rfl), hk12 _ _ _ hS3.2.2.2.2.1 (.inl rfl), hk12 _ _ _ hS3.2.2.2.2.2 (.inr rfl)⟩; clear ho12 hg12 hat12))
        all_goals
         go_wp2_with (fail)
         go_roundw
         case rel =>
          refine ⟨k + 1, by omega, by go_num, ?_, HF12.out⟩
          have e1 : (encF ns (longN ns) (k + 1)).length = ln + 1 + 1 + 1 := by rw [HEN2.out, HLE.out]; simp
          have e2 : u8s (encF ns (longN ns) (k + 1)) = u8s (encF ns (longN ns) k) ++ [.int .u8 ((21 + 128 * t1 : Nat) : Int)] ++ [.int .u8 (a : Int)] ++ [.int .u8 (V : Int)] := by rw [HEN2.out, HTE.out, ← HVE.out]; simp [u8s]
          rw [e1, e2]; exact HO12.out
         case measure => simp [intOf]; omega
   ·obtain rfl : k = n := by omega
    go_wp2_with (fail)
    try go_ret2
    exact HEP.out _ true (encF ns (longN ns) k) _ _ rfl ⟨fun _ => HOK.out, fun _ => rfl⟩ (fun _ => by rw [HLN.out]) HOW.out (HB5.out.trans (HFR.out.below_of hs5 (fun q hq => by simp at hq) (fun q hq => by simp [Value.ownBlock] at hq; omega)))
end Go.Proofs.YtbdbmmdnidonjaaDoor
