/- The program's scopes: impl.FnAt, scope.open, scope.find, checker.fail. The program's check of names: expressions. The program's check of names: the parts of an expression. -/
import Derived.Test.YtpnliencahnmoaaGreatDoorQ10
set_option linter.unusedVariables false
set_option linter.unusedSimpArgs false
set_option linter.unusedVariables false
set_option linter.unusedSimpArgs false
set_option maxRecDepth 100000
namespace Go.Proofs.YtpnliencahnmoaaGreatDoor
open Go.RowKit
set_option maxHeartbeats 1000000 in
theorem fClo_any (w : World) (N : Nat) (nm : ByteArray) (hN : w.cell? ⟨N, 0, none⟩ = some (.string nm)) (f : Fx) (pv bv : Value) (q : Bool) (hp : StrsAt w pv f.params) (hb : StsAt w bv f.body) (hq : q = decide (f.name = nm)) :
    Calls Tryz.prog 139 #[.agg #[.string f.name, pv, bv], .pointer (some ⟨N, 0, none⟩)] w (BoolP q w) := by
  obtain ⟨pa, pc, hpf, _⟩ := hp.form
  obtain ⟨ba, bc, hbf⟩ := hb.form
  obtain ⟨pl, hpl⟩ : ∃ l, l = f.params.length := ⟨_, rfl⟩
  obtain ⟨bl, hbl⟩ : ∃ l, l = f.body.length := ⟨_, rfl⟩
  rw [← hpl] at hpf
  rw [← hbl] at hbf
  subst hpf hbf
  have x0 := cellB (below1 w (.cells #[.string f.name, .slice pa pl pc, .slice ba bl bc] 64)) hN
  have hb1 := below1 w (.cells #[.string f.name, .slice pa pl pc, .slice ba bl bc] 64)
  have HB1 := Lib.hid hb1
  clear hp hb hpl hbl hN hb1
  by_cases e : f.name = nm
  · have : q = true := by rw [hq]; exact decide_eq_true e
    subst this
    rw [e] at HB1 x0 ⊢
    clear e hq
    go_enter Tryz.func139, Tryz.ntmps139
    go_wp2_with (fail)
    go_ret
    exact ⟨by simp, HB1.out⟩
  · have : q = false := by rw [hq]; exact decide_eq_false e
    subst this
    have hne := strNe e
    clear e hq
    go_enter Tryz.func139, Tryz.ntmps139
    go_wp2_with (fail)
    go_ret
    exact ⟨by simp [hne], HB1.out⟩
set_option maxHeartbeats 1000000 in
theorem fnAt_any (w : World) (fs : List Fx) (fv : Value) (nm : ByteArray) (h : FxsAt w fv fs) : Calls Tryz.prog 98 #[.agg #[fv], .string nm] w (IdxP (idxI (fnIx fs nm)) w) := by
  have hmf : ∀ (fn : Fn) (first cap : Array Value) (w : World), (Instr.makeFunc fn first cap).run Tryz.prog w = .ok (.func fn first cap) w := fun _ _ _ _ => rfl
  obtain ⟨a, c, hf, _⟩ := h.form
  obtain ⟨w1, hw1⟩ : ∃ w1, w1 = (w.alloc (.cells #[fv] 31)).alloc (.cells #[.string nm] 9) := ⟨_, rfl⟩
  have hb1 : Below w.heap.size w w1 := by rw [hw1]; exact ((Below.refl _ w).alloc (Nat.le_refl _) _).alloc (by simp) _
  have hBX : Blk w1 w.heap.size [fv] := by rw [hw1]; exact (Blk.new _ _ _).alloc _
  have hBN : Blk w1 (w.heap.size + 1) [.string nm] := by rw [hw1]; exact Blk.fresh (by simp) rfl
  obtain ⟨N, hN⟩ : ∃ N, N = w.heap.size + 1 := ⟨_, rfl⟩
  rw [← hN] at hBN
  have HC := Lib.hid (fns_idx w1 fv fs (fun f => decide (f.name = nm)) N (h.below hb1) (fun k x pv bv w' hx hb hp hbv =>
    fClo_any w' N nm (by rw [(hBN.below hb).cell]; rfl) x pv bv _ hp hbv rfl))
  obtain ⟨m, hm⟩ : ∃ m, m = fs.length := ⟨_, rfl⟩
  rw [← hm] at hf
  subst hf
  have x0 : w1.cell? ⟨w.heap.size, 0, none⟩ = some (.slice a m c) := by rw [hBX.cell]; rfl
  obtain ⟨r, hr⟩ : ∃ r, r = idxI (fnIx fs nm) := ⟨_, rfl⟩
  rw [← hr]
  have hr2 : r = idxI (fs.findIdx? fun f => decide (f.name = nm)) := hr
  rw [← hr2] at HC
  have HB1 := Lib.hid hb1
  clear h hm hr hr2 hb1 hBX hBN
  go_enter Tryz.func98, Tryz.ntmps98
  go_upto_region 1 with (fail)
  rw [← hw1, ← hN]
  clear hw1 hN
  go_wp2_with (fail)
  go_at_call 138
  refine HC.out.mono ?_
  rintro e w2 ⟨rfl, hb⟩
  have HB2 := Lib.hid (HB1.out.trans (hb.mono HB1.out.size))
  clear hb
  go_wp2_with (fail)
  go_ret
  exact ⟨rfl, HB2.out⟩
/-- a chain of scopes, with the names that can be seen -/
inductive Sch (w : World) (B : Nat) : Nat → Value → List ByteArray → Prop where
  | nil (hi : Nat) : Sch w B hi (.pointer none) []
  | cons {hi p b n lo : Nat} {inn out : List ByteArray} {up : Value} {L : Env} (h1 : B ≤ lo) (h2 : lo ≤ p) (h3 : lo ≤ b) (h4 : p < hi) (h5 : b < hi) (h6 : p ≠ b) (hb : Blk w p [.map (some b), up]) (hm : Mp w b n L) (hn : n ≤ 8388608) (hl : ∀ s, (L.get s).isSome = memB inn s) (hu : Sch w B lo up out) :
    Sch w B hi (.pointer (some ⟨p, 0, none⟩)) (inn ++ out)
theorem Sch.keep {w w' : World} {B hi : Nat} {v : Value} {ns : List ByteArray} (h : Sch w B hi v ns) (hk : ∀ k, B ≤ k → k < hi → w'.heap[k]? = w.heap[k]?) : Sch w' B hi v ns := by
  induction h with
  | nil hi => exact .nil hi
  | cons h1 h2 h3 h4 h5 h6 hb hm hn hl hu ih => exact .cons h1 h2 h3 h4 h5 h6 (hb.same (hk _ (by omega) h4)) (hm.same (hk _ (by omega) h5)) hn hl (ih (fun k h8 h9 => hk k h8 (by omega)))
theorem Sch.wide {w : World} {B hi hi' : Nat} {v : Value} {ns : List ByteArray} (h : Sch w B hi v ns) (hh : hi ≤ hi') : Sch w B hi' v ns := by
  cases h with
  | nil => exact .nil _
  | cons h1 h2 h3 h4 h5 h6 hb hm hn hl hu => exact .cons h1 h2 h3 (by omega) (by omega) h6 hb hm hn hl hu
theorem Sch.ptr {w : World} {B hi : Nat} {v : Value} {ns : List ByteArray} (h : Sch w B hi v ns) : ∃ a, v = .pointer a := by
  cases h <;> exact ⟨_, rfl⟩
theorem memB_append (a b : List ByteArray) (x : ByteArray) : memB (a ++ b) x = (memB a x || memB b x) := by unfold memB; rw [List.any_append]
def ptrN : Value → Nat
  | .pointer (some a) => a.block + 1
  | _ => 0
/-- how find answers -/
def FndP (q : Bool) (w : World) (e : Ending) (w' : World) : Prop := ∃ n : Int, e = .returned (.tuple #[.int .i64 n, .bool q]) ∧ w = w'
set_option maxHeartbeats 2000000 in
theorem find_any (w : World) (B hi : Nat) (v : Value) (ns : List ByteArray) (s : ByteArray) (hs : s.size ≤ big) (h : Sch w B hi v ns) :
    Calls Tryz.prog 141 #[v, .string s] w (FndP (memB ns s) w) := by
  obtain ⟨q, hq⟩ : ∃ q, q = memB ns s := ⟨_, rfl⟩
  rw [← hq]
  have hml : s.size ≤ maxLen := by unfold maxLen; unfold big at hs; omega
  have HML := Lib.hid hml
  have hv : ∃ a, v = .pointer a := by cases h <;> exact ⟨_, rfl⟩
  obtain ⟨ad, rfl⟩ := hv
  have HH := Lib.hid h; have HQ := Lib.hid hq
  clear h hq hml hs
  go_enter Tryz.func141, Tryz.ntmps141
  go_wp2_with (fail)
  go_loopw [0] (fun v wr => ∃ (hi : Nat) (out : List ByteArray) (ad : Option Addr), v = .pointer ad ∧ wr = w ∧ Hid (Sch w B hi (.pointer ad) out ∧ q = memB out s)) (fun v _ => ptrN v)
  case atStart => exact ⟨hi, ns, ad, rfl, rfl, Lib.hid ⟨HH.out, HQ.out⟩⟩
  case round =>
    obtain ⟨hi2, out, ad2, rfl, rfl, HR⟩ := hrel
    have hcase : (ad2 = none ∧ q = false) ∨ ∃ (p b n lo : Nat) (inn o2 : List ByteArray) (au : Option Addr) (L : Env), ad2 = some ⟨p, 0, none⟩ ∧ out = inn ++ o2 ∧ lo ≤ p ∧ Blk wr p [.map (some b), .pointer au] ∧ Mp wr b n L ∧ (∀ s, (L.get s).isSome = memB inn s) ∧ Sch wr B lo (.pointer au) o2 := by
      obtain ⟨hA, hB⟩ := HR.out
      generalize hv : Value.pointer ad2 = vv at hA
      cases hA with
      | nil hi => injection hv with hv; exact .inl ⟨hv, hB⟩
      | cons h1 h2 h3 h4 h5 h6 hb hm hn hl hu =>
        injection hv with hv
        obtain ⟨au, hau⟩ := hu.ptr
        subst hau
        exact .inr ⟨_, _, _, _, _, _, au, _, hv, rfl, h2, hb, hm, hl, hu⟩
    rcases hcase with ⟨rfl, rfl⟩ | ⟨p, b, n, lo, inn, o2, au, L, rfl, rfl, hlo, hbk, hmp, hl, hu⟩
    · go_wp2_with (fail)
      refine bodyPost_ret (v := .tuple #[.int .i64 0, .bool false]) (by simp [results, Tryz.results141, go_sem]) rfl ?_
      exact ⟨0, rfl, rfl⟩
    · have x0 : wr.cell? ⟨p, 0, none⟩ = some (.map (some b)) := by rw [hbk.cell]; rfl
      have x1 : wr.cell? ⟨p, 1, none⟩ = some (.pointer au) := by rw [hbk.cell]; rfl
      have HMP := Lib.hid hmp; have HU := Lib.hid hu
      have hq2 := HR.out.2
      rw [memB_append, ← hl s] at hq2
      have HQ2 := Lib.hid hq2
      obtain ⟨r, hr⟩ : ∃ r, r = (L.get s).isSome := ⟨_, rfl⟩
      rw [← hr] at HQ2
      have HRR := Lib.hid hr
      have HPT : Hid (ptrN (.pointer au) ≤ lo) := Lib.hid (by cases hu with
        | nil => exact Nat.zero_le _
        | cons h1 h2 h3 h4 h5 h6 _ _ _ _ _ => exact h4)
      clear hbk hmp hl hu hq2 hr
      cases r
      · have hqo : q = memB o2 s := HQ2.out
        have HQO := Lib.hid hqo
        clear hqo
        go_wp2_with (at_lookup; refine wpList_mp_ok _ rfl _ _ rfl b n L rfl HMP.out s rfl HML.out ?_; rw [← HRR.out])
        go_roundw
        case rel => exact ⟨lo, o2, au, (by first | rfl | trivial), (by first | rfl | trivial), Lib.hid ⟨HU.out, HQO.out⟩⟩
        case measure =>
          have := HPT.out
          show ptrN (.pointer au) < ptrN (.pointer (some ⟨p, 0, none⟩))
          simp only [ptrN] at this ⊢
          omega
      · have hqo : q = true := HQ2.out
        subst hqo
        go_wp2_with (at_lookup; refine wpList_mp_ok _ rfl _ _ rfl b n L rfl HMP.out s rfl HML.out ?_; rw [← HRR.out])
        refine bodyPost_ret (v := .tuple #[.int .i64 (((L.get s).getD 0 : Nat) : Int), .bool true]) (by simp [results, Tryz.results141, go_sem]) rfl ?_
        exact ⟨_, rfl, rfl⟩
/-- how open answers: a scope of its own -/
def OpnP (w : World) (up : Value) (e : Ending) (w' : World) : Prop := ∃ (p b : Nat), e = .returned (.pointer (some ⟨p, 0, none⟩)) ∧ w.heap.size ≤ p ∧ w.heap.size ≤ b ∧ p ≠ b ∧ p < w'.heap.size ∧ Blk w' p [.map (some b), up] ∧ Mp w' b 0 [] ∧ Below w.heap.size w w'
set_option maxHeartbeats 1000000 in
theorem open_any (w : World) (au : Option Addr) : Calls Tryz.prog 100 #[.pointer au] w (OpnP w (.pointer au)) := by
  have hmm := @run_makeMap Tryz.prog
  go_enter Tryz.func100, Tryz.ntmps100
  go_wp2_with (fail)
  go_ret
  exact ⟨_, _, rfl, by simp, Nat.le_refl _, by omega, by simp, Blk.fresh (by simp) rfl, (Mp.made w).same (Below.heap_alloc _ _ _ (by simp)), ((Below.refl _ w).alloc (Nat.le_refl _) _).alloc (by simp) _⟩
/-- the checker lies in a block -/
def Ckr (w : World) (C : Nat) (fv : Value) (k code : Int) : Prop := Blk w C [fv, .int .i64 k, .int .i64 code]
/-- what a check leaves: a code that is 0 only if it was and all is well -/
def CkP (C : Nat) (fv : Value) (k code : Int) (ok : Bool) (w : World) (e : Ending) (w' : World) : Prop := e = .returned (.tuple #[]) ∧ Only [C] w w' ∧ ∃ code', Ckr w' C fv k code' ∧ (code' = 0 ↔ code = 0 ∧ ok = true)
set_option maxHeartbeats 1000000 in
theorem fail_any (w : World) (C : Nat) (fv : Value) (k code n : Int) (hC : Ckr w C fv k code) (hn : n ≠ 0) : Calls Tryz.prog 99 #[.pointer (some ⟨C, 0, none⟩), .int .i64 n] w (CkP C fv k code false w) := by
  have x2 : w.cell? ⟨C, 2, none⟩ = some (.int .i64 code) := by rw [Blk.cell hC]; rfl
  have f2 : w.frozen? ⟨C, 2, none⟩ = false := Blk.frozen hC 2
  have HC := Lib.hid hC
  have HN := Lib.hid hn
  clear hC hn
  by_cases e : code = 0
  · subst e
    go_enter Tryz.func99, Tryz.ntmps99
    go_wp2_with (fail)
    go_end0
    exact ⟨rfl, (Only.refl _ _).setCell (by simp) _, n, Blk.set HC.out 2 _, ⟨fun h => absurd h HN.out, fun h => by cases h.2⟩⟩
  · have h1 := neI e
    have HE := Lib.hid e
    clear e
    go_enter Tryz.func99, Tryz.ntmps99
    go_wp2_with (fail)
    go_end0
    exact ⟨rfl, Only.refl _ _, code, HC.out, ⟨fun h => absurd h HE.out, fun h => by cases h.2⟩⟩
end Go.Proofs.YtpnliencahnmoaaGreatDoor

set_option linter.unusedVariables false
set_option linter.unusedSimpArgs false
set_option maxRecDepth 100000
namespace Go.Proofs.YtpnliencahnmoaaGreatDoor
open Go.RowKit
def CapOk (v : Value) : Prop := ∀ a n c, v = .slice a n c → n ≤ c ∧ c ≤ big
/-- a check on its way: the functions, the scopes that are seen -/
structure Cks (w0 w : World) (fs : List Fx) (fv : Value) (k C B hi : Nat) (sv : Value) (names : List ByteArray) : Prop where
  b0 : Below w0.heap.size w0 w
  fx : FxsAt w0 fv fs
  c0 : w0.heap.size ≤ C
  cB : C < B
  sch : Sch w B hi sv names
  hiw : hi ≤ w.heap.size
  kl : k ≤ fs.length
  cap : CapOk fv
theorem Cks.only {w0 w w' : World} {fs : List Fx} {fv : Value} {k C B hi : Nat} {sv : Value} {names : List ByteArray} (h : Cks w0 w fs fv k C B hi sv names) (hO : Only [C] w w') : Cks w0 w' fs fv k C B hi sv names :=
  ⟨Only.below h.b0 hO h.b0.size (by simp; exact h.c0), h.fx, h.c0, h.cB, h.sch.keep (fun j h1 h2 => hO.block j (Nat.lt_of_lt_of_le h2 h.hiw) (by have := h.cB; simp; omega)), Nat.le_trans h.hiw hO.size, h.kl, h.cap⟩
theorem Cks.below {w0 w w' : World} {fs : List Fx} {fv : Value} {k C B hi : Nat} {sv : Value} {names : List ByteArray} (h : Cks w0 w fs fv k C B hi sv names) (hb : Below w.heap.size w w') : Cks w0 w' fs fv k C B hi sv names := h.only (Only.of_below hb _)
theorem Ckr.below {w w' : World} {C : Nat} {fv : Value} {k code : Int} (h : Ckr w C fv k code) (hb : Below w.heap.size w w') : Ckr w' C fv k code := Blk.below h hb
theorem FxsAt.take {w : World} {a : Option Addr} {n cap k : Nat} {fs : List Fx} (h : FxsAt w (.slice a n cap) fs) (hk : k ≤ fs.length) : FxsAt w (.slice a k cap) (fs.take k) := by
  obtain ⟨a', c', hf, hm, hc⟩ := h
  injection hf with h1 h2 h3
  subst h1 h2 h3
  refine ⟨_, _, by rw [List.length_take, Nat.min_eq_left hk], by rw [List.length_take]; omega, fun i f hi => hc i f ?_⟩
  rw [List.getElem?_take] at hi
  split at hi
  · exact hi
  · cases hi
theorem fnIx_take {fs : List Fx} {k : Nat} {s : ByteArray} : fnIx (fs.take k) s = (match fnIx fs s with | some j => if j < k then some j else none | none => none) := by
  cases h : fnIx fs s with
  | none =>
    simp only []
    unfold fnIx at h ⊢
    rw [List.findIdx?_eq_none_iff] at h ⊢
    exact fun x hx => h x (List.mem_of_mem_take hx)
  | some j =>
    simp only []
    unfold fnIx at h ⊢
    rw [List.findIdx?_eq_some_iff_getElem] at h
    obtain ⟨hl, h1, h2⟩ := h
    split
    · rename_i hj
      rw [List.findIdx?_eq_some_iff_getElem]
      refine ⟨by rw [List.length_take]; omega, by rw [List.getElem_take]; exact h1, fun i hi => by rw [List.getElem_take]; exact h2 i hi⟩
    · rename_i hj
      rw [List.findIdx?_eq_none_iff]
      intro x hx
      obtain ⟨i, hi, rfl⟩ := List.mem_take_iff_getElem.1 hx
      simpa using h2 i (by omega)
/-- what is asked of one part -/
def partB (fs : List Fx) (k : Nat) (names : List ByteArray) (op : Int) (name : ByteArray) (n : Nat) : Bool :=
  (if op = 2 then memB names name else true) && (if op = 13 then (match fnIx fs name with | some j => decide (j < k) && decide ((fs[j]?.map fun f => f.params.length) = some n) | none => false) else true)
theorem chkE_part (fs : List Fx) (k : Nat) (names : List ByteArray) (d : Nat) (op n : Int) (name : ByteArray) (kids : List Ex) : chkE fs k names (d + 1) (.mk op n name kids) = (partB fs k names op name kids.length && kids.all (chkE fs k names d)) := chkE_eq fs k names d op n name kids
theorem CkP.yes {C : Nat} {fv : Value} {k code : Int} {w0 w : World} (hO : Only [C] w0 w) (h : Ckr w C fv k code) : CkP C fv k code true w0 (.returned (.tuple #[])) w := ⟨rfl, hO, code, h, ⟨fun h => ⟨h, rfl⟩, fun h => h.1⟩⟩
set_option maxHeartbeats 4000000 in
theorem eClo_any (w0 w : World) (fs : List Fx) (fv : Value) (k C B hi SB CB : Nat) (sv : Value) (names : List ByteArray) (code op n : Int) (name : ByteArray) (ka : Option Addr) (kn kc : Nat) (ok : Bool) (h : Cks w0 w fs fv k C B hi sv names) (hC : Ckr w C fv k code)
    (hS : w.cell? ⟨SB, 0, none⟩ = some sv) (hB : w.cell? ⟨CB, 0, none⟩ = some (.pointer (some ⟨C, 0, none⟩))) (hz : name.size ≤ big) (hk : kn ≤ big) (hok : ok = partB fs k names op name kn) :
    Calls Tryz.prog 177 #[.agg #[.int .i64 op, .int .i64 n, .string name, .slice ka kn kc], .pointer (some ⟨SB, 0, none⟩), .pointer (some ⟨CB, 0, none⟩)] w (CkP C fv k code ok w) := by
  obtain ⟨w1, hw1⟩ : ∃ w1, w1 = w.alloc (.cells #[.int .i64 op, .int .i64 n, .string name, .slice ka kn kc] 67) := ⟨_, rfl⟩
  have hb1 : Below w.heap.size w w1 := by rw [hw1]; exact below1 _ _
  have HX1 : Hid (Blk w1 w.heap.size [.int .i64 op, .int .i64 n, .string name, .slice ka kn kc] ∧ Cks w0 w1 fs fv k C B hi sv names ∧ Ckr w1 C fv k code ∧ Only [C] w w1) := Lib.hid ⟨by rw [hw1]; exact Blk.new _ _ _, h.below hb1, hC.below hb1, Only.of_below hb1 _⟩
  obtain ⟨a, cap, hform, hmb⟩ := h.fx.form
  obtain ⟨m, hm⟩ : ∃ m, m = fs.length := ⟨_, rfl⟩
  rw [← hm] at hform hmb
  have hcap := h.cap a m cap hform
  have hkm : k ≤ m := by rw [hm]; exact h.kl
  obtain ⟨ad, rfl⟩ := h.sch.ptr
  subst hform
  have s0 := cellB hb1 hS; have b0 := cellB hb1 hB
  obtain ⟨z0, z1, z2, z3⟩ := blkc4 HX1.out.1
  obtain ⟨y0, y1, y2⟩ := blkc3 HX1.out.2.2.1
  have HM := Lib.hid hm; have HZ := Lib.hid hz; have HOK := Lib.hid hok
  have HCL : Hid (C ≠ w.heap.size) := Lib.hid (by have := Blk.lt hC; omega)
  unfold big at hmb hk hcap
  obtain ⟨hcap1, hcap2⟩ := hcap
  clear h hC hS hB hz hm hok hb1
  by_cases o2 : op = 2
  · subst o2
    obtain ⟨q, hq⟩ : ∃ q, q = memB names name := ⟨_, rfl⟩
    have HQ : Hid (ok = q) := Lib.hid (by rw [HOK.out, hq]; unfold partB; rw [if_pos rfl, if_neg (by decide), Bool.and_true])
    have HF := Lib.hid (find_any w1 B hi (.pointer ad) names name HZ.out HX1.out.2.1.sch)
    rw [← hq] at HF
    clear hq
    go_enter Tryz.func177, Tryz.ntmps177
    go_upto_region 1 with (fail)
    rw [← hw1]
    clear hw1
    go_wp2_with (fail)
    go_at_call 141
    refine HF.out.mono ?_
    rintro e _ ⟨fn, rfl, rfl⟩
    cases q
    · have hq := HQ.out
      subst hq
      go_wp2_with (fail)
      go_at_call 99
      refine (fail_any _ C _ _ code 3 HX1.out.2.2.1 (by decide)).mono ?_
      rintro e w2 ⟨rfl, hO, hCk⟩
      have HO := Lib.hid hO; have HCK := Lib.hid hCk
      clear hO hCk
      go_wp2_with (fail)
      go_end0
      exact ⟨rfl, HX1.out.2.2.2.trans HO.out, HCK.out⟩
    · have hq := HQ.out
      subst hq
      go_wp2_with (fail)
      go_end0
      exact CkP.yes HX1.out.2.2.2 HX1.out.2.2.1
  by_cases o13 : op = 13
  · subst o13
    have k0 : (0 : Int) ≤ k := by omega
    have k1 : (k : Int) ≤ cap := by omega
    have HFN := Lib.hid (fun (w' : World) (hb : Below w1.heap.size w1 w') => fnAt_any w' (fs.take k) (.slice a k cap) name ((HX1.out.2.1.fx.below (HX1.out.2.1.b0.trans (hb.mono HX1.out.2.1.b0.size))).take HX1.out.2.1.kl))
    obtain ⟨r, hr⟩ : ∃ r, r = fnIx (fs.take k) name := ⟨_, rfl⟩
    rw [← hr] at HFN
    have HRR := Lib.hid hr
    clear hr o2
    go_enter Tryz.func177, Tryz.ntmps177
    go_upto_region 7 with (fail)
    rw [← hw1]
    clear hw1
    go_still_tail 13, (by kernel_rfl)
    change wpList _ _ _ _ _ w1.drew
    generalize hwd : w1.drew = wd
    have hbd : Below w1.heap.size w1 wd := by rw [← hwd]; exact (Below.refl _ _).drew
    have HXd : Hid (Blk wd w.heap.size [.int .i64 13, .int .i64 n, .string name, .slice ka kn kc] ∧ Cks w0 wd fs (.slice a m cap) k C B hi (.pointer ad) names ∧ Ckr wd C (.slice a m cap) k code ∧ Only [C] w wd ∧ Below w1.heap.size w1 wd ∧ wd.cell? ⟨CB, 0, none⟩ = some (.pointer (some ⟨C, 0, none⟩))) := Lib.hid ⟨HX1.out.1.below hbd, HX1.out.2.1.below hbd, HX1.out.2.2.1.below hbd, HX1.out.2.2.2.trans (Only.of_below hbd _), hbd, cellB hbd b0⟩
    clear hwd hbd s0 b0 z0 z1 z2 z3 y0 y1 y2
    go_wp2_with (fail)
    go_at_call 98
    refine (HFN.out _ HXd.out.2.2.2.2.1).mono ?_
    rintro e w3 ⟨rfl, hb3⟩
    have HX3 : Hid (Blk w3 w.heap.size [.int .i64 13, .int .i64 n, .string name, .slice ka kn kc] ∧ Cks w0 w3 fs (.slice a m cap) k C B hi (.pointer ad) names ∧ Ckr w3 C (.slice a m cap) k code ∧ Only [C] w w3) := Lib.hid ⟨HXd.out.1.below hb3, HXd.out.2.1.below hb3, HXd.out.2.2.1.below hb3, HXd.out.2.2.2.1.trans (Only.of_below hb3 _)⟩
    have b0 := cellB hb3 HXd.out.2.2.2.2.2
    obtain ⟨z0, z1, z2, z3⟩ := blkc4 HX3.out.1
    obtain ⟨y0, y1, y2⟩ := blkc3 HX3.out.2.2.1
    clear hb3
    have hrt := HRR.out
    rw [fnIx_take] at hrt
    cases r with
    | none =>
      have hq : ok = false := by
        rw [HOK.out]; unfold partB
        rw [if_neg (by decide), if_pos rfl, Bool.true_and]
        cases hf : fnIx fs name with
        | none => rfl
        | some j =>
          rw [hf] at hrt
          simp only [] at hrt
          split at hrt
          · cases hrt
          · rename_i hj
            show (decide (j < k) && _) = false
            rw [decide_eq_false hj, Bool.false_and]
      subst hq
      clear hrt z0 z1 z2 z3 y0 y1 y2
      go_wp2_with (fail)
      go_at_call 99
      refine (fail_any _ C _ _ code 4 HX3.out.2.2.1 (by decide)).mono ?_
      rintro e w4 ⟨rfl, hO, hCk⟩
      have HO := Lib.hid hO; have HCK := Lib.hid hCk
      clear hO hCk
      go_wp2_with (fail)
      go_end0
      exact ⟨rfl, HX3.out.2.2.2.trans HO.out, HCK.out⟩
    | some j =>
      have hj : fnIx fs name = some j ∧ j < k := by
        cases hf : fnIx fs name with
        | none => rw [hf] at hrt; cases hrt
        | some i =>
          rw [hf] at hrt
          simp only [] at hrt
          split at hrt
          · rename_i hi; injection hrt with hrt; subst hrt; exact ⟨rfl, hi⟩
          · cases hrt
      obtain ⟨hf, hjk⟩ := hj
      have hjm : j < m := by omega
      obtain ⟨f, hfj⟩ : ∃ f, fs[j]? = some f := ⟨_, List.getElem?_eq_getElem (by rw [← HM.out]; exact hjm)⟩
      have hFw := HX3.out.2.1.fx.below HX3.out.2.1.b0
      obtain ⟨_, fb, fo, pv, bv, rfl, hbl, e0, e1, e2, hpv, hbv⟩ := hFw.get hfj
      obtain ⟨pa, pc, hpf, hpb⟩ := hpv.form
      obtain ⟨pl, hpl⟩ : ∃ l, l = f.params.length := ⟨_, rfl⟩
      rw [← hpl] at hpf hpb
      subst hpf
      unfold big at hpb
      have hkj0 : (0 : Int) ≤ j := by omega
      have hkj1 : (j : Int) < m := by omega
      have HPO : Hid (ok = decide (pl = kn)) := Lib.hid (by
        rw [HOK.out]; unfold partB
        rw [if_neg (by decide), if_pos rfl, Bool.true_and, hf]
        simp only []
        rw [decide_eq_true hjk, Bool.true_and, hfj]
        exact decide_eq_decide.mpr (by simp [hpl]))
      clear hrt hf hfj hFw hpv hbv hpl hbl e0 e2 z0 z1 z2 y1 y2 hjk hjm
      have idj : idxI (some j) = (j : Int) := rfl
      rw [idj]
      clear idj
      by_cases hpk : pl = kn
      · subst hpk
        have hq : ok = true := by rw [HPO.out]; simp
        subst hq
        go_wp2_with (fail)
        go_quiet (fail)
        go_wp2_with (fail)
        go_end0
        exact CkP.yes (HX3.out.2.2.2.trans (Only.of_below (belowDrewN (Below.refl _ _) _) _)) (HX3.out.2.2.1.below (belowDrewN (Below.refl _ _) _))
      · have hq : ok = false := by rw [HPO.out]; exact decide_eq_false hpk
        subst hq
        have hpk2 : ¬ (pl : Int) = kn := by omega
        have hpk3 : ((pl : Int) == kn) = false := neI hpk2
        have hpk4 : ((pl : Int) != kn) = true := by simpa using hpk2
        clear hpk
        go_wp2_with (fail)
        go_quiet (fail)
        go_wp2_with (fail)
        go_at_call 99
        refine (fail_any _ C _ _ code 5 (HX3.out.2.2.1.below (belowDrewN (Below.refl _ _) _)) (by decide)).mono ?_
        rintro e w4 ⟨rfl, hO, hCk⟩
        have HO := Lib.hid hO; have HCK := Lib.hid hCk
        clear hO hCk
        go_wp2_with (fail)
        go_end0
        exact ⟨rfl, (HX3.out.2.2.2.trans (Only.of_below (belowDrewN (Below.refl _ _) _) _)).trans HO.out, HCK.out⟩
  · have o2 := neI o2; have o13 := neI o13
    have hq : ok = true := by
      rw [HOK.out]; unfold partB
      rw [if_neg (by simpa using o2), if_neg (by simpa using o13)]; rfl
    subst hq
    go_enter Tryz.func177, Tryz.ntmps177
    go_upto_region 1 with (fail)
    rw [← hw1]
    clear hw1
    go_wp2_with (fail)
    go_end0
    exact CkP.yes HX1.out.2.2.2 HX1.out.2.2.1
end Go.Proofs.YtpnliencahnmoaaGreatDoor

set_option linter.unusedVariables false
set_option linter.unusedSimpArgs false
set_option maxRecDepth 100000
namespace Go.Proofs.YtpnliencahnmoaaGreatDoor
open Go.RowKit
theorem CkP.then {C : Nat} {fv : Value} {k code code2 : Int} {ok ok2 : Bool} {w0 w1 w2 : World} (hO : Only [C] w0 w1) (h1 : code2 = 0 ↔ code = 0 ∧ ok = true) {e : Ending} (h : CkP C fv k code2 ok2 w1 e w2) : CkP C fv k code (ok && ok2) w0 e w2 := by
  obtain ⟨h2, h3, c, h4, h5⟩ := h
  refine ⟨h2, hO.trans h3, c, h4, ?_⟩
  rw [h5, h1, Bool.and_eq_true, and_assoc]
theorem kids3 {d : Nat} {op n : Int} {name : ByteArray} {kids : List Ex} (h : exOk isNB (d + 1) (.mk op n name kids) = true) : kids.length ≤ 3 ∧ ∀ x ∈ kids, exOk isNB d x = true := by
  rw [exOk_eq] at h
  simp only [Bool.and_eq_true, List.all_eq_true] at h
  obtain ⟨⟨⟨⟨⟨_, hkn⟩, _⟩, _⟩, _⟩, hk⟩ := h
  refine ⟨?_, hk⟩
  rw [inR_iff] at hkn
  have : (kidsN op).2 ≤ 3 := by rcases kidsN_cases op with ⟨_, h⟩ | ⟨_, h⟩ | ⟨_, h⟩ | ⟨_, h⟩ | ⟨_, h⟩ | ⟨_, _, _, _, _, h⟩ <;> rw [h] <;> decide
  omega
set_option maxHeartbeats 4000000 in
theorem parts_any (w0 : World) (fs : List Fx) (fv : Value) (k C B hi SB CB : Nat) (sv : Value) (names : List ByteArray) (hSC : SB ≠ C) (hCC : CB ≠ C) : ∀ (d : Nat) (e : Ex) (w : World) (kv : Value) (code : Int), exOk isNB d e = true → e.name.size ≤ big → ExsAt w0 kv e.kids → Cks w0 w fs fv k C B hi sv names → Ckr w C fv k code → w.cell? ⟨SB, 0, none⟩ = some sv → w.cell? ⟨CB, 0, none⟩ = some (.pointer (some ⟨C, 0, none⟩)) →
    Calls Tryz.prog 176 #[.agg #[.int .i64 e.op, .int .i64 e.n, .string e.name, kv], .func (.func 177) #[] #[.pointer (some ⟨SB, 0, none⟩), .pointer (some ⟨CB, 0, none⟩)]] w (CkP C fv k code (chkE fs k names d e) w) := by
  intro d
  induction d with
  | zero => intro e w kv code h; simp [exOk] at h
  | succ d ih =>
    intro e w kv code hok hz hkv hK hC hS hB
    obtain ⟨op, n, name, kids⟩ := e
    simp only [Ex.op, Ex.n, Ex.name, Ex.kids] at hz hkv ⊢
    obtain ⟨hm3, hkok⟩ := kids3 hok
    obtain ⟨a, cap, hform⟩ := hkv.form
    obtain ⟨m, hm⟩ : ∃ m, m = kids.length := ⟨_, rfl⟩
    rw [← hm] at hform hm3
    subst hform
    obtain ⟨ok1, h1⟩ : ∃ q, q = partB fs k names op name m := ⟨_, rfl⟩
    have HCHK : Hid (chkE fs k names (d + 1) (.mk op n name kids) = (ok1 && kids.all (chkE fs k names d))) := Lib.hid (by rw [chkE_part, h1, hm])
    rw [HCHK.out]
    obtain ⟨w1, hw1⟩ : ∃ w1, w1 = w.alloc (.cells #[.int .i64 op, .int .i64 n, .string name, .slice a m cap] 67) := ⟨_, rfl⟩
    have hb1 : Below w.heap.size w w1 := by rw [hw1]; exact below1 _ _
    have HX1 : Hid (Blk w1 w.heap.size [.int .i64 op, .int .i64 n, .string name, .slice a m cap] ∧ Cks w0 w1 fs fv k C B hi sv names ∧ Ckr w1 C fv k code ∧ Only [C] w w1 ∧ w1.cell? ⟨SB, 0, none⟩ = some sv ∧ w1.cell? ⟨CB, 0, none⟩ = some (.pointer (some ⟨C, 0, none⟩))) :=
      Lib.hid ⟨by rw [hw1]; exact Blk.new _ _ _, hK.below hb1, hC.below hb1, Only.of_below hb1 _, cellB hb1 hS, cellB hb1 hB⟩
    have HCN : Hid (C ≠ w.heap.size) := Lib.hid (by have := Blk.lt hC; omega)
    have HH1 := Lib.hid h1; have HZ := Lib.hid hz; have HM := Lib.hid hm; have HKV := Lib.hid hkv; have HKO := Lib.hid hkok; have HSC := Lib.hid hSC; have HCC := Lib.hid hCC
    have HIH := Lib.hid ih
    have hml : m ≤ big := by unfold big; omega
    have HML := Lib.hid hml
    obtain ⟨z0, z1, z2, z3⟩ := blkc4 HX1.out.1
    clear hok hz hkv hK hC hS hB hkok hm h1 hb1 ih hml
    go_enter Tryz.func176, Tryz.ntmps176
    go_upto_region 1 with (fail)
    rw [← hw1]
    clear hw1
    go_wp2_with (fail)
    go_at_call 177
    refine (eClo_any w0 w1 fs fv k C B hi SB CB sv names code op n name a m cap ok1 HX1.out.2.1 HX1.out.2.2.1 HX1.out.2.2.2.2.1 HX1.out.2.2.2.2.2 HZ.out HML.out HH1.out).mono ?_
    rintro e w2 ⟨rfl, hO, c2, hC2, hc2⟩
    have HX2 : Hid (Cks w0 w2 fs fv k C B hi sv names ∧ Ckr w2 C fv k c2 ∧ (c2 = 0 ↔ code = 0 ∧ ok1 = true) ∧ Only [C] w w2 ∧ w2.cell? ⟨SB, 0, none⟩ = some sv ∧ w2.cell? ⟨CB, 0, none⟩ = some (.pointer (some ⟨C, 0, none⟩))) := Lib.hid ⟨HX1.out.2.1.only hO, hC2, hc2, HX1.out.2.2.2.1.trans hO, by
        rw [hO.cell (p := ⟨SB, 0, none⟩) (World.block_lt_of_cell? _ _ HX1.out.2.2.2.2.1) (by simp; exact HSC.out)]; exact HX1.out.2.2.2.2.1, by
        rw [hO.cell (p := ⟨CB, 0, none⟩) (World.block_lt_of_cell? _ _ HX1.out.2.2.2.2.2) (by simp; exact HCC.out)]; exact HX1.out.2.2.2.2.2⟩
    obtain ⟨z0, z1, z2, z3⟩ := blkc4 (hO.blk HX1.out.1 (by simp; exact fun e => HCN.out e.symm))
    clear hO hC2 hc2
    go_wp2_with (fail)
    go_loopw [12] (fun i wr => ∃ (j : Nat), j ≤ m ∧ i = .int .i64 (j : Int) ∧ Hid (∃ cr, Cks w0 wr fs fv k C B hi sv names ∧ Ckr wr C fv k cr ∧ (cr = 0 ↔ code = 0 ∧ (ok1 && (kids.take j).all (chkE fs k names d)) = true) ∧ Only [C] w wr ∧ wr.cell? ⟨SB, 0, none⟩ = some sv ∧ wr.cell? ⟨CB, 0, none⟩ = some (.pointer (some ⟨C, 0, none⟩)))) (fun i _ => m - (intOf i).toNat)
    case atStart => exact ⟨0, Nat.zero_le _, rfl, Lib.hid ⟨c2, HX2.out.1, HX2.out.2.1, by rw [HX2.out.2.2.1]; simp, HX2.out.2.2.2.1, HX2.out.2.2.2.2.1, HX2.out.2.2.2.2.2⟩⟩
    case round =>
      obtain ⟨j, hj, rfl, HR⟩ := hrel
      obtain ⟨cr, hR⟩ := HR.out
      have HRR := Lib.hid hR
      clear hR
      by_cases hlt : j < m
      · have hkl : j < kids.length := by rw [← HM.out]; exact hlt
        obtain ⟨x, hx⟩ : ∃ x, x = kids[j] := ⟨_, rfl⟩
        have hxk : kids[j]? = some x := by rw [hx]; exact List.getElem?_eq_getElem hkl
        obtain ⟨b', off, kv', rfl, hbl, e0, e1, e2, e3, hkx⟩ := HKV.out.get hxk
        have hbr := HRR.out.1.b0
        have e0 := cellB hbr e0; have e1 := cellB hbr e1; have e2 := cellB hbr e2; have e3 := cellB hbr e3
        obtain ⟨ka, kc, hkf⟩ := hkx.form
        obtain ⟨kl, hkl2⟩ : ∃ l, l = x.kids.length := ⟨_, rfl⟩
        rw [← hkl2] at hkf
        subst hkf
        have HC : Hid (∀ w', Below wr.heap.size wr w' → Calls Tryz.prog 176 #[.agg #[.int .i64 x.op, .int .i64 x.n, .string x.name, .slice ka kl kc], .func (.func 177) #[] #[.pointer (some ⟨SB, 0, none⟩), .pointer (some ⟨CB, 0, none⟩)]] w' (CkP C fv k cr (chkE fs k names d x) w')) := Lib.hid (fun w' hb =>
          HIH.out x w' _ cr (HKO.out x (List.mem_of_getElem? hxk)) (HKV.out.lens.2 j x hxk) hkx (HRR.out.1.below hb) (HRR.out.2.1.below hb) (cellB hb HRR.out.2.2.2.2.1) (cellB hb HRR.out.2.2.2.2.2))
        have HT := Lib.hid (all_take (chkE fs k names d) kids j x hxk)
        have k0 : (0 : Int) ≤ j := by omega
        have k1 : (j : Int) < m := by omega
        clear hkl hx hxk hkx hkl2 hbr hbl
        go_wp2_with (fail)
        go_at_call 176
        refine (HC.out _ (below1 _ _)).mono ?_
        rintro e w3 ⟨rfl, hO, c3, hC3, hc3⟩
        have hOr : Only [C] wr w3 := (Only.of_below (below1 wr _) _).trans hO
        have HX3 : Hid (∃ cr, Cks w0 w3 fs fv k C B hi sv names ∧ Ckr w3 C fv k cr ∧ (cr = 0 ↔ code = 0 ∧ (ok1 && (kids.take (j + 1)).all (chkE fs k names d)) = true) ∧ Only [C] w w3 ∧ w3.cell? ⟨SB, 0, none⟩ = some sv ∧ w3.cell? ⟨CB, 0, none⟩ = some (.pointer (some ⟨C, 0, none⟩))) := Lib.hid ⟨c3, HRR.out.1.only hOr, hC3, by
            rw [hc3, HRR.out.2.2.1, HT.out, ← Bool.and_assoc, Bool.and_eq_true, Bool.and_eq_true, and_assoc, and_assoc, Bool.and_eq_true, and_assoc], HRR.out.2.2.2.1.trans hOr, by
            rw [hOr.cell (p := ⟨SB, 0, none⟩) (World.block_lt_of_cell? _ _ HRR.out.2.2.2.2.1) (by simp; exact HSC.out)]; exact HRR.out.2.2.2.2.1, by
            rw [hOr.cell (p := ⟨CB, 0, none⟩) (World.block_lt_of_cell? _ _ HRR.out.2.2.2.2.2) (by simp; exact HCC.out)]; exact HRR.out.2.2.2.2.2⟩
        clear hO hOr hC3 hc3
        go_wp2_with (fail)
        go_roundw
        case rel => exact ⟨j + 1, by omega, by go_num, HX3⟩
        case measure => simp [intOf]; omega
      · have hje : j = m := by omega
        have HE : Hid (cr = 0 ↔ code = 0 ∧ (ok1 && kids.all (chkE fs k names d)) = true) := Lib.hid (by have := HRR.out.2.2.1; rw [hje, HM.out, List.take_length] at this; exact this)
        clear hje
        go_wp2_with (fail)
        go_end0
        exact ⟨rfl, HRR.out.2.2.2.1, cr, HRR.out.2.1, HE.out⟩
set_option maxHeartbeats 2000000 in
theorem ckExpr_any (w0 w : World) (fs : List Fx) (fv : Value) (k C B hi : Nat) (sv : Value) (names : List ByteArray) (d : Nat) (e : Ex) (kv : Value) (code : Int) (hok : exOk isNB d e = true) (hz : e.name.size ≤ big) (hkv : ExsAt w0 kv e.kids) (hK : Cks w0 w fs fv k C B hi sv names) (hC : Ckr w C fv k code) :
    Calls Tryz.prog 140 #[.pointer (some ⟨C, 0, none⟩), .agg #[.int .i64 e.op, .int .i64 e.n, .string e.name, kv], sv] w (CkP C fv k code (chkE fs k names d e) w) := by
  have hmf : ∀ (fn : Fn) (first cap : Array Value) (w : World), (Instr.makeFunc fn first cap).run Tryz.prog w = .ok (.func fn first cap) w := fun _ _ _ _ => rfl
  obtain ⟨ad, rfl⟩ := hK.sch.ptr
  obtain ⟨a, cap, hform⟩ := hkv.form
  have hkv2 := hkv
  obtain ⟨m, hm⟩ : ∃ m, m = e.kids.length := ⟨_, rfl⟩
  rw [← hm] at hform
  subst hform
  obtain ⟨w1, hw1⟩ : ∃ w1, w1 = ((w.alloc (.cells #[.pointer (some ⟨C, 0, none⟩)] 129)).alloc (.cells #[.int .i64 e.op, .int .i64 e.n, .string e.name, .slice a m cap] 67)).alloc (.cells #[.pointer ad] 134) := ⟨_, rfl⟩
  have hb1 : Below w.heap.size w w1 := by rw [hw1]; exact (((Below.refl _ w).alloc (Nat.le_refl _) _).alloc (by simp) _).alloc (by simp; omega) _
  have hBC : Blk w1 w.heap.size [.pointer (some ⟨C, 0, none⟩)] := by rw [hw1]; exact ((Blk.new _ _ _).alloc _).alloc _
  have hBE : Blk w1 (w.heap.size + 1) [.int .i64 e.op, .int .i64 e.n, .string e.name, .slice a m cap] := by rw [hw1]; exact (Blk.fresh (by simp) rfl).alloc _
  have hBS : Blk w1 (w.heap.size + 1 + 1) [.pointer ad] := by rw [hw1]; exact Blk.fresh (by simp) rfl
  obtain ⟨E, hE⟩ : ∃ E, E = w.heap.size + 1 := ⟨_, rfl⟩
  obtain ⟨S, hS⟩ : ∃ S, S = w.heap.size + 1 + 1 := ⟨_, rfl⟩
  rw [← hE] at hBE
  rw [← hS] at hBS
  have hCl := Blk.lt hC
  obtain ⟨z0, z1, z2, z3⟩ := blkc4 hBE
  have HCL := Lib.hid (parts_any w0 fs fv k C B hi S w.heap.size (.pointer ad) names (by omega) (by omega) d e w1 _ code hok hz hkv2 (hK.below hb1) (hC.below hb1) (by rw [hBS.cell]; rfl) (by rw [hBC.cell]; rfl))
  have HB1 := Lib.hid hb1
  clear hok hz hkv hkv2 hK hC hm hb1 hBC hBE hBS hCl
  go_enter Tryz.func140, Tryz.ntmps140
  go_upto_region 1 with (fail)
  rw [← hw1, ← hS, ← hE]
  clear hw1 hS hE
  go_wp2_with (fail)
  go_at_call 176
  refine HCL.out.mono ?_
  rintro _ w3 ⟨rfl, hO, c3, hC3, hc3⟩
  have HR := Lib.hid (And.intro hO (And.intro hC3 hc3))
  clear hO hC3 hc3
  go_wp2_with (fail)
  go_end0
  exact ⟨rfl, (Only.of_below HB1.out _).trans HR.out.1, c3, HR.out.2.1, HR.out.2.2⟩
end Go.Proofs.YtpnliencahnmoaaGreatDoor
