/- The reference's run of a program: how it stands in memory; its small functions. The reference's run: expressions but for calls. The reference's run: 'and', ops between two. -/
import Derived.Test.YtpnliencahnmoaaGreatDoorQ10
import Derived.Test.YtpnliencahnmoaaGreatDoorQ13
set_option linter.unusedVariables false
set_option linter.unusedSimpArgs false
set_option linter.unusedVariables false
set_option linter.unusedSimpArgs false
set_option maxRecDepth 100000
namespace Go.Proofs.YtpnliencahnmoaaGreatDoor
open Go.RowKit
set_option maxHeartbeats 1000000 in
theorem struth_any (w : World) (p : Bool) (v : Nat) (hv : v = if p then 1 else 0) : Calls Tryz.prog 192 #[.bool p] w fun e w' => e = .returned (.int .i64 (v : Int)) ∧ w' = w := by
  subst hv
  cases p
  · go_enter Tryz.func192, Tryz.ntmps192
    go_wp2_with (fail)
    go_ret
    exact ⟨rfl, rfl⟩
  · go_enter Tryz.func192, Tryz.ntmps192
    go_wp2_with (fail)
    go_ret
    exact ⟨rfl, rfl⟩
/-- what l5Two answers -/
def twoR : Option Nat → Value
  | some v => .tuple #[.int .i64 (v : Int), .int .i64 0]
  | none => .tuple #[.int .i64 0, .int .i64 1]
set_option maxHeartbeats 2000000 in
theorem two_any (w : World) (op a b : Nat) (h1 : 3 ≤ op) (h2 : op ≤ 9) (ha : a < 256) (hb : b < 256) :
    Calls Tryz.prog 193 #[.int .i64 (op : Int), .int .i64 (a : Int), .int .i64 (b : Int)] w fun e w' => e = .returned (twoR (arithN op a b)) ∧ w' = w := by
  have HT := Lib.hid (fun w' p v hv => struth_any w' p v hv)
  have hc : op = 3 ∨ op = 4 ∨ op = 5 ∨ op = 6 ∨ op = 7 ∨ op = 8 ∨ op = 9 := by omega
  rcases hc with rfl | rfl | rfl | rfl | rfl | rfl | rfl
  · go_enter Tryz.func193, Tryz.ntmps193
    go_wp2_with (fail)
    refine bodyPost_ret (v := .tuple #[.int .i64 (((a + b) % 256 : Nat) : Int), .int .i64 0]) (by simp [results, Tryz.results193, go_sem]) rfl ⟨?_, rfl⟩
    rfl
  · go_enter Tryz.func193, Tryz.ntmps193
    go_wp2_with (fail)
    refine bodyPost_ret (v := .tuple #[.int .i64 (((a + 256 - b) % 256 : Nat) : Int), .int .i64 0]) (by simp [results, Tryz.results193, go_sem]; omega) rfl ⟨?_, rfl⟩
    rfl
  · have hp0 : (0 : Int) ≤ (a : Int) * b := Int.mul_nonneg (by omega) (by omega)
    have hp1 : (a : Int) * b < 65536 := by
      have h := Nat.mul_lt_mul'' ha hb
      have h2 : ((a * b : Nat) : Int) < ((256 * 256 : Nat) : Int) := by exact_mod_cast h
      rw [Int.natCast_mul] at h2
      exact h2
    go_enter Tryz.func193, Tryz.ntmps193
    go_wp2_with (fail)
    refine bodyPost_ret (v := .tuple #[.int .i64 ((a * b % 256 : Nat) : Int), .int .i64 0]) (by simp [results, Tryz.results193, go_sem]) rfl ⟨?_, rfl⟩
    rfl
  · by_cases hb0 : b = 0
    · subst hb0
      go_enter Tryz.func193, Tryz.ntmps193
      go_wp2_with (fail)
      refine bodyPost_ret (v := .tuple #[.int .i64 0, .int .i64 1]) (by simp [results, Tryz.results193, go_sem]) rfl ⟨?_, rfl⟩
      rfl
    · have hbi : ¬ (b : Int) = 0 := by omega
      have hq0 : (0 : Int) ≤ (a : Int) / b := Int.ediv_nonneg (by omega) (by omega)
      have hq1 : (a : Int) / b < 256 := by
        have h := Nat.div_le_self a b
        have h2 : ((a / b : Nat) : Int) ≤ (a : Int) := by exact_mod_cast h
        rw [Int.natCast_ediv] at h2
        omega
      go_enter Tryz.func193, Tryz.ntmps193
      go_wp2_with (fail)
      refine bodyPost_ret (v := .tuple #[.int .i64 ((a / b : Nat) : Int), .int .i64 0]) (by simp [results, Tryz.results193, go_sem]) rfl ⟨?_, rfl⟩
      simp [twoR, arithN, hb0]
  · by_cases hb0 : b = 0
    · subst hb0
      go_enter Tryz.func193, Tryz.ntmps193
      go_wp2_with (fail)
      refine bodyPost_ret (v := .tuple #[.int .i64 0, .int .i64 1]) (by simp [results, Tryz.results193, go_sem]) rfl ⟨?_, rfl⟩
      rfl
    · have hbi : ¬ (b : Int) = 0 := by omega
      go_enter Tryz.func193, Tryz.ntmps193
      go_wp2_with (fail)
      refine bodyPost_ret (v := .tuple #[.int .i64 ((a % b : Nat) : Int), .int .i64 0]) (by simp [results, Tryz.results193, go_sem]) rfl ⟨?_, rfl⟩
      simp [twoR, arithN, hb0]
  · go_enter Tryz.func193, Tryz.ntmps193
    go_wp2_with (fail)
    obtain ⟨v, hv⟩ : ∃ v : Nat, v = if a < b then 1 else 0 := ⟨_, rfl⟩
    have hv2 : v = if decide (a < b) = true then 1 else 0 := by rw [hv]; simp
    have hav : twoR (arithN 8 a b) = .tuple #[.int .i64 (v : Int), .int .i64 0] := by rw [hv]; rfl
    have HAV := Lib.hid hav
    refine (HT.out _ _ v hv2).mono ?_
    rintro e _ ⟨rfl, rfl⟩
    clear hv hv2 hav
    go_wp2_with (fail)
    refine bodyPost_ret (v := .tuple #[.int .i64 (v : Int), .int .i64 0]) (by simp [results, Tryz.results193, go_sem]) rfl ⟨by rw [HAV.out], rfl⟩
  · go_enter Tryz.func193, Tryz.ntmps193
    go_wp2_with (fail)
    obtain ⟨v, hv⟩ : ∃ v : Nat, v = if a = b then 1 else 0 := ⟨_, rfl⟩
    have hv2 : v = if ((a : Int) == (b : Int)) = true then 1 else 0 := by rw [hv]; simp [Int.ofNat_inj]
    have hav : twoR (arithN 9 a b) = .tuple #[.int .i64 (v : Int), .int .i64 0] := by rw [hv]; rfl
    have HAV := Lib.hid hav
    refine (HT.out _ _ v hv2).mono ?_
    rintro e _ ⟨rfl, rfl⟩
    clear hv hv2 hav
    go_wp2_with (fail)
    refine bodyPost_ret (v := .tuple #[.int .i64 (v : Int), .int .i64 0]) (by simp [results, Tryz.results193, go_sem]) rfl ⟨by rw [HAV.out], rfl⟩
theorem blkc7 {w : World} {p : Nat} {a b c d e f g : Value} (h : Blk w p [a, b, c, d, e, f, g]) : w.cell? ⟨p, 0, none⟩ = some a ∧ w.cell? ⟨p, 1, none⟩ = some b ∧ w.cell? ⟨p, 2, none⟩ = some c ∧ w.cell? ⟨p, 3, none⟩ = some d ∧ w.cell? ⟨p, 4, none⟩ = some e ∧ w.cell? ⟨p, 5, none⟩ = some f ∧ w.cell? ⟨p, 6, none⟩ = some g := by
  refine ⟨?_, ?_, ?_, ?_, ?_, ?_, ?_⟩
  all_goals rw [h.cell]; rfl
/-- calls have as many arguments as the function takes -/
def chkA (fs : List Fx) : Nat → Ex → Bool
  | 0, _ => false
  | d + 1, .mk op _ name kids => (if op = 13 then (match fnIx fs name with | some j => decide ((fs[j]?.map fun f => f.params.length) = some kids.length) | none => false) else true) && kids.all (chkA fs d)
def stA (fs : List Fx) : Nat → St → Bool
  | 0, _ => false
  | d + 1, .mk _ _ args body els => args.all (chkA fs 6) && body.all (stA fs d) && els.all (stA fs d)
def exA (fs : List Fx) (d : Nat) (e : Ex) : Prop := exOk isNB d e = true ∧ chkA fs d e = true
theorem chkA_of {fs : List Fx} {k : Nat} {names : List ByteArray} : ∀ {d : Nat} {e : Ex}, chkE fs k names d e = true → chkA fs d e = true := by
  intro d
  induction d with
  | zero => intro e h; simp [chkE] at h
  | succ d ih =>
    intro e h
    obtain ⟨op, n, name, kids⟩ := e
    rw [chkE_eq] at h
    simp only [Bool.and_eq_true, List.all_eq_true] at h
    obtain ⟨⟨_, h2⟩, h3⟩ := h
    simp only [chkA, Bool.and_eq_true, List.all_eq_true]
    refine ⟨?_, fun x hx => ih (h3 x hx)⟩
    by_cases o : op = 13
    · rw [if_pos o] at h2 ⊢
      cases hf : fnIx fs name with
      | none => rw [hf] at h2; cases h2
      | some j =>
        rw [hf] at h2
        simp only [Bool.and_eq_true] at h2
        exact h2.2
    · rw [if_neg o]
theorem stA_of {fs : List Fx} {k : Nat} : ∀ {d : Nat} {inn out : List ByteArray} {x : St}, chkS fs k d inn out x = true → stA fs d x = true := by
  intro d
  induction d with
  | zero => intro inn out x h; simp [chkS] at h
  | succ d ih =>
    intro inn out x h
    rw [chkS_eq] at h
    obtain ⟨h1, _, _, h4, h5⟩ := h
    have hl : ∀ (l : List St) (i o : List ByteArray), chkL (fun i y => chkS fs k d i o y) i l = true → l.all (stA fs d) = true := by
      intro l
      induction l with
      | nil => intro i o _; rfl
      | cons y r ihr =>
        intro i o h
        rw [chkL, Bool.and_eq_true] at h
        rw [List.all_cons, Bool.and_eq_true]
        exact ⟨ih h.1, ihr _ _ h.2⟩
    obtain ⟨op, name, args, body, els⟩ := x
    simp only [stA, Bool.and_eq_true]
    refine ⟨⟨?_, hl _ _ _ h4⟩, hl _ _ _ h5⟩
    rw [List.all_eq_true] at h1 ⊢
    exact fun y hy => chkA_of (h1 y hy)
theorem stA_all {fs : List Fx} {k d : Nat} {out : List ByteArray} : ∀ {l : List St} {inn : List ByteArray}, chkL (fun i y => chkS fs k d i out y) inn l = true → l.all (stA fs d) = true := by
  intro l
  induction l with
  | nil => intro _ _; rfl
  | cons y r ih =>
    intro inn h
    rw [chkL, Bool.and_eq_true] at h
    rw [List.all_cons, Bool.and_eq_true]
    exact ⟨stA_of h.1, ih h.2⟩
/-- a run: the program's row, what was said, how it ends, the cells' row, the fuel, is it over -/
structure Rn (w : World) (R CB B : Nat) (fv sv : Value) (s : Cm) (en : Nat) (over : Bool) : Prop where
  blk : Blk w R [fv, sv, .int .i64 (en : Int), .int .i64 0, .slice (some ⟨CB, 0, none⟩) 16 16, .int .i64 (s.left : Int), .bool over]
  cells : Blk w CB (nats s.cells)
  said : w.ownsRow B 3 1 sv s.said.length (nats s.said)
  ne : R ≠ CB ∧ sv.ownBlock ≠ some R ∧ sv.ownBlock ≠ some CB
  cm : CmOk s
  bd : s.said.length + s.left ≤ 8000
def envN (env : Env) : List ByteArray := (env.map Prod.fst).reverse
def envV (env : Env) : List Nat := (env.map Prod.snd).reverse
/-- the variables: names, values, has it ended with a value -/
structure En (w : World) (V B : Nat) (nv vv : Value) (env : Env) (back : Bool) (bv : Nat) : Prop where
  blk : Blk w V [nv, vv, .bool back, .int .i64 (bv : Int)]
  names : w.ownsRow B 9 1 nv env.length ((envN env).map Value.string)
  vals : w.ownsRow B 3 1 vv env.length (nats (envV env))
  ok : EnvOk env
/-- all apart -/
structure Ap (R CB V : Nat) (sv nv vv : Value) : Prop where
  v : V ≠ R ∧ V ≠ CB ∧ sv.ownBlock ≠ some V
  n : ∀ q, nv.ownBlock = some q → q ≠ R ∧ q ≠ CB ∧ q ≠ V ∧ sv.ownBlock ≠ some q ∧ vv.ownBlock ≠ some q
  u : ∀ q, vv.ownBlock = some q → q ≠ R ∧ q ≠ CB ∧ q ≠ V ∧ sv.ownBlock ≠ some q
theorem Rn.below {w w' : World} {R CB B : Nat} {fv sv : Value} {s : Cm} {en : Nat} {over : Bool} (h : Rn w R CB B fv sv s en over) (hb : Below w.heap.size w w') : Rn w' R CB B fv sv s en over :=
  ⟨h.blk.below hb, h.cells.below hb, ownsRow_below h.said hb, h.ne, h.cm, h.bd⟩
theorem En.below {w w' : World} {V B : Nat} {nv vv : Value} {env : Env} {back : Bool} {bv : Nat} (h : En w V B nv vv env back bv) (hb : Below w.heap.size w w') : En w' V B nv vv env back bv :=
  ⟨h.blk.below hb, ownsRow_below h.names hb, ownsRow_below h.vals hb, h.ok⟩
/-- a run's turn leaves the variables alone -/
theorem En.fr {w w' : World} {R CB V B : Nat} {sv sv' nv vv : Value} {env : Env} {back : Bool} {bv : Nat} (h : En w V B nv vv env back bv) (ha : Ap R CB V sv nv vv) (hf : Fr [R, CB] sv w sv' w') : En w' V B nv vv env back bv :=
  ⟨hf.blk h.blk (by simp; exact ⟨ha.v.1, ha.v.2.1⟩) ha.v.2.2,
   ownsRow_same h.names (fun q hq => hf.block (World.ownsRow.lt h.names q hq).2 (by simp; exact ⟨(ha.n q hq).1, (ha.n q hq).2.1⟩) (ha.n q hq).2.2.2.1),
   ownsRow_same h.vals (fun q hq => hf.block (World.ownsRow.lt h.vals q hq).2 (by simp; exact ⟨(ha.u q hq).1, (ha.u q hq).2.1⟩) (ha.u q hq).2.2.2), h.ok⟩
theorem Ap.fr {w w' : World} {R CB V B : Nat} {sv sv' nv vv : Value} {env : Env} {back : Bool} {bv : Nat} (ha : Ap R CB V sv nv vv) (h : En w V B nv vv env back bv) (hf : Fr [R, CB] sv w sv' w') : Ap R CB V sv' nv vv :=
  ⟨⟨ha.v.1, ha.v.2.1, hf.ne h.blk.lt ha.v.2.2⟩, fun q hq => ⟨(ha.n q hq).1, (ha.n q hq).2.1, (ha.n q hq).2.2.1, hf.ne (World.ownsRow.lt h.names q hq).2 (ha.n q hq).2.2.2.1, (ha.n q hq).2.2.2.2⟩,
   fun q hq => ⟨(ha.u q hq).1, (ha.u q hq).2.1, (ha.u q hq).2.2.1, hf.ne (World.ownsRow.lt h.vals q hq).2 (ha.u q hq).2.2.2⟩⟩
/-- what may turn, and what may turn then -/
structure Fq (S : List Nat) (w : World) (S' : List Nat) (w' : World) : Prop where
  only : Only S w w'
  row : ∀ k ∈ S', k ∈ S ∨ w.heap.size ≤ k
theorem Fq.refl (S : List Nat) (w : World) : Fq S w S w := ⟨Only.refl _ _, fun _ h => .inl h⟩
theorem Fq.trans {S S' S'' : List Nat} {a b c : World} (h : Fq S a S' b) (k : Fq S' b S'' c) : Fq S a S'' c :=
  ⟨⟨k.only.os.trans h.only.os, k.only.tape.trans h.only.tape, k.only.output.trans h.only.output, Nat.le_trans h.only.size k.only.size, fun i hi hn => by
    rw [k.only.block i (Nat.lt_of_lt_of_le hi h.only.size) (fun hm => (h.row i hm).elim hn (fun e => by omega)), h.only.block i hi hn]⟩,
   fun i hi => (k.row i hi).elim (fun hm => h.row i hm) (fun e => .inr (Nat.le_trans h.only.size e))⟩
theorem Fq.below {S : List Nat} {w w' : World} (hb : Below w.heap.size w w') : Fq S w S w' := ⟨Only.of_below hb _, fun _ h => .inl h⟩
theorem Fq.mono {S T S' T' : List Nat} {w w' : World} (h : Fq S w S' w') (hs : ∀ x ∈ S, x ∈ T) (ht : ∀ x ∈ T', x ∈ S' ∨ x ∈ T) : Fq T w T' w' :=
  ⟨h.only.mono hs, fun k hk => (ht k hk).elim (fun e => (h.row k e).elim (fun e => .inl (hs k e)) .inr) .inl⟩
def foot (R CB V : Nat) (sv nv vv : Value) : List Nat := [R, CB, V] ++ (sv.ownBlock.toList ++ (nv.ownBlock.toList ++ vv.ownBlock.toList))
theorem mem_foot {R CB V : Nat} {sv nv vv : Value} {k : Nat} : k ∈ foot R CB V sv nv vv ↔ k = R ∨ k = CB ∨ k = V ∨ sv.ownBlock = some k ∨ nv.ownBlock = some k ∨ vv.ownBlock = some k := by
  simp [foot, or_assoc]
theorem Fq.of_fr {R CB V : Nat} {sv sv' nv vv : Value} {w w' : World} (h : Fr [R, CB] sv w sv' w') : Fq (foot R CB V sv nv vv) w (foot R CB V sv' nv vv) w' := by
  refine ⟨h.only.mono (fun x hx => ?_), fun k hk => ?_⟩
  · rw [mem_foot]
    simp at hx
    rcases hx with h | h | h
    · exact .inl h
    · exact .inr (.inl h)
    · exact .inr (.inr (.inr (.inl h)))
  · rw [mem_foot] at hk ⊢
    rcases hk with e | e | e | e | e | e
    · exact .inl (.inl e)
    · exact .inl (.inr (.inl e))
    · exact .inl (.inr (.inr (.inl e)))
    · rcases h.row with hr | hr
      · exact .inl (.inr (.inr (.inr (.inl (by rw [← hr]; exact e)))))
      · exact .inr (hr k e)
    · exact .inl (.inr (.inr (.inr (.inr (.inl e)))))
    · exact .inl (.inr (.inr (.inr (.inr (.inr e)))))
def Rs.en : Rs → Nat
  | .ret _ _ => 0
  | .stop e _ => e
def Rs.over : Rs → Bool
  | .ret _ _ => false
  | .stop _ _ => true
def Rb.cm : Rb → Cm
  | .go _ s => s
  | .back _ s => s
  | .stop _ s => s
def Rb.en : Rb → Nat
  | .stop e _ => e
  | _ => 0
def Rb.over : Rb → Bool
  | .stop _ _ => true
  | _ => false
/-- how an expression answers -/
def EP (R CB B : Nat) (fv sv : Value) (s : Cm) (r : Rs) (w : World) (e : Ending) (w' : World) : Prop :=
  ∃ (z : Nat) (sv' : Value), e = .returned (.int .i64 (z : Int)) ∧ z < 256 ∧ (∀ v s', r = .ret v s' → z = v) ∧ Rn w' R CB B fv sv' r.cm r.en r.over ∧ Fr [R, CB] sv w sv' w' ∧ r.cm.left ≤ s.left
/-- how statements answer; lo: so many variables stand at least -/
def BP (R CB V B : Nat) (fv sv nv vv : Value) (lo : Nat) (s : Cm) (r : Rb) (ok : Env → Bool → Nat → Prop) (w : World) (e : Ending) (w' : World) : Prop :=
  ∃ (sv' nv' vv' : Value) (env' : Env) (back' : Bool) (bv' : Nat), e = .returned (.tuple #[]) ∧ Rn w' R CB B fv sv' r.cm r.en r.over ∧ En w' V B nv' vv' env' back' bv' ∧ Ap R CB V sv' nv' vv' ∧ lo ≤ env'.length ∧ ok env' back' bv' ∧
    Fq (foot R CB V sv nv vv) w (foot R CB V sv' nv' vv') w' ∧ r.cm.left ≤ s.left
/-- behind a block's end: only its own variables are gone -/
def OkB (n : Nat) (r : Rb) (env' : Env) (back' : Bool) (bv' : Nat) : Prop := env'.length = n ∧ (∀ e1 s1, r = .go e1 s1 → env' = e1.cut n ∧ back' = false ∧ bv' = 0) ∧ (∀ v s1, r = .back v s1 → back' = true ∧ bv' = v) ∧ bv' < 256
/-- behind a statement -/
def OkS (n : Nat) (r : Rb) (env' : Env) (back' : Bool) (bv' : Nat) : Prop := n ≤ env'.length ∧ (∀ e1 s1, r = .go e1 s1 → env' = e1 ∧ back' = false ∧ bv' = 0) ∧ (∀ v s1, r = .back v s1 → back' = true ∧ bv' = v) ∧ bv' < 256
set_option maxHeartbeats 1000000 in
theorem l5stop_any (w : World) (R CB B : Nat) (fv sv : Value) (s : Cm) (en k : Nat) (over : Bool) (h : Rn w R CB B fv sv s en over) :
    Calls Tryz.prog 153 #[.pointer (some ⟨R, 0, none⟩), .int .i64 (k : Int)] w fun e w' => e = .returned (.tuple #[]) ∧ Rn w' R CB B fv sv s (if over then en else k) true ∧ Fr [R, CB] sv w sv w' := by
  obtain ⟨c0, c1, c2, c3, c4, c5, c6⟩ := blkc7 h.blk
  have f2 := h.blk.frozen 2; have f6 := h.blk.frozen 6
  have HH := Lib.hid h
  clear h c0 c1 c3 c4 c5
  cases over
  · go_enter Tryz.func153, Tryz.ntmps153
    go_wp2_with (fail)
    go_end0
    have hne := HH.out.ne
    have hf : Fr [R, CB] sv w sv ((w.setCell ⟨R, 2, none⟩ (.int .i64 (k : Int))).setCell ⟨R, 6, none⟩ (.bool true)) := ((Fr.refl _ _ _).setIn (a := ⟨R, 2, none⟩) (by simp) _).setIn (a := ⟨R, 6, none⟩) (by simp) _
    refine ⟨rfl, ⟨(HH.out.blk.set 2 _).set 6 _, (HH.out.cells.other (by simp; exact fun e => hne.1 e.symm) _).other (by simp; exact fun e => hne.1 e.symm) _, ?_, hne, HH.out.cm, HH.out.bd⟩, hf⟩
    exact ownsRow_same HH.out.said (fun q hq => by
      rw [Below.heap_setCell _ _ _ _ (by simp; rintro rfl; exact hne.2.1 hq), Below.heap_setCell _ _ _ _ (by simp; rintro rfl; exact hne.2.1 hq)])
  · go_enter Tryz.func153, Tryz.ntmps153
    go_wp2_with (fail)
    go_end0
    exact ⟨rfl, HH.out, Fr.refl _ _ _⟩
theorem Rn.setR {w : World} {R CB B : Nat} {fv sv : Value} {s : Cm} {en : Nat} {over : Bool} (h : Rn w R CB B fv sv s en over) (j : Nat) (u : Value) {s' : Cm} {en' : Nat} {over' : Bool}
    (hb : [fv, sv, .int .i64 (en : Int), .int .i64 0, .slice (some ⟨CB, 0, none⟩) 16 16, .int .i64 (s.left : Int), .bool over].set j u = [fv, sv, .int .i64 (en' : Int), .int .i64 0, .slice (some ⟨CB, 0, none⟩) 16 16, .int .i64 (s'.left : Int), .bool over'])
    (hc : s'.cells = s.cells) (hs : s'.said = s.said) (hm : CmOk s') (hd : s'.said.length + s'.left ≤ 8000) : Rn (w.setCell ⟨R, j, none⟩ u) R CB B fv sv s' en' over' := by
  refine ⟨by rw [← hb]; exact h.blk.set j u, by rw [hc]; exact h.cells.other (by simp; exact fun e => h.ne.1 e.symm) _, ?_, h.ne, hm, hd⟩
  rw [hs]
  exact ownsRow_same h.said (fun q hq => Below.heap_setCell _ _ _ _ (by simp; rintro rfl; exact h.ne.2.1 hq))
def TakeP (R CB B : Nat) (fv sv : Value) (s : Cm) (w : World) (e : Ending) (w' : World) : Prop := e = .returned (.tuple #[]) ∧ (s.left = 0 → Rn w' R CB B fv sv s 3 true) ∧ (s.left ≠ 0 → Rn w' R CB B fv sv s.tick 0 false) ∧ Fr [R, CB] sv w sv w'
set_option maxHeartbeats 1000000 in
theorem l5take_any (w : World) (R CB B : Nat) (fv sv : Value) (s : Cm) (h : Rn w R CB B fv sv s 0 false) :
    Calls Tryz.prog 120 #[.pointer (some ⟨R, 0, none⟩)] w (TakeP R CB B fv sv s w) := by
  obtain ⟨c0, c1, c2, c3, c4, c5, c6⟩ := blkc7 h.blk
  have f5 := h.blk.frozen 5
  have HH := Lib.hid h
  have HS := Lib.hid (l5stop_any w R CB B fv sv s 0 3 false h)
  have hbd := h.bd
  obtain ⟨l, hl⟩ : ∃ l, l = s.left := ⟨_, rfl⟩
  rw [← hl] at c5 hbd
  have HL := Lib.hid hl
  clear h c0 c1 c2 c3 c4 c6 hl
  by_cases h0 : l = 0
  · have HZ := Lib.hid h0
    subst h0
    go_enter Tryz.func120, Tryz.ntmps120
    go_wp2_with (fail)
    go_at_call 153
    refine HS.out.mono ?_
    rintro e w2 ⟨rfl, hr, hf⟩
    have HR := Lib.hid hr; have HF := Lib.hid hf
    clear hr hf
    go_wp2_with (fail)
    go_end0
    exact ⟨rfl, fun _ => HR.out, fun h => absurd HL.out.symm h, HF.out⟩
  · have HZ := Lib.hid h0
    have h1 := neI (show ¬ (l : Int) = 0 by omega)
    have h2 : 0 < l := by omega
    clear h0
    go_enter Tryz.func120, Tryz.ntmps120
    go_wp2_with (fail)
    go_end0
    refine ⟨rfl, fun h => absurd (by rw [HL.out]; exact h) HZ.out, fun _ => ?_, (Fr.refl _ _ _).setIn (a := ⟨R, 5, none⟩) (by simp) _⟩
    have ht : s.tick.left = l - 1 := by show s.left - 1 = _; rw [← HL.out]
    refine HH.out.setR 5 _ ?_ rfl rfl HH.out.cm.tick (by show s.said.length + s.tick.left ≤ 8000; omega)
    rw [ht, show ((l - 1 : Nat) : Int) = (l : Int) - 1 by omega]
    rfl
theorem envN_cons (x : ByteArray) (v : Nat) (env : Env) : envN ((x, v) :: env) = envN env ++ [x] := by simp [envN]
theorem envV_cons (x : ByteArray) (v : Nat) (env : Env) : envV ((x, v) :: env) = envV env ++ [v] := by simp [envV]
theorem envN_len (env : Env) : (envN env).length = env.length := by simp [envN]
theorem envV_len (env : Env) : (envV env).length = env.length := by simp [envV]
/-- the place of a variable -/
theorem env_place {env : Env} {x : ByteArray} {v : Nat} (h : env.get x = some v) : ∃ i, (envN env)[i]? = some x ∧ (∀ j, i < j → (envN env)[j]? ≠ some x) ∧ (envV env)[i]? = some v ∧ ∀ u, envV (env.set x u) = (envV env).set i u ∧ envN (env.set x u) = envN env := by
  induction env with
  | nil => cases h
  | cons p r ih =>
    obtain ⟨y, u0⟩ := p
    unfold Env.get at h
    have hl := envN_len r
    have hl2 := envV_len r
    by_cases e : y = x
    · rw [if_pos e] at h
      injection h with h
      subst h
      subst e
      refine ⟨r.length, ?_, ?_, ?_, ?_⟩
      · rw [envN_cons, List.getElem?_append_right (by omega), hl]; simp
      · intro j hj; rw [envN_cons, List.getElem?_eq_none (by simp; omega)]; simp
      · rw [envV_cons, List.getElem?_append_right (by omega), hl2]; simp
      · intro u
        have : Env.set ((y, u0) :: r) y u = (y, u) :: r := by unfold Env.set; rw [if_pos rfl]
        rw [this, envV_cons, envV_cons, envN_cons, envN_cons]
        exact ⟨by rw [List.set_append_right _ _ (by omega), hl2]; simp, rfl⟩
    · rw [if_neg e] at h
      obtain ⟨i, h1, h2, h3, h4⟩ := ih h
      have hi := idx_lt h1
      have hi2 := idx_lt h3
      refine ⟨i, by rw [envN_cons, List.getElem?_append_left hi]; exact h1, ?_, by rw [envV_cons, List.getElem?_append_left hi2]; exact h3, ?_⟩
      · intro j hj
        rw [envN_cons]
        rcases Nat.lt_or_ge j (envN r).length with hjl | hjl
        · rw [List.getElem?_append_left hjl]; exact h2 j hj
        · rw [List.getElem?_append_right hjl]
          intro hh
          have := List.mem_singleton.1 (List.mem_of_getElem? hh)
          exact e this.symm
      · intro u
        have : Env.set ((y, u0) :: r) x u = (y, u0) :: Env.set r x u := by
          show (if y = x then _ else _) = _
          rw [if_neg e]
        rw [this, envV_cons, envV_cons, envN_cons, envN_cons, (h4 u).1, (h4 u).2]
        exact ⟨by rw [List.set_append_left _ _ hi2], rfl⟩
set_option maxHeartbeats 1000000 in
theorem l5Var_any (w : World) (B : Nat) (nv : Value) (ns : List ByteArray) (x : ByteArray) (i : Nat) (hN : w.ownsRow B 9 1 nv ns.length (ns.map Value.string)) (hl : ns.length ≤ 100000) (hi : ns[i]? = some x) (hlast : ∀ j, i < j → ns[j]? ≠ some x) :
    Calls Tryz.prog 155 #[nv, .string x] w fun e w' => e = .returned (.int .i64 (i : Int)) ∧ w' = w := by
  obtain ⟨n, hn⟩ : ∃ n, n = ns.length := ⟨_, rfl⟩
  have hil := idx_lt hi
  rw [← hn] at hN hl hil
  obtain ⟨g, cap, rfl⟩ := own_form hN (by omega)
  have HN := Lib.hid hN; have HI := Lib.hid hi; have HL := Lib.hid hlast; have Hn := Lib.hid hn
  clear hN hi hlast hn
  go_enter Tryz.func155, Tryz.ntmps155
  go_wp2_with (fail)
  go_loop [5] (fun k => ∃ j : Nat, j < n ∧ k = .int .i64 (j : Int) ∧ i ≤ j) (fun k => (intOf k).toNat)
  case atStart => exact ⟨n - 1, by omega, by congr 1; omega, by omega⟩
  case round =>
    obtain ⟨j, hj, rfl, hij⟩ := hrel
    obtain ⟨y, hy⟩ : ∃ y, ns[j]? = some y := ⟨_, List.getElem?_eq_getElem (by rw [← Hn.out]; exact hj)⟩
    have c0 := own_cell1 HN.out hj
    rw [List.getElem?_map, hy] at c0
    simp only [Option.map_some] at c0
    have j0 : (0 : Int) ≤ j := by omega
    have j1 : (j : Int) < n := by omega
    have HY := Lib.hid hy
    clear hy
    by_cases hyx : y = x
    · subst hyx
      obtain rfl : j = i := by
        rcases Nat.lt_or_ge i j with h | h
        · exact absurd HY.out (HL.out j h)
        · omega
      go_wp2_with (fail)
      go_ret
      exact ⟨rfl, rfl⟩
    · have hd := strNe hyx
      have hne : i ≠ j := fun e => by subst e; have := HI.out; rw [HY.out] at this; injection this with this; exact hyx this
      clear hyx
      go_wp2_with (fail)
      go_round
      case rel => exact ⟨j - 1, by omega, by congr 1; omega, by omega⟩
      case measure => simp [intOf]; omega
end Go.Proofs.YtpnliencahnmoaaGreatDoor

set_option linter.unusedVariables false
set_option linter.unusedSimpArgs false
set_option maxRecDepth 100000
namespace Go.Proofs.YtpnliencahnmoaaGreatDoor
open Go.RowKit
def notR : Rs → Rs
  | .ret v s1 => .ret (if v = 0 then 1 else 0) s1
  | x => x
def atR : Rs → Rs
  | .ret v s1 => if 16 ≤ v then .stop 2 s1 else .ret (s1.cells.getD v 0) s1
  | x => x
/-- what stands through a run -/
structure Cx (w0 : World) (fs : List Fx) (fv : Value) (R CB B : Nat) : Prop where
  at0 : FxsAt w0 fv fs
  b0 : w0.heap.size ≤ B
  hR : B ≤ R
  hCB : B ≤ CB
  ok : ∀ f ∈ fs, fxOk isNB f = true ∧ f.body.all (stA fs 4) = true
/-- expressions run with so much gas -/
def CE (w0 : World) (fs : List Fx) (fv : Value) (R CB B g : Nat) : Prop :=
  ∀ (d : Nat) (e : Ex) (kv : Value) (env : Env) (s : Cm) (r : Rs) (w : World) (V : Nat) (sv nv vv : Value) (bk : Bool) (bv : Nat), evE fs g e env s = some r → exA fs d e → e.name.size ≤ big → ExsAt w0 kv e.kids → Below w0.heap.size w0 w →
    Rn w R CB B fv sv s 0 false → En w V B nv vv env bk bv → Ap R CB V sv nv vv → env.length ≤ 20000 →
    Calls Tryz.prog 154 #[.pointer (some ⟨R, 0, none⟩), .agg #[.int .i64 e.op, .int .i64 e.n, .string e.name, kv], .pointer (some ⟨V, 0, none⟩)] w (EP R CB B fv sv s r w)
def ZeroB (w : World) (e : Ending) (w' : World) : Prop := e = .returned (.int .i64 0) ∧ Below w.heap.size w w'
set_option maxHeartbeats 1000000 in
theorem expr_over (w : World) (R CB B : Nat) (fv sv : Value) (s : Cm) (en : Nat) (h : Rn w R CB B fv sv s en true) (op n : Int) (nm : ByteArray) (kv pv : Value) :
    Calls Tryz.prog 154 #[.pointer (some ⟨R, 0, none⟩), .agg #[.int .i64 op, .int .i64 n, .string nm, kv], pv] w (ZeroB w) := by
  have h1 := h.below (below1 w (.cells #[.int .i64 op, .int .i64 n, .string nm, kv] 67))
  obtain ⟨_, _, _, _, _, _, c6⟩ := blkc7 h1.blk
  clear h h1
  go_enter Tryz.func154, Tryz.ntmps154
  go_wp2_with (fail)
  go_ret
  exact ⟨rfl, below1 _ _⟩
theorem Fr.of_below {fx : List Nat} {sv : Value} {w w' : World} (h : Below w.heap.size w w') : Fr fx sv w sv w' := Fr.below h
/-- behind the expression's box -/
theorem Rn.boxed {w : World} {R CB B : Nat} {fv sv : Value} {s : Cm} {en : Nat} {over : Bool} (h : Rn w R CB B fv sv s en over) (cs : Array Value) (t : TypeId) : Rn (w.alloc (.cells cs t)) R CB B fv sv s en over := h.below (below1 _ _)
set_option maxHeartbeats 2000000 in
theorem expr_num {w : World} {R CB B : Nat} {fv sv : Value} {s : Cm} (h : Rn w R CB B fv sv s 0 false) (n : Nat) (hn : n ≤ 255) (nm : ByteArray) (kv pv : Value) :
    Calls Tryz.prog 154 #[.pointer (some ⟨R, 0, none⟩), .agg #[.int .i64 1, .int .i64 n, .string nm, kv], pv] w (EP R CB B fv sv s (.ret n s) w) := by
  have h1 := h.boxed #[.int .i64 1, .int .i64 n, .string nm, kv] 67
  obtain ⟨_, _, _, _, _, _, c6⟩ := blkc7 h1.blk
  have H1 := Lib.hid h1
  clear h h1
  go_enter Tryz.func154, Tryz.ntmps154
  go_wp2_with (fail)
  go_ret
  exact ⟨n, sv, rfl, by omega, fun v s' e => by injection e with e _, H1.out, Fr.of_below (below1 _ _), Nat.le_refl _⟩
set_option maxHeartbeats 4000000 in
theorem expr_var {w : World} {R CB V B : Nat} {fv sv nv vv : Value} {s : Cm} {env : Env} {bk : Bool} {bv : Nat} (h : Rn w R CB B fv sv s 0 false) (hE : En w V B nv vv env bk bv) (hl : env.length ≤ 20000) (n : Int) (nm : ByteArray) (v : Nat) (hv : env.get nm = some v) (kv : Value) :
    Calls Tryz.prog 154 #[.pointer (some ⟨R, 0, none⟩), .agg #[.int .i64 2, .int .i64 n, .string nm, kv], .pointer (some ⟨V, 0, none⟩)] w (EP R CB B fv sv s (.ret v s) w) := by
  obtain ⟨i, hi1, hi2, hi3, _⟩ := env_place hv
  have hv256 : v < 256 := by
    have := List.mem_of_getElem? hi3
    unfold envV at this
    rw [List.mem_reverse, List.mem_map] at this
    obtain ⟨p, hp, rfl⟩ := this
    exact hE.ok p hp
  have hil : i < env.length := by have := idx_lt hi3; rw [envV_len] at this; exact this
  have h1 := h.boxed #[.int .i64 2, .int .i64 n, .string nm, kv] 67
  obtain ⟨_, _, _, _, _, _, c6⟩ := blkc7 h1.blk
  have H1 := Lib.hid h1; have HE := Lib.hid hE; have HI1 := Lib.hid hi1; have HI2 := Lib.hid hi2; have HI3 := Lib.hid hi3
  clear h h1 hE hi1 hi2 hi3 hv
  go_enter Tryz.func154, Tryz.ntmps154
  go_upto_region 7 with (fail)
  clear c6
  generalize hw1 : World.alloc _ _ = w1
  have hb1 : Below w.heap.size w w1 := by rw [← hw1]; exact below1 _ _
  obtain ⟨b0, b1, b2, b3⟩ : w1.cell? ⟨w.heap.size, 0, none⟩ = some (.int .i64 2) ∧ w1.cell? ⟨w.heap.size, 1, none⟩ = some (.int .i64 n) ∧ w1.cell? ⟨w.heap.size, 2, none⟩ = some (.string nm) ∧ w1.cell? ⟨w.heap.size, 3, none⟩ = some kv := by rw [← hw1]; exact box4i _ _ _ _ _ _
  have H1' : Hid (Rn w1 R CB B fv sv s 0 false) := Lib.hid (by rw [← hw1]; exact H1.out)
  have hE1 := HE.out.below hb1
  have HB1 := Lib.hid hb1
  obtain ⟨d0, d1, _, _⟩ := blkc4 hE1.blk
  obtain ⟨gu, cu, huf⟩ := own_form hE1.vals (by omega)
  obtain ⟨m, hm⟩ : ∃ m, m = env.length := ⟨_, rfl⟩
  have hV := hE1.vals
  rw [← hm] at huf hV hil
  rw [huf] at d1 hV
  have c0 := own_cell1 hV hil
  rw [nats_get (by rw [envV_len, ← hm]; exact hil)] at c0
  have hvd : (envV env).getD i 0 = v := by rw [List.getD_eq_getElem?_getD, HI3.out]; rfl
  rw [hvd] at c0
  have HV := Lib.hid (fun q => l5Var_any (w1.drewN q) B nv (envN env) nm i (by rw [envN_len]; exact ownsRow_below hE1.names (belowDr (Below.refl _ _) q)) (by rw [envN_len]; omega) HI1.out HI2.out)
  have i0 : (0 : Int) ≤ i := by omega
  have i1 : (i : Int) < m := by omega
  clear hw1 hb1 hE1 hvd huf hV hm H1
  go_quiet ((go_at_call 155; exact Calls.quiet_of_same (HV.out _)))
  clear b0 b1 b2 b3 d0 d1 c0
  generalize hw2 : World.drewN _ _ = w2
  have hb2 : Below w1.heap.size w1 w2 := by rw [← hw2]; exact belowDr (Below.refl _ _) _
  have H2 := Lib.hid (H1'.out.below hb2)
  have HB2 := Lib.hid (HB1.out.trans (hb2.mono HB1.out.size))
  clear hw2 hb2
  go_wp2_with (fail)
  go_ret
  exact ⟨v, sv, rfl, hv256, fun v' s' e => by injection e with e _, H2.out, Fr.of_below HB2.out, Nat.le_refl _⟩
set_option maxHeartbeats 4000000 in
theorem expr_not {w0 : World} {fs : List Fx} {w : World} {R CB V B : Nat} {fv sv nv vv : Value} {s : Cm} {env : Env} {bk : Bool} {bv : Nat} (hCx : Cx w0 fs fv R CB B) {g d : Nat} (hG : CE w0 fs fv R CB B g) (h : Rn w R CB B fv sv s 0 false) (hE : En w V B nv vv env bk bv) (hA : Ap R CB V sv nv vv) (hl : env.length ≤ 20000) (hb0 : Below w0.heap.size w0 w)
    (n : Int) (nm : ByteArray) (kv : Value) {a : Ex} (hkv : ExsAt w0 kv [a]) (hoka : exA fs d a) {r1 r : Rs} (hr1 : evE fs g a env s = some r1) (hr : notR r1 = r) :
    Calls Tryz.prog 154 #[.pointer (some ⟨R, 0, none⟩), .agg #[.int .i64 11, .int .i64 n, .string nm, kv], .pointer (some ⟨V, 0, none⟩)] w (EP R CB B fv sv s r w) := by
  have hb1 := below1 w (.cells #[.int .i64 11, .int .i64 n, .string nm, kv] 67)
  obtain ⟨aa, ac, hkf⟩ : ∃ aa ac, kv = .slice aa 1 ac := hkv.form
  obtain ⟨b, off, kva, hba, _, e0, e1, e2, e3, hka⟩ : ∃ b off kva, aa = some ⟨b, off, none⟩ ∧ b < w0.heap.size ∧ w0.cell? ⟨b, off, none⟩ = some (.int .i64 a.op) ∧ w0.cell? ⟨b, off + 1, none⟩ = some (.int .i64 a.n) ∧ w0.cell? ⟨b, off + 2, none⟩ = some (.string a.name) ∧ w0.cell? ⟨b, off + 3, none⟩ = some kva ∧ ExsAt w0 kva a.kids := by
    have h1 := hkv
    rw [hkf] at h1
    obtain ⟨b, off, kv', ha, hb, e0, e1, e2, e3, hk⟩ := h1.get (i := 0) (e := a) rfl
    simp only [Nat.zero_mul, Nat.add_zero] at e0 e1 e2 e3
    exact ⟨b, off, kv', ha, hb, e0, e1, e2, e3, hk⟩
  subst hba
  have hza := hkv.lens.2 0 a rfl
  subst hkf
  have hb01 := hb0.trans (hb1.mono hb0.size)
  have e0 := cellB hb01 e0; have e1 := cellB hb01 e1; have e2 := cellB hb01 e2; have e3 := cellB hb01 e3
  have HLT : Hid (w.heap.size ≠ R ∧ w.heap.size ≠ CB ∧ sv.ownBlock ≠ some w.heap.size) := Lib.hid ⟨by have := h.blk.lt; omega, by have := h.cells.lt; omega, fun e => by have := (World.ownsRow.lt h.said _ e).2; omega⟩
  have h1 := h.boxed #[.int .i64 11, .int .i64 n, .string nm, .slice (some ⟨b, off, none⟩) 1 ac] 67
  have hE1 := hE.below hb1
  obtain ⟨_, _, _, _, _, _, c6⟩ := blkc7 h1.blk
  have HC := Lib.hid (hG d a kva env s r1 _ V sv nv vv bk bv hr1 hoka hza hka hb01 h1 hE1 hA hl)
  have HB1 := Lib.hid hb1; have HB01 := Lib.hid hb01; have HE1 := Lib.hid hE1; have HA1 := Lib.hid hA; have HR := Lib.hid hr
  clear h1 h hE hE1 hb1 hb01 hkv hka hr1 hoka hza hr hA hb0 
  go_enter Tryz.func154, Tryz.ntmps154
  go_wp2_with (fail)
  go_at_call 154
  refine HC.out.mono ?_
  rintro e w2 ⟨z, sv2, rfl, hz, hzv, hR2, hF2, hL2⟩
  obtain ⟨_, c1, c2, _, c4, _, c6⟩ := blkc7 hR2.blk
  have q0 : w2.cell? ⟨w.heap.size, 0, none⟩ = some (.int .i64 11) ∧ w2.cell? ⟨w.heap.size, 3, none⟩ = some (.slice (some ⟨b, off, none⟩) 1 ac) := by
    have hq : Blk (w.alloc (.cells #[.int .i64 11, .int .i64 n, .string nm, .slice (some ⟨b, off, none⟩) 1 ac] 67)) w.heap.size [.int .i64 11, .int .i64 n, .string nm, .slice (some ⟨b, off, none⟩) 1 ac] := Blk.new _ _ _
    have hq2 := hF2.blk hq (by simp; exact ⟨HLT.out.1, HLT.out.2.1⟩) HLT.out.2.2
    exact ⟨(blkc4 hq2).1, (blkc4 hq2).2.2.2⟩
  obtain ⟨q0, q3⟩ := q0
  have HZV := Lib.hid hzv; have HR2 := Lib.hid hR2; have HF2 := Lib.hid ((Fr.below HB1.out).trans hF2); have HL2 := Lib.hid hL2; have HFE := Lib.hid hF2
  clear hzv hR2 hF2 hL2 c1 c2 e0 e1 e2 e3
  have hbz : ((z : Int) == 0) = decide (z = 0) := by by_cases e : z = 0 <;> simp [e]
  obtain ⟨v2, hv2⟩ : ∃ v2 : Nat, v2 = if decide (z = 0) = true then 1 else 0 := ⟨_, rfl⟩
  have HT := Lib.hid (fun w' => struth_any w' (decide (z = 0)) v2 hv2)
  have HV2 := Lib.hid hv2
  clear hv2
  go_wp2_with (fail)
  go_at_call 192
  refine (HT.out _).mono ?_
  rintro e _ ⟨rfl, rfl⟩
  go_wp2_with (fail)
  go_ret
  refine ⟨v2, sv2, rfl, ?_, ?_⟩
  · rw [HV2.out]; split <;> omega
  · rw [← HR.out]
    cases r1 with
    | ret v s1 =>
      refine ⟨fun v' s' e => ?_, HR2.out, HF2.out, HL2.out⟩
      injection e with e _
      rw [← e, HV2.out, HZV.out v s1 rfl]
      simp
    | stop en s1 => exact ⟨(fun v' s' e => by cases e), HR2.out, HF2.out, HL2.out⟩
set_option maxHeartbeats 4000000 in
theorem expr_at {w0 : World} {fs : List Fx} {w : World} {R CB V B : Nat} {fv sv nv vv : Value} {s : Cm} {env : Env} {bk : Bool} {bv : Nat} (hCx : Cx w0 fs fv R CB B) {g d : Nat} (hG : CE w0 fs fv R CB B g) (h : Rn w R CB B fv sv s 0 false) (hE : En w V B nv vv env bk bv) (hA : Ap R CB V sv nv vv) (hl : env.length ≤ 20000) (hb0 : Below w0.heap.size w0 w)
    (n : Int) (nm : ByteArray) (kv : Value) {a : Ex} (hkv : ExsAt w0 kv [a]) (hoka : exA fs d a) {r1 r : Rs} (hr1 : evE fs g a env s = some r1) (hr : atR r1 = r) :
    Calls Tryz.prog 154 #[.pointer (some ⟨R, 0, none⟩), .agg #[.int .i64 12, .int .i64 n, .string nm, kv], .pointer (some ⟨V, 0, none⟩)] w (EP R CB B fv sv s r w) := by
  have hb1 := below1 w (.cells #[.int .i64 12, .int .i64 n, .string nm, kv] 67)
  obtain ⟨aa, ac, hkf⟩ : ∃ aa ac, kv = .slice aa 1 ac := hkv.form
  obtain ⟨b, off, kva, hba, _, e0, e1, e2, e3, hka⟩ : ∃ b off kva, aa = some ⟨b, off, none⟩ ∧ b < w0.heap.size ∧ w0.cell? ⟨b, off, none⟩ = some (.int .i64 a.op) ∧ w0.cell? ⟨b, off + 1, none⟩ = some (.int .i64 a.n) ∧ w0.cell? ⟨b, off + 2, none⟩ = some (.string a.name) ∧ w0.cell? ⟨b, off + 3, none⟩ = some kva ∧ ExsAt w0 kva a.kids := by
    have h1 := hkv
    rw [hkf] at h1
    obtain ⟨b, off, kv', ha, hb, e0, e1, e2, e3, hk⟩ := h1.get (i := 0) (e := a) rfl
    simp only [Nat.zero_mul, Nat.add_zero] at e0 e1 e2 e3
    exact ⟨b, off, kv', ha, hb, e0, e1, e2, e3, hk⟩
  subst hba
  have hza := hkv.lens.2 0 a rfl
  subst hkf
  have hb01 := hb0.trans (hb1.mono hb0.size)
  have e0 := cellB hb01 e0; have e1 := cellB hb01 e1; have e2 := cellB hb01 e2; have e3 := cellB hb01 e3
  have HLT : Hid (w.heap.size ≠ R ∧ w.heap.size ≠ CB ∧ sv.ownBlock ≠ some w.heap.size) := Lib.hid ⟨by have := h.blk.lt; omega, by have := h.cells.lt; omega, fun e => by have := (World.ownsRow.lt h.said _ e).2; omega⟩
  have h1 := h.boxed #[.int .i64 12, .int .i64 n, .string nm, .slice (some ⟨b, off, none⟩) 1 ac] 67
  have hE1 := hE.below hb1
  obtain ⟨_, _, _, _, _, _, c6⟩ := blkc7 h1.blk
  have HC := Lib.hid (hG d a kva env s r1 _ V sv nv vv bk bv hr1 hoka hza hka hb01 h1 hE1 hA hl)
  have HB1 := Lib.hid hb1; have HB01 := Lib.hid hb01; have HE1 := Lib.hid hE1; have HA1 := Lib.hid hA; have HR := Lib.hid hr
  clear h1 h hE hE1 hb1 hb01 hkv hka hr1 hoka hza hr hA hb0 
  go_enter Tryz.func154, Tryz.ntmps154
  go_wp2_with (fail)
  go_at_call 154
  refine HC.out.mono ?_
  rintro e w2 ⟨z, sv2, rfl, hz, hzv, hR2, hF2, hL2⟩
  obtain ⟨_, c1, c2, _, c4, _, c6⟩ := blkc7 hR2.blk
  have q0 : w2.cell? ⟨w.heap.size, 0, none⟩ = some (.int .i64 12) ∧ w2.cell? ⟨w.heap.size, 3, none⟩ = some (.slice (some ⟨b, off, none⟩) 1 ac) := by
    have hq : Blk (w.alloc (.cells #[.int .i64 12, .int .i64 n, .string nm, .slice (some ⟨b, off, none⟩) 1 ac] 67)) w.heap.size [.int .i64 12, .int .i64 n, .string nm, .slice (some ⟨b, off, none⟩) 1 ac] := Blk.new _ _ _
    have hq2 := hF2.blk hq (by simp; exact ⟨HLT.out.1, HLT.out.2.1⟩) HLT.out.2.2
    exact ⟨(blkc4 hq2).1, (blkc4 hq2).2.2.2⟩
  obtain ⟨q0, q3⟩ := q0
  have HZV := Lib.hid hzv; have HR2 := Lib.hid hR2; have HF2 := Lib.hid ((Fr.below HB1.out).trans hF2); have HL2 := Lib.hid hL2; have HFE := Lib.hid hF2
  clear hzv hR2 hF2 hL2 c1 c2 e0 e1 e2 e3
  by_cases hz16 : 16 ≤ z
  · have HS := Lib.hid (l5stop_any w2 R CB B fv sv2 r1.cm r1.en 2 r1.over HR2.out)
    have hzi : (16 : Int) ≤ z := by omega
    go_wp2_with (fail)
    go_at_call 153
    refine HS.out.mono ?_
    rintro e w3 ⟨rfl, hR3, hF3⟩
    have HR3 := Lib.hid hR3; have HF3 := Lib.hid (HF2.out.trans hF3)
    clear hR3 hF3
    go_wp2_with (fail)
    go_ret
    refine ⟨0, sv2, rfl, by omega, ?_⟩
    rw [← HR.out]
    cases r1 with
    | ret v s1 =>
      have hvz := HZV.out v s1 rfl
      rw [show atR (.ret v s1) = .stop 2 s1 from if_pos (by omega)]
      exact ⟨(fun v' s' e => by cases e), HR3.out, HF3.out, HL2.out⟩
    | stop en s1 => exact ⟨(fun v' s' e => by cases e), HR3.out, HF3.out, HL2.out⟩
  · have hcl := HR2.out.cm.cells
    have d0 : w2.cell? ⟨CB, z, none⟩ = some (.int .i64 ((r1.cm.cells.getD z 0 : Nat) : Int)) := by
      rw [HR2.out.cells.cell, nats_get (by omega)]
    have hs := HR2.out.cm.cellsS.at z
    have hzi : (z : Int) < 16 := by omega
    have HCL := Lib.hid hcl
    obtain ⟨cv, hcv⟩ : ∃ cv, cv = r1.cm.cells.getD z 0 := ⟨_, rfl⟩
    rw [← hcv] at d0 hs
    have HCV := Lib.hid hcv
    clear hcl hcv
    go_wp2_with (fail)
    go_ret
    refine ⟨cv, sv2, rfl, hs, ?_⟩
    rw [← HR.out]
    cases r1 with
    | ret v s1 =>
      have hvz := HZV.out v s1 rfl
      rw [show atR (.ret v s1) = .ret (s1.cells.getD v 0) s1 from if_neg (by omega)]
      exact ⟨fun v' s' e => by injection e with e _; rw [← e, HCV.out, hvz]; rfl, HR2.out, HF2.out, HL2.out⟩
    | stop en s1 => exact ⟨(fun v' s' e => by cases e), HR2.out, HF2.out, HL2.out⟩
end Go.Proofs.YtpnliencahnmoaaGreatDoor

set_option linter.unusedVariables false
set_option linter.unusedSimpArgs false
set_option maxRecDepth 100000
namespace Go.Proofs.YtpnliencahnmoaaGreatDoor
open Go.RowKit
theorem Cx.bel {w0 : World} {fs : List Fx} {fv : Value} {R CB B : Nat} (h : Cx w0 fs fv R CB B) {w w' : World} {sv sv' : Value} {n : Nat} {xs : List Value} (hb : Below w0.heap.size w0 w) (hs : w.ownsRow B 3 1 sv n xs) (hf : Fr [R, CB] sv w sv' w') : Below w0.heap.size w0 w' :=
  hf.only.below hb hb.size (fun z hz => by
    have h0 := h.b0; have h1 := h.hR; have h2 := h.hCB
    rcases List.mem_append.1 hz with hz | hz
    · simp at hz; omega
    · have hz : sv.ownBlock = some z := by simpa using hz
      have := ownBlock_of hs z hz
      omega)
def andQ : Rs → Rs
  | .ret u s2 => .ret (if u = 0 then 0 else 1) s2
  | x => x
def andR : Rs → Rs → Rs
  | .ret v s1, q => if v = 0 then .ret 0 s1 else andQ q
  | .stop en s1, _ => .stop en s1
def twoQ (op v : Nat) : Rs → Rs
  | .ret u s2 => match arithN op v u with
    | some x => .ret x s2
    | none => .stop 1 s2
  | x => x
def twoRs (op : Nat) : Rs → Rs → Rs
  | .ret v _, q => twoQ op v q
  | .stop en s1, _ => .stop en s1
set_option maxHeartbeats 4000000 in
theorem expr_and {w0 : World} {fs : List Fx} {w : World} {R CB V B : Nat} {fv sv nv vv : Value} {s : Cm} {env : Env} {bk : Bool} {bv : Nat} (hCx : Cx w0 fs fv R CB B) {g d : Nat} (hG : CE w0 fs fv R CB B g) (h : Rn w R CB B fv sv s 0 false) (hE : En w V B nv vv env bk bv) (hA : Ap R CB V sv nv vv) (hl : env.length ≤ 20000) (hb0 : Below w0.heap.size w0 w)
    (n : Int) (nm : ByteArray) (kv : Value) {a a2 : Ex} (hkv : ExsAt w0 kv [a, a2]) (hoka : exA fs d a) (hokb : exA fs d a2) {r1 q r : Rs} (hr1 : evE fs g a env s = some r1) (hq : ∀ v s1, r1 = .ret v s1 → v ≠ 0 → evE fs g a2 env s1 = some q) (hq2 : ∀ en s1, r1 = .stop en s1 → q = r1) (hr : andR r1 q = r) :
    Calls Tryz.prog 154 #[.pointer (some ⟨R, 0, none⟩), .agg #[.int .i64 10, .int .i64 n, .string nm, kv], .pointer (some ⟨V, 0, none⟩)] w (EP R CB B fv sv s r w) := by
  have hb1 := below1 w (.cells #[.int .i64 10, .int .i64 n, .string nm, kv] 67)
  obtain ⟨aa, ac, hkf⟩ : ∃ aa ac, kv = .slice aa 2 ac := hkv.form
  obtain ⟨b, off, kva, hba, _, e0, e1, e2, e3, hka⟩ : ∃ b off kva, aa = some ⟨b, off, none⟩ ∧ b < w0.heap.size ∧ w0.cell? ⟨b, off, none⟩ = some (.int .i64 a.op) ∧ w0.cell? ⟨b, off + 1, none⟩ = some (.int .i64 a.n) ∧ w0.cell? ⟨b, off + 2, none⟩ = some (.string a.name) ∧ w0.cell? ⟨b, off + 3, none⟩ = some kva ∧ ExsAt w0 kva a.kids := by
    have h1 := hkv
    rw [hkf] at h1
    obtain ⟨b, off, kv', ha, hb, e0, e1, e2, e3, hk⟩ := h1.get (i := 0) (e := a) rfl
    simp only [Nat.zero_mul, Nat.add_zero] at e0 e1 e2 e3
    exact ⟨b, off, kv', ha, hb, e0, e1, e2, e3, hk⟩
  subst hba
  obtain ⟨kvb, f0, f1, f2, f3, hkb⟩ : ∃ kvb, w0.cell? ⟨b, off + 4, none⟩ = some (.int .i64 a2.op) ∧ w0.cell? ⟨b, off + 5, none⟩ = some (.int .i64 a2.n) ∧ w0.cell? ⟨b, off + 6, none⟩ = some (.string a2.name) ∧ w0.cell? ⟨b, off + 7, none⟩ = some kvb ∧ ExsAt w0 kvb a2.kids := by
    have h1 := hkv
    rw [hkf] at h1
    obtain ⟨b', off', kv', ha, hb, e0, e1, e2, e3, hk⟩ := h1.get (i := 1) (e := a2) rfl
    injection ha with ha
    injection ha with h1 h2 _
    subst h1 h2
    exact ⟨kv', e0, e1, e2, e3, hk⟩
  have hzb := hkv.lens.2 1 a2 rfl
  have hza := hkv.lens.2 0 a rfl
  subst hkf
  have hb01 := hb0.trans (hb1.mono hb0.size)
  have e0 := cellB hb01 e0; have e1 := cellB hb01 e1; have e2 := cellB hb01 e2; have e3 := cellB hb01 e3
  have HKB := Lib.hid hkb; have HZB := Lib.hid hzb; have HQ := Lib.hid hq; have HQ2 := Lib.hid hq2; have HOB := Lib.hid hokb; have HF0 := Lib.hid f0; have HF1 := Lib.hid f1; have HF2' := Lib.hid f2; have HF3 := Lib.hid f3; have HG := Lib.hid hG; have HCX := Lib.hid hCx; have HSD := Lib.hid h.said; have HL0 := Lib.hid hl
  clear hkb hzb hq hq2 hokb f0 f1 f2 f3
  have HLT : Hid (w.heap.size ≠ R ∧ w.heap.size ≠ CB ∧ sv.ownBlock ≠ some w.heap.size) := Lib.hid ⟨by have := h.blk.lt; omega, by have := h.cells.lt; omega, fun e => by have := (World.ownsRow.lt h.said _ e).2; omega⟩
  have h1 := h.boxed #[.int .i64 10, .int .i64 n, .string nm, .slice (some ⟨b, off, none⟩) 2 ac] 67
  have hE1 := hE.below hb1
  obtain ⟨_, _, _, _, _, _, c6⟩ := blkc7 h1.blk
  have HC := Lib.hid (hG d a kva env s r1 _ V sv nv vv bk bv hr1 hoka hza hka hb01 h1 hE1 hA hl)
  have HB1 := Lib.hid hb1; have HB01 := Lib.hid hb01; have HE1 := Lib.hid hE1; have HA1 := Lib.hid hA; have HR := Lib.hid hr
  clear h1 h hE hE1 hb1 hb01 hkv hka hr1 hoka hza hr hA hb0 
  go_enter Tryz.func154, Tryz.ntmps154
  go_wp2_with (fail)
  go_at_call 154
  refine HC.out.mono ?_
  rintro e w2 ⟨z, sv2, rfl, hz, hzv, hR2, hF2, hL2⟩
  obtain ⟨_, c1, c2, _, c4, _, c6⟩ := blkc7 hR2.blk
  have q0 : w2.cell? ⟨w.heap.size, 0, none⟩ = some (.int .i64 10) ∧ w2.cell? ⟨w.heap.size, 3, none⟩ = some (.slice (some ⟨b, off, none⟩) 2 ac) := by
    have hq : Blk (w.alloc (.cells #[.int .i64 10, .int .i64 n, .string nm, .slice (some ⟨b, off, none⟩) 2 ac] 67)) w.heap.size [.int .i64 10, .int .i64 n, .string nm, .slice (some ⟨b, off, none⟩) 2 ac] := Blk.new _ _ _
    have hq2 := hF2.blk hq (by simp; exact ⟨HLT.out.1, HLT.out.2.1⟩) HLT.out.2.2
    exact ⟨(blkc4 hq2).1, (blkc4 hq2).2.2.2⟩
  obtain ⟨q0, q3⟩ := q0
  have HZV := Lib.hid hzv; have HR2 := Lib.hid hR2; have HF2 := Lib.hid ((Fr.below HB1.out).trans hF2); have HL2 := Lib.hid hL2; have HFE := Lib.hid hF2
  clear hzv hR2 hF2 hL2 c1 c2 e0 e1 e2 e3
  by_cases hz0 : z = 0
  · have HZ0 := Lib.hid hz0
    subst hz0
    go_wp2_with (fail)
    go_ret
    refine ⟨0, sv2, rfl, by omega, ?_⟩
    rw [← HR.out]
    cases r1 with
    | ret v s1 =>
      have hvz := HZV.out v s1 rfl
      rw [show andR (.ret v s1) q = .ret 0 s1 from if_pos hvz.symm]
      exact ⟨fun v' s' e => by injection e with e _, HR2.out, HF2.out, HL2.out⟩
    | stop en s1 => exact ⟨(fun v' s' e => by cases e), HR2.out, HF2.out, HL2.out⟩
  have HZ0 := Lib.hid hz0
  have hzi := neI (show ¬ (z : Int) = 0 by omega)
  have hbel : Below w0.heap.size w0 w2 := HCX.out.bel HB01.out (ownsRow_below HSD.out HB1.out) HFE.out
  have f0 := cellB hbel HF0.out; have f1 := cellB hbel HF1.out; have f2 := cellB hbel HF2'.out; have f3 := cellB hbel HF3.out
  have HCB : Hid (Calls Tryz.prog 154 #[.pointer (some ⟨R, 0, none⟩), .agg #[.int .i64 a2.op, .int .i64 a2.n, .string a2.name, kvb], .pointer (some ⟨V, 0, none⟩)] w2 (EP R CB B fv sv2 r1.cm q w2)) := Lib.hid (by
    cases hc : r1 with
    | ret v s1 =>
      subst hc
      exact HG.out d a2 kvb env s1 q w2 V sv2 nv vv bk bv (HQ.out v s1 rfl (by rw [← HZV.out v s1 rfl]; exact HZ0.out)) HOB.out HZB.out HKB.out hbel HR2.out (HE1.out.fr HA1.out HFE.out) (HA1.out.fr HE1.out HFE.out) HL0.out
    | stop en s1 =>
      subst hc
      have e := HQ2.out en s1 rfl
      subst e
      refine (expr_over w2 R CB B fv sv2 s1 en HR2.out _ _ _ _ _).mono ?_
      rintro e w3 ⟨rfl, hb⟩
      exact ⟨0, sv2, rfl, by omega, fun v s' h => (by cases h), HR2.out.below hb, Fr.below hb, Nat.le_refl _⟩)
  clear hbel
  clear hz0
  go_wp2_with (fail)
  go_at_call 154
  refine HCB.out.mono ?_
  rintro e w3 ⟨z2, sv3, rfl, hz2, hzv2, hR3, hF3, hL3⟩
  have HZV2 := Lib.hid hzv2; have HR3 := Lib.hid hR3; have HF3 := Lib.hid (HF2.out.trans hF3); have HL3 : Hid (q.cm.left ≤ s.left) := Lib.hid (Nat.le_trans hL3 HL2.out)
  have hbz : ((z2 : Int) != 0) = !decide (z2 = 0) := by by_cases e : z2 = 0 <;> simp [e, bne]
  obtain ⟨v2, hv2⟩ : ∃ v2 : Nat, v2 = if (!decide (z2 = 0)) = true then 1 else 0 := ⟨_, rfl⟩
  have HT := Lib.hid (fun w' => struth_any w' (!decide (z2 = 0)) v2 hv2)
  have HV2 := Lib.hid hv2
  clear hzv2 hR3 hF3 hL3 hv2 HCB
  go_wp2_with (fail)
  go_at_call 192
  refine (HT.out _).mono ?_
  rintro e _ ⟨rfl, rfl⟩
  go_wp2_with (fail)
  go_ret
  refine ⟨v2, sv3, rfl, by rw [HV2.out]; split <;> omega, ?_⟩
  have hrq : r = andQ q ∧ (∀ u s2, q = .ret u s2 → z2 = u) := by
    refine ⟨?_, HZV2.out⟩
    rw [← HR.out]
    cases r1 with
    | ret v s1 => exact if_neg (by rw [← HZV.out v s1 rfl]; exact HZ0.out)
    | stop en s1 => rw [HQ2.out en s1 rfl]; rfl
  rw [hrq.1]
  cases q with
  | ret u s2 =>
    refine ⟨fun v' s' e => ?_, HR3.out, HF3.out, HL3.out⟩
    injection e with e _
    rw [← e, HV2.out, hrq.2 u s2 rfl]
    by_cases h : u = 0 <;> simp [h]
  | stop en s2 => exact ⟨(fun v' s' e => by cases e), HR3.out, HF3.out, HL3.out⟩
set_option maxHeartbeats 4000000 in
theorem expr_two {w0 : World} {fs : List Fx} {w : World} {R CB V B : Nat} {fv sv nv vv : Value} {s : Cm} {env : Env} {bk : Bool} {bv : Nat} (hCx : Cx w0 fs fv R CB B) {g d : Nat} (hG : CE w0 fs fv R CB B g) (h : Rn w R CB B fv sv s 0 false) (hE : En w V B nv vv env bk bv) (hA : Ap R CB V sv nv vv) (hl : env.length ≤ 20000) (hb0 : Below w0.heap.size w0 w)
    (n : Int) (nm : ByteArray) (kv : Value) {a a2 : Ex} (hkv : ExsAt w0 kv [a, a2]) {op : Nat} (hop : 3 ≤ op ∧ op ≤ 9) (hoka : exA fs d a) (hokb : exA fs d a2) {r1 q r : Rs} (hr1 : evE fs g a env s = some r1) (hq : ∀ v s1, r1 = .ret v s1 → evE fs g a2 env s1 = some q) (hq2 : ∀ en s1, r1 = .stop en s1 → q = r1) (hr : twoRs op r1 q = r) :
    Calls Tryz.prog 154 #[.pointer (some ⟨R, 0, none⟩), .agg #[.int .i64 (op : Int), .int .i64 n, .string nm, kv], .pointer (some ⟨V, 0, none⟩)] w (EP R CB B fv sv s r w) := by
  have hb1 := below1 w (.cells #[.int .i64 (op : Int), .int .i64 n, .string nm, kv] 67)
  obtain ⟨aa, ac, hkf⟩ : ∃ aa ac, kv = .slice aa 2 ac := hkv.form
  obtain ⟨b, off, kva, hba, _, e0, e1, e2, e3, hka⟩ : ∃ b off kva, aa = some ⟨b, off, none⟩ ∧ b < w0.heap.size ∧ w0.cell? ⟨b, off, none⟩ = some (.int .i64 a.op) ∧ w0.cell? ⟨b, off + 1, none⟩ = some (.int .i64 a.n) ∧ w0.cell? ⟨b, off + 2, none⟩ = some (.string a.name) ∧ w0.cell? ⟨b, off + 3, none⟩ = some kva ∧ ExsAt w0 kva a.kids := by
    have h1 := hkv
    rw [hkf] at h1
    obtain ⟨b, off, kv', ha, hb, e0, e1, e2, e3, hk⟩ := h1.get (i := 0) (e := a) rfl
    simp only [Nat.zero_mul, Nat.add_zero] at e0 e1 e2 e3
    exact ⟨b, off, kv', ha, hb, e0, e1, e2, e3, hk⟩
  subst hba
  obtain ⟨kvb, f0, f1, f2, f3, hkb⟩ : ∃ kvb, w0.cell? ⟨b, off + 4, none⟩ = some (.int .i64 a2.op) ∧ w0.cell? ⟨b, off + 5, none⟩ = some (.int .i64 a2.n) ∧ w0.cell? ⟨b, off + 6, none⟩ = some (.string a2.name) ∧ w0.cell? ⟨b, off + 7, none⟩ = some kvb ∧ ExsAt w0 kvb a2.kids := by
    have h1 := hkv
    rw [hkf] at h1
    obtain ⟨b', off', kv', ha, hb, e0, e1, e2, e3, hk⟩ := h1.get (i := 1) (e := a2) rfl
    injection ha with ha
    injection ha with h1 h2 _
    subst h1 h2
    exact ⟨kv', e0, e1, e2, e3, hk⟩
  have hzb := hkv.lens.2 1 a2 rfl
  have hza := hkv.lens.2 0 a rfl
  subst hkf
  have hb01 := hb0.trans (hb1.mono hb0.size)
  have e0 := cellB hb01 e0; have e1 := cellB hb01 e1; have e2 := cellB hb01 e2; have e3 := cellB hb01 e3
  have HKB := Lib.hid hkb; have HZB := Lib.hid hzb; have HQ := Lib.hid hq; have HQ2 := Lib.hid hq2; have HOB := Lib.hid hokb; have HF0 := Lib.hid f0; have HF1 := Lib.hid f1; have HF2' := Lib.hid f2; have HF3 := Lib.hid f3; have HG := Lib.hid hG; have HCX := Lib.hid hCx; have HSD := Lib.hid h.said; have HL0 := Lib.hid hl
  clear hkb hzb hq hq2 hokb f0 f1 f2 f3
  have HLT : Hid (w.heap.size ≠ R ∧ w.heap.size ≠ CB ∧ sv.ownBlock ≠ some w.heap.size) := Lib.hid ⟨by have := h.blk.lt; omega, by have := h.cells.lt; omega, fun e => by have := (World.ownsRow.lt h.said _ e).2; omega⟩
  have h1 := h.boxed #[.int .i64 (op : Int), .int .i64 n, .string nm, .slice (some ⟨b, off, none⟩) 2 ac] 67
  have hE1 := hE.below hb1
  obtain ⟨_, _, _, _, _, _, c6⟩ := blkc7 h1.blk
  have HC := Lib.hid (hG d a kva env s r1 _ V sv nv vv bk bv hr1 hoka hza hka hb01 h1 hE1 hA hl)
  have HB1 := Lib.hid hb1; have HB01 := Lib.hid hb01; have HE1 := Lib.hid hE1; have HA1 := Lib.hid hA; have HR := Lib.hid hr
  clear h1 h hE hE1 hb1 hb01 hkv hka hr1 hoka hza hr hA hb0 
  obtain ⟨ho1, ho2⟩ := hop
  have n1 : ((op : Int) == 1) = false := neI (by omega)
  have n2 : ((op : Int) == 2) = false := neI (by omega)
  have n13 : ((op : Int) == 13) = false := neI (by omega)
  have n11 : ((op : Int) == 11) = false := neI (by omega)
  have n12 : ((op : Int) == 12) = false := neI (by omega)
  have n10 : ((op : Int) == 10) = false := neI (by omega)
  go_enter Tryz.func154, Tryz.ntmps154
  go_wp2_with (fail)
  go_at_call 154
  refine HC.out.mono ?_
  rintro e w2 ⟨z, sv2, rfl, hz, hzv, hR2, hF2, hL2⟩
  obtain ⟨_, c1, c2, _, c4, _, c6⟩ := blkc7 hR2.blk
  have q0 : w2.cell? ⟨w.heap.size, 0, none⟩ = some (.int .i64 (op : Int)) ∧ w2.cell? ⟨w.heap.size, 3, none⟩ = some (.slice (some ⟨b, off, none⟩) 2 ac) := by
    have hq : Blk (w.alloc (.cells #[.int .i64 (op : Int), .int .i64 n, .string nm, .slice (some ⟨b, off, none⟩) 2 ac] 67)) w.heap.size [.int .i64 (op : Int), .int .i64 n, .string nm, .slice (some ⟨b, off, none⟩) 2 ac] := Blk.new _ _ _
    have hq2 := hF2.blk hq (by simp; exact ⟨HLT.out.1, HLT.out.2.1⟩) HLT.out.2.2
    exact ⟨(blkc4 hq2).1, (blkc4 hq2).2.2.2⟩
  obtain ⟨q0, q3⟩ := q0
  have HZV := Lib.hid hzv; have HR2 := Lib.hid hR2; have HF2 := Lib.hid ((Fr.below HB1.out).trans hF2); have HL2 := Lib.hid hL2; have HFE := Lib.hid hF2
  clear hzv hR2 hF2 hL2 c1 c2 e0 e1 e2 e3
  have hbel : Below w0.heap.size w0 w2 := HCX.out.bel HB01.out (ownsRow_below HSD.out HB1.out) HFE.out
  have f0 := cellB hbel HF0.out; have f1 := cellB hbel HF1.out; have f2 := cellB hbel HF2'.out; have f3 := cellB hbel HF3.out
  have HCB : Hid (Calls Tryz.prog 154 #[.pointer (some ⟨R, 0, none⟩), .agg #[.int .i64 a2.op, .int .i64 a2.n, .string a2.name, kvb], .pointer (some ⟨V, 0, none⟩)] w2 (EP R CB B fv sv2 r1.cm q w2)) := Lib.hid (by
    cases hc : r1 with
    | ret v s1 =>
      subst hc
      exact HG.out d a2 kvb env s1 q w2 V sv2 nv vv bk bv (HQ.out v s1 rfl) HOB.out HZB.out HKB.out hbel HR2.out (HE1.out.fr HA1.out HFE.out) (HA1.out.fr HE1.out HFE.out) HL0.out
    | stop en s1 =>
      subst hc
      have e := HQ2.out en s1 rfl
      subst e
      refine (expr_over w2 R CB B fv sv2 s1 en HR2.out _ _ _ _ _).mono ?_
      rintro e w3 ⟨rfl, hb⟩
      exact ⟨0, sv2, rfl, by omega, fun v s' h => (by cases h), HR2.out.below hb, Fr.below hb, Nat.le_refl _⟩)
  clear hbel
  go_wp2_with (fail)
  go_at_call 154
  refine HCB.out.mono ?_
  rintro e w3 ⟨z2, sv3, rfl, hz2, hzv2, hR3, hF3, hL3⟩
  have p0 : w3.cell? ⟨w.heap.size, 0, none⟩ = some (.int .i64 (op : Int)) := by
    have hq : Blk (w.alloc (.cells #[.int .i64 (op : Int), .int .i64 n, .string nm, .slice (some ⟨b, off, none⟩) 2 ac] 67)) w.heap.size [.int .i64 (op : Int), .int .i64 n, .string nm, .slice (some ⟨b, off, none⟩) 2 ac] := Blk.new _ _ _
    have hlt : w.heap.size < (w.alloc (.cells #[.int .i64 (op : Int), .int .i64 n, .string nm, .slice (some ⟨b, off, none⟩) 2 ac] 67)).heap.size := by simp
    have hq2 := hF3.blk (HFE.out.blk hq (by simp; exact ⟨HLT.out.1, HLT.out.2.1⟩) HLT.out.2.2) (by simp; exact ⟨HLT.out.1, HLT.out.2.1⟩) (HFE.out.ne hlt HLT.out.2.2)
    exact (blkc4 hq2).1
  obtain ⟨_, _, _, _, _, _, c6'⟩ := blkc7 hR3.blk
  have HZV2 := Lib.hid hzv2; have HR3 := Lib.hid hR3; have HF3 := Lib.hid (HF2.out.trans hF3); have HL3 : Hid (q.cm.left ≤ s.left) := Lib.hid (Nat.le_trans hL3 HL2.out)
  clear hzv2 hR3 hF3 hL3 HCB q0 q3 f0 f1 f2 f3 c4 c6
  have hrq : r = twoQ op z q := by
    rw [← HR.out]
    cases r1 with
    | ret v s1 => rw [HZV.out v s1 rfl]; rfl
    | stop en s1 => rw [HQ2.out en s1 rfl]; rfl
  cases q with
  | stop en s2 =>
    have HRQ : Hid (r = .stop en s2) := Lib.hid hrq
    clear hrq
    simp only [Rs.over] at c6'
    go_wp2_with (fail)
    go_ret
    refine ⟨0, sv3, rfl, by omega, ?_⟩
    rw [HRQ.out]
    exact ⟨(fun v' s' e => by cases e), HR3.out, HF3.out, HL3.out⟩
  | ret u s2 =>
    simp only [Rs.over] at c6'
    have huz : u = z2 := (HZV2.out u s2 rfl).symm
    subst huz
    have HTW := Lib.hid (fun w' => two_any w' op z u ho1 ho2 hz hz2)
    have hlt := @arithN_lt op z u
    cases har : arithN op z u with
    | none =>
      have HRQ : Hid (r = .stop 1 s2) := Lib.hid (by rw [hrq]; show (match arithN op z u with | some x => Rs.ret x s2 | none => Rs.stop 1 s2) = _; rw [har])
      rw [har] at HTW
      have HS := Lib.hid (l5stop_any w3 R CB B fv sv3 s2 0 1 false HR3.out)
      clear hrq har hlt
      go_wp2_with (fail)
      go_at_call 193
      refine (HTW.out _).mono ?_
      rintro e _ ⟨rfl, rfl⟩
      simp only [twoR]
      go_wp2_with (fail)
      go_at_call 153
      refine HS.out.mono ?_
      rintro e w4 ⟨rfl, hR4, hF4⟩
      have HR4 := Lib.hid hR4; have HF4 := Lib.hid (HF3.out.trans hF4)
      clear hR4 hF4
      go_wp2_with (fail)
      go_ret
      refine ⟨0, sv3, rfl, by omega, ?_⟩
      rw [HRQ.out]
      exact ⟨(fun v' s' e => by cases e), HR4.out, HF4.out, HL3.out⟩
    | some x =>
      have HRQ : Hid (r = .ret x s2) := Lib.hid (by rw [hrq]; show (match arithN op z u with | some x => Rs.ret x s2 | none => Rs.stop 1 s2) = _; rw [har])
      have hx := hlt hz hz2 har
      rw [har] at HTW
      clear hrq har hlt
      go_wp2_with (fail)
      go_at_call 193
      refine (HTW.out _).mono ?_
      rintro e _ ⟨rfl, rfl⟩
      simp only [twoR]
      go_wp2_with (fail)
      go_ret
      refine ⟨x, sv3, rfl, hx, ?_⟩
      rw [HRQ.out]
      exact ⟨fun v' s' e => by injection e with e _, HR3.out, HF3.out, HL3.out⟩
end Go.Proofs.YtpnliencahnmoaaGreatDoor
