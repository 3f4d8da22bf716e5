/- Decoding in plain words: one instruction, all of a function's, jumps by their places. No program in sight. Where a number stands in a row: the reference's l10At leaves the world as it is. Images in plain words: where the functions lie, what an image is, its bytes. No program in sight. An image as a program of the plain machine: what lies at its places can be done. No program in sight. -/
import Derived.Test.YtbdbmmdnidonjaaDoorUJp
import Derived.Test.YtbdbmmdnidonjaaDoorUJo
set_option linter.unusedVariables false
set_option linter.unusedSimpArgs false
set_option maxRecDepth 100000
namespace Go.Proofs.YtbdbmmdnidonjaaDoor
open Go.RowKit
def byteN (cs : List Nat) (i : Nat) : Nat := cs.getD i 0
/-- how many bytes an op has -/
def sizO (op : Nat) (lg : Bool) : Nat := sizN ⟨op, 0, 0, 0, 0⟩ lg
def sgnN (v : Nat) : Int := if 127 < v then (v : Int) - 256 else v
def decI (cs : List Nat) (at_ op : Nat) (lg : Bool) (n : Nat) : Mi :=
 if jmpN op then ⟨op, if op = 21 then (byteN cs (at_ + 1) : Int) else 0, 0, 0, if lg then (byteN cs (at_ + n - 2) : Int) + 256 * byteN cs (at_ + n - 1) else (at_ : Int) + n + sgnN (byteN cs (at_ + n - 1))⟩
 else if shN op = 0 then ⟨op, byteN cs (at_ + 1), 0, 0, byteN cs (at_ + 2)⟩
 else if shN op = 1 then ⟨op, ((byteN cs (at_ + 1) % 8 : Nat) : Int), ((byteN cs (at_ + 1) / 8 : Nat) : Int), 0, 0⟩
 else if shN op = 2 then ⟨op, ((byteN cs (at_ + 1) % 8 : Nat) : Int), ((byteN cs (at_ + 1) / 8 : Nat) : Int), byteN cs (at_ + 2), 0⟩
 else if shN op = 4 then ⟨op, 0, 0, 0, byteN cs (at_ + 1)⟩
 else ⟨op, byteN cs (at_ + 1), 0, 0, 0⟩
def opAt (cs : List Nat) (at_ : Nat) : Nat := byteN cs at_ % 128
def lgAt (cs : List Nat) (at_ : Nat) : Bool := decide (128 ≤ byteN cs at_)
/-- is there an op at a place? -/
def isOp (cs : List Nat) (at_ : Nat) : Bool := decide (1 ≤ opAt cs at_) && decide (opAt cs at_ ≤ 22) && (!lgAt cs at_ || jmpN (opAt cs at_))
def sizAt (cs : List Nat) (at_ : Nat) : Nat := sizO (opAt cs at_) (lgAt cs at_)
def oneN (cs : List Nat) (at_ : Nat) : Option (Mi × Nat) :=
 if isOp cs at_ && decide (at_ + sizAt cs at_ ≤ cs.length) then some (decI cs at_ (opAt cs at_) (lgAt cs at_) (sizAt cs at_), sizAt cs at_) else none
theorem sizO_le (op : Nat) (lg : Bool) : 2 ≤ sizO op lg ∧ sizO op lg ≤ 4 := sizN_le _ _
theorem oneN_size {cs : List Nat} {at_ n : Nat} {x : Mi} (h : oneN cs at_ = some (x, n)) : 2 ≤ n ∧ n ≤ 4 ∧ at_ + n ≤ cs.length := by
 unfold oneN at h
 split at h
 ·rename_i hh
  injection h with h; injection h with h1 h2
  simp only [Bool.and_eq_true, decide_eq_true_eq] at hh
  have := sizO_le (opAt cs at_) (lgAt cs at_)
  unfold sizAt at *
  omega
 ·cases h
/-- the instructions behind a byte, and where they begin -/
def decF (cs : List Nat) : Nat → Nat → Option (List Mi × List Nat)
 |0, _ => none
 |g + 1, at_ => if at_ < cs.length then (match oneN cs at_ with | none => none | some (x, n) => (decF cs g (at_ + n)).map fun r => (x :: r.1, at_ :: r.2)) else some ([], [])
def decA (cs : List Nat) : Option (List Mi × List Nat) := decF cs (cs.length + 1) 0
theorem decF_more {cs : List Nat} : ∀ g g' at_, cs.length < g + at_ → cs.length < g' + at_ → 0 < g → 0 < g' → decF cs g at_ = decF cs g' at_
 |0, _, _, _, _, h, _ => by omega
 |_ + 1, 0, _, _, _, _, h => by omega
 |g + 1, g' + 1, at_, h1, h2, _, _ => by
  unfold decF
  by_cases hlt : at_ < cs.length
  ·rw [if_pos hlt, if_pos hlt]
   cases ho : oneN cs at_ with
   |none => rfl
   |some r =>
    obtain ⟨x, n⟩ := r
    have hs := oneN_size ho
    simp only []
    rw [decF_more g g' (at_ + n) (by omega) (by omega) (by omega) (by omega)]
  ·rw [if_neg hlt, if_neg hlt]
/-- so far: these instructions, at these places, and what is next -/
inductive DecTo (cs : List Nat) : List Mi → List Nat → Nat → Prop
 |start : DecTo cs [] [] 0
 |more {xs ps at_ x n} : DecTo cs xs ps at_ → at_ < cs.length → oneN cs at_ = some (x, n) → DecTo cs (xs ++ [x]) (ps ++ [at_]) (at_ + n)
theorem DecTo.lens {cs : List Nat} {xs : List Mi} {ps : List Nat} {at_ : Nat} (h : DecTo cs xs ps at_) : xs.length = ps.length ∧ 2 * xs.length ≤ at_ ∧ at_ ≤ cs.length ∧ at_ ≤ 4 * xs.length ∧ ∀ p ∈ ps, p < at_ := by
 induction h with
 |start => simp
 |more _ hlt ho ih =>
  have := oneN_size ho
  refine ⟨by simp [ih.1], by simp; omega, by omega, by simp; omega, fun p hp => ?_⟩
  rcases List.mem_append.1 hp with hp | hp
  ·have := ih.2.2.2.2 p hp; omega
  ·simp at hp; omega
theorem DecTo.dec {cs : List Nat} {xs : List Mi} {ps : List Nat} {at_ : Nat} (h : DecTo cs xs ps at_) : decA cs = (decF cs (cs.length + 1) at_).map fun r => (xs ++ r.1, ps ++ r.2) := by
 induction h with
 |start => unfold decA; cases decF cs (cs.length + 1) 0 <;> simp
 |@more xs ps at_ x n _ hlt ho ih =>
  have hs := oneN_size ho
  rw [ih]
  conv => lhs; unfold decF
  rw [if_pos hlt, ho]
  simp only []
  rw [decF_more cs.length (cs.length + 1) (at_ + n) (by omega) (by omega) (by omega) (by omega)]
  cases decF cs (cs.length + 1) (at_ + n) <;> simp
theorem DecTo.none {cs : List Nat} {xs : List Mi} {ps : List Nat} {at_ : Nat} (h : DecTo cs xs ps at_) (hlt : at_ < cs.length) (ho : oneN cs at_ = none) : decA cs = none := by
 rw [h.dec]
 unfold decF
 rw [if_pos hlt, ho]; rfl
theorem DecTo.all {cs : List Nat} {xs : List Mi} {ps : List Nat} {at_ : Nat} (h : DecTo cs xs ps at_) (hlt : ¬ at_ < cs.length) : decA cs = some (xs, ps) := by
 rw [h.dec]
 unfold decF
 rw [if_neg hlt]; simp
theorem DecTo.of {cs : List Nat} {xs : List Mi} {ps : List Nat} (h : decA cs = some (xs, ps)) : DecTo cs xs ps cs.length := by
 have key : ∀ g at_ ys qs, DecTo cs ys qs at_ → ∀ r, decF cs g at_ = some r → DecTo cs (ys ++ r.1) (qs ++ r.2) cs.length := by
  intro g
  induction g with
  |zero => intro at_ ys qs _ r hr; cases hr
  |succ g ih =>
   intro at_ ys qs hd r hr
   unfold decF at hr
   by_cases hlt : at_ < cs.length
   ·rw [if_pos hlt] at hr
    cases ho : oneN cs at_ with
    |none => rw [ho] at hr; cases hr
    |some xn =>
     obtain ⟨x, n⟩ := xn
     rw [ho] at hr
     simp only [Option.map_eq_some_iff] at hr
     obtain ⟨r', h1, rfl⟩ := hr
     have := ih (at_ + n) _ _ (hd.more hlt ho) r' h1
     simpa using this
   ·rw [if_neg hlt] at hr
    injection hr with hr
    subst hr
    have := hd.lens
    have he : at_ = cs.length := by omega
    subst he
    simpa using hd
 simpa using key (cs.length + 1) 0 [] [] DecTo.start (xs, ps) h
/-- where z stands first, or -1 -/
def atN (ps : List Nat) (z : Int) : Int := match ps.findIdx? (fun (p : Nat) => decide ((p : Int) = z)) with | some i => (i : Int) | none => -1
def jmpI (x : Mi) : Bool := jmpN x.op.toNat
def rsv (ps : List Nat) (x : Mi) : Mi := if jmpI x then { x with n := atN ps x.n } else x
open Classical in
noncomputable def decR (p s : Int) (cs : List Nat) : Option Mf :=
 match decA cs with
 |none => none
 |some (xs, ps) => if CanS ⟨p, s, xs.map (rsv ps)⟩ ∧ encF (nisOf ⟨p, s, xs.map (rsv ps)⟩) (longN (nisOf ⟨p, s, xs.map (rsv ps)⟩)) xs.length = cs then some ⟨p, s, xs.map (rsv ps)⟩ else none
end Go.Proofs.YtbdbmmdnidonjaaDoor
set_option maxRecDepth 100000
namespace Go.Proofs.YtbdbmmdnidonjaaDoor
open Go.RowKit
theorem isAt_eq {xs : List Nat} {z r : Int} (h : IsAt xs z r) : r = atN xs z := by
 unfold atN
 cases hf : xs.findIdx? (fun (p : Nat) => decide ((p : Int) = z)) with
 |none =>
  have hn := List.findIdx?_eq_none_iff.1 hf
  rcases h with ⟨h, _⟩ | ⟨k, _, hk, h2, _⟩
  ·exact h
  ·have := hn (xs.getD k 0) (by rw [List.getD_eq_getElem?_getD, List.getElem?_eq_getElem hk]; exact List.getElem_mem _)
   exact absurd h2 (of_decide_eq_false this)
 |some i =>
  obtain ⟨hi, hp, hall⟩ := List.findIdx?_eq_some_iff_getElem.1 hf
  have hp : ((xs[i] : Nat) : Int) = z := by simpa using hp
  have hg : ∀ j (hj : j < xs.length), xs.getD j 0 = xs[j] := fun j hj => by simp [List.getD_eq_getElem?_getD, hj]
  rcases h with ⟨_, h⟩ | ⟨k, hr, hk, h2, h3⟩
  ·exact absurd hp (by rw [← hg i hi]; exact h i hi)
  ·rw [hr]
   rcases Nat.lt_trichotomy i k with h | h | h
   ·exact absurd hp (by rw [← hg i hi]; exact h3 i h)
   ·rw [h]
   ·have := hall k h
    rw [hg k hk] at h2
    simp [h2] at this
set_option maxHeartbeats 1000000 in
theorem atq_any (w : World) (v : Value) (xs : List Nat) (z : Int) (h : NatsAt w v xs) (hn : xs.length ≤ 1048576) :
  Calls Tryd.prog 117 #[v, .int .i64 z] w fun e w' => e = .returned (.int .i64 (atN xs z)) ∧ w' = w := by
 obtain ⟨a, cap, rfl, hc⟩ := h
 obtain ⟨n, hnn⟩ : ∃ n, n = xs.length := ⟨_, rfl⟩
 have HR : Hid (∀ r : Int, ((r = -1 ∧ ∀ j, j < n → ((xs.getD j 0 : Nat) : Int) ≠ z) ∨ ∃ k : Nat, r = k ∧ k < n ∧ ((xs.getD k 0 : Nat) : Int) = z ∧ ∀ j, j < k → ((xs.getD j 0 : Nat) : Int) ≠ z) → r = atN xs z) := Lib.hid (by rw [hnn]; exact fun r h => isAt_eq h)
 rw [← hnn] at hn hc ⊢
 have HC := Lib.hid hc
 obtain ⟨R, hI⟩ : ∃ R, R = atN xs z := ⟨_, rfl⟩
 rw [← hI] at HR ⊢
 clear hc hnn hI
 go_enter Tryd.func117, Tryd.ntmps117
 go_wp2_with (fail)
 go_loopw [5] (fun i wr => ∃ k : Nat, k ≤ n ∧ i = .int .i64 k ∧ Hid (∀ j, j < k → ((xs.getD j 0 : Nat) : Int) ≠ z) ∧ w = wr) (fun i _ => n - (intOf i).toNat)
 case atStart => exact ⟨0, Nat.zero_le _, rfl, Lib.hid (fun j hj => by omega), rfl⟩
 case round =>
  obtain ⟨k, hk, rfl, HN, rfl⟩ := hrel
  by_cases hlt : k < n
  ·have k0 : (0 : Int) ≤ k := by omega
   have k1 : (k : Int) < n := by omega
   obtain ⟨b, off, rfl, c0⟩ := HC.out k hlt
   obtain ⟨q, hq⟩ : ∃ q, q = ((xs.getD k 0 : Nat) : Int) := ⟨_, rfl⟩
   rw [← hq] at c0
   have HQ := Lib.hid hq
   clear hq
   by_cases he : q = z
   ·subst he
    go_wp2_with (fail)
    go_ret
    exact ⟨by rw [← HR.out _ (.inr ⟨k, rfl, hlt, HQ.out.symm, HN.out⟩)]; rfl, rfl⟩
   ·have hne : (q == z) = false := by simpa using he
    have HE := Lib.hid he
    clear he
    go_wp2_with (fail)
    go_roundw
    case rel =>
     refine ⟨k + 1, by omega, by go_num, Lib.hid (fun j hj => ?_), by first | rfl | trivial⟩
     rcases Nat.lt_or_ge j k with h | h
     ·exact HN.out j h
     ·obtain rfl : j = k := by omega
      rw [← HQ.out]; exact HE.out
    case measure => simp [intOf]; omega
  ·obtain rfl : k = n := by omega
   go_wp2_with (fail)
   go_ret
   exact ⟨by rw [← HR.out _ (.inl ⟨rfl, HN.out⟩)]; rfl, rfl⟩
end Go.Proofs.YtbdbmmdnidonjaaDoor
set_option maxRecDepth 100000
namespace Go.Proofs.YtbdbmmdnidonjaaDoor
open Go.RowKit
/-- a function of an image: its numbers, its slots, where its bytes are -/
structure Sec where
 par : Nat
 slo : Nat
 beg : Nat
 siz : Nat
def secAt (b : List Nat) (p : Nat) : Sec := ⟨byteN b p, byteN b (p + 1), p + 4, byteN b (p + 2) + 256 * byteN b (p + 3)⟩
def cutN (b : List Nat) (p n : Nat) : List Nat := (b.drop p).take n
def Sec.code (b : List Nat) (s : Sec) : List Nat := cutN b s.beg s.siz
def secF (b : List Nat) : Nat → Option (List Sec × Nat)
 |0 => some ([], 3)
 |j + 1 => match secF b j with
  |none => none
  |some (l, p) => if b.length < p + 4 then none else if b.length < p + 4 + (secAt b p).siz then none else some (l ++ [secAt b p], p + 4 + (secAt b p).siz)
noncomputable def decS (b : List Nat) (s : Sec) : Option Mf := decR s.par s.slo (s.code b)
noncomputable def imF (b : List Nat) : Nat → Option (List Sec × List Mf × Nat)
 |0 => some ([], [], 3)
 |j + 1 => match imF b j with
  |none => none
  |some (l, fs, p) => if b.length < p + 4 then none else if b.length < p + 4 + (secAt b p).siz then none else
   match decS b (secAt b p) with
   |none => none
   |some f => some (l ++ [secAt b p], fs ++ [f], p + 4 + (secAt b p).siz)
def headN (b : List Nat) : Bool := decide (3 ≤ b.length) && (byteN b 0 == 87) && (byteN b 1 == 119)
open Classical in
noncomputable def readI (b : List Nat) : Option (List Sec × List Mf) :=
 if headN b then (match imF b (byteN b 2) with | none => none | some (l, fs, p) => if p = b.length ∧ MachOk fs then some (l, fs) else none) else none
theorem secF_none {b : List Nat} {j : Nat} (h : secF b j = none) : ∀ m, j ≤ m → secF b m = none
 |m, hm => by
  induction m with
  |zero =>
   obtain rfl : j = 0 := by omega
   exact h
  |succ m ih =>
   rcases Nat.lt_or_ge m j with hl | hl
   ·obtain rfl : j = m + 1 := by omega
    exact h
   ·unfold secF; rw [ih hl]
theorem imF_none {b : List Nat} {j : Nat} (h : imF b j = none) : ∀ m, j ≤ m → imF b m = none
 |m, hm => by
  induction m with
  |zero =>
   obtain rfl : j = 0 := by omega
   exact h
  |succ m ih =>
   rcases Nat.lt_or_ge m j with hl | hl
   ·obtain rfl : j = m + 1 := by omega
    exact h
   ·unfold imF; rw [ih hl]
theorem secF_len {b : List Nat} : ∀ {j : Nat} {l : List Sec} {p : Nat}, secF b j = some (l, p) → l.length = j ∧ 3 ≤ p ∧ (3 ≤ b.length → p ≤ b.length) ∧ ∀ s ∈ l, 3 ≤ s.beg ∧ s.beg + s.siz ≤ b.length
 |0, l, p, h => by
  unfold secF at h; injection h with h; injection h with h1 h2; subst h1 h2
  exact ⟨rfl, Nat.le_refl _, fun h => h, fun s hs => by cases hs⟩
 |j + 1, l, p, h => by
  unfold secF at h
  cases hs : secF b j with
  |none => rw [hs] at h; cases h
  |some r =>
   obtain ⟨l0, p0⟩ := r
   obtain ⟨h1, h2, h3, h4⟩ := secF_len hs
   rw [hs] at h
   simp only [] at h
   split at h
   ·cases h
   split at h
   ·cases h
   injection h with h; injection h with e1 e2; subst e1 e2
   refine ⟨by simp [h1], by omega, fun _ => by omega, fun s hs => ?_⟩
   rcases List.mem_append.1 hs with hs | hs
   ·exact h4 s hs
   ·obtain rfl := List.mem_singleton.1 hs
    show 3 ≤ p0 + 4 ∧ p0 + 4 + (secAt b p0).siz ≤ b.length
    omega
theorem imF_sec {b : List Nat} : ∀ {j : Nat} {l : List Sec} {fs : List Mf} {p : Nat}, imF b j = some (l, fs, p) → secF b j = some (l, p) ∧ fs.length = l.length ∧ ∀ (i : Nat) (s : Sec), l[i]? = some s → ∃ f, fs[i]? = some f ∧ decS b s = some f
 |0, l, fs, p, h => by
  unfold imF at h; injection h with h; injection h with h1 h; injection h with h2 h3; subst h1 h2 h3
  exact ⟨rfl, rfl, fun i s hs => by simp at hs⟩
 |j + 1, l, fs, p, h => by
  unfold imF at h
  cases hs : imF b j with
  |none => rw [hs] at h; cases h
  |some r =>
   obtain ⟨l0, fs0, p0⟩ := r
   obtain ⟨h1, h2, h3⟩ := imF_sec hs
   rw [hs] at h
   simp only [] at h
   split at h
   ·cases h
   split at h
   ·cases h
   cases hd : decS b (secAt b p0) with
   |none => rw [hd] at h; cases h
   |some f =>
    rw [hd] at h
    rename_i g1 g2
    simp only [] at h
    injection h with h; injection h with e1 h; injection h with e2 e3; subst e1 e2 e3
    refine ⟨by unfold secF; rw [h1]; simp only []; rw [if_neg g1, if_neg g2], by simp [h2], fun i s hi => ?_⟩
    rw [List.getElem?_append] at hi
    rw [List.getElem?_append]
    split at hi
    ·rename_i hlt
     rw [if_pos (by omega)]
     exact h3 i s hi
    ·rename_i hlt
     rw [if_neg (by omega)]
     have hz : i - l0.length = 0 := by
      rcases Nat.eq_zero_or_pos (i - l0.length) with h | h
      ·exact h
      ·rw [List.getElem?_eq_none (by simp; omega)] at hi; cases hi
     rw [hz] at hi
     rw [h2, hz]
     simp at hi
     subst hi
     exact ⟨f, rfl, hd⟩
/-- the parts known, so is the image -/
theorem imF_of {b : List Nat} : ∀ {j : Nat} {l : List Sec} {fs : List Mf} {p : Nat}, secF b j = some (l, p) → fs.length = l.length → (∀ (i : Nat) (s : Sec), l[i]? = some s → ∃ f, fs[i]? = some f ∧ decS b s = some f) → imF b j = some (l, fs, p)
 |0, l, fs, p, h, hl, _ => by
  unfold secF at h; injection h with h; injection h with h1 h2; subst h1 h2
  have : fs = [] := by simpa using hl
  subst this; rfl
 |j + 1, l, fs, p, h, hl, hd => by
  unfold secF at h
  cases hs : secF b j with
  |none => rw [hs] at h; cases h
  |some r =>
   obtain ⟨l0, p0⟩ := r
   rw [hs] at h
   simp only [] at h
   split at h
   ·cases h
   split at h
   ·cases h
   rename_i g1 g2
   injection h with h; injection h with e1 e2; subst e1 e2
   have hl' : fs.length = l0.length + 1 := by simpa using hl
   obtain ⟨f, hf1, hf2⟩ := hd l0.length (secAt b p0) (by simp)
   have hne : fs ≠ [] := by intro e; subst e; simp at hl'
   obtain ⟨fs0, f', rfl⟩ : ∃ fs0 f', fs = fs0 ++ [f'] := ⟨fs.dropLast, fs.getLast hne, (List.dropLast_concat_getLast hne).symm⟩
   have hl0 : fs0.length = l0.length := by simpa using hl'
   rw [List.getElem?_append_right (by omega), hl0] at hf1
   simp at hf1
   subst hf1
   have ih := imF_of (fs := fs0) hs hl0 (fun i s hi => by
    have hlt : i < l0.length := by
     rcases Nat.lt_or_ge i l0.length with h | h
     ·exact h
     ·rw [List.getElem?_eq_none h] at hi; cases hi
    obtain ⟨f2, q1, q2⟩ := hd i s (by rw [List.getElem?_append_left hlt]; exact hi)
    rw [List.getElem?_append_left (by omega)] at q1
    exact ⟨f2, q1, q2⟩)
   unfold imF
   rw [ih]
   simp only []
   rw [if_neg g1, if_neg g2, hf2]
theorem imF_bad {b : List Nat} {j : Nat} {l : List Sec} {p : Nat} (h : secF b j = some (l, p)) {s : Sec} (hs : s ∈ l) (hd : decS b s = none) : imF b j = none := by
 cases hi : imF b j with
 |none => rfl
 |some r =>
  obtain ⟨l', fs, p'⟩ := r
  obtain ⟨h1, h2, h3⟩ := imF_sec hi
  rw [h] at h1
  injection h1 with h1; injection h1 with e1 e2; subst e1 e2
  obtain ⟨i, hi'⟩ := List.getElem?_of_mem hs
  obtain ⟨f, _, h4⟩ := h3 i s hi'
  rw [hd] at h4; cases h4
/-- the bytes of a function of an image, and of an image -/
noncomputable def encO (f : Mf) : List Nat := encF (nisOf f) (longN (nisOf f)) (nisOf f).length
noncomputable def encFn (f : Mf) : List Nat := [(f.params % 256).toNat, (f.slots % 256).toNat, (encO f).length % 256, (encO f).length / 256] ++ encO f
noncomputable def encFns (fs : List Mf) : Nat → List Nat
 |0 => []
 |j + 1 => encFns fs j ++ (match fs[j]? with | some f => encFn f | none => [])
noncomputable def encImg (fs : List Mf) : List Nat := [87, 119, fs.length % 256] ++ encFns fs fs.length
def ImgOk (fs : List Mf) : Prop := MachOk fs ∧ ∀ f ∈ fs, CanS f
theorem encI_size {xs : List Ni} {lg : List Bool} {i : Nat} : (encI xs lg i).length = sizN (niAt xs i) (lg.getD i false) := by
 unfold encI sizN
 cases jmpN (niAt xs i).op
 ·simp
 ·simp only [if_true]
  by_cases h : (niAt xs i).op = 21 <;> cases lg.getD i false <;> simp [h]
theorem encF_tot (xs : List Ni) (lg : List Bool) : ∀ k, (encF xs lg k).length = plcN xs lg k
 |0 => rfl
 |k + 1 => by
  unfold encF plcN
  rw [List.length_append, encF_tot xs lg k, encI_size]
theorem decR_some {p s : Int} {cs : List Nat} {f : Mf} (h : decR p s cs = some f) : f.params = p ∧ f.slots = s ∧ CanS f ∧ encO f = cs ∧ cs.length ≤ 8000 ∧ ∃ xs ps, decA cs = some (xs, ps) ∧ f.ins = xs.map (rsv ps) := by
 unfold decR at h
 cases hd : decA cs with
 |none => rw [hd] at h; cases h
 |some r =>
  obtain ⟨xs, ps⟩ := r
  rw [hd] at h
  simp only [] at h
  split at h
  ·rename_i hc
   injection h with h
   subst h
   obtain ⟨h1, h2⟩ := hc
   have he : encO ⟨p, s, xs.map (rsv ps)⟩ = cs := by
    unfold encO
    rw [nisOf_len, List.length_map]
    exact h2
   refine ⟨rfl, rfl, h1, he, ?_, xs, ps, rfl, rfl⟩
   rw [← he]
   unfold encO
   rw [encF_tot]
   exact h1.2
  ·cases h
theorem decR_yes {p s : Int} {cs : List Nat} {xs : List Mi} {ps : List Nat} (h : decA cs = some (xs, ps)) (hc : CanS ⟨p, s, xs.map (rsv ps)⟩) (he : encO ⟨p, s, xs.map (rsv ps)⟩ = cs) : decR p s cs = some ⟨p, s, xs.map (rsv ps)⟩ := by
 unfold decR
 rw [h]
 simp only []
 rw [if_pos]
 refine ⟨hc, ?_⟩
 unfold encO at he
 rw [nisOf_len, List.length_map] at he
 exact he
theorem decR_no {p s : Int} {cs : List Nat} {xs : List Mi} {ps : List Nat} (h : decA cs = some (xs, ps)) (hc : ¬ (CanS ⟨p, s, xs.map (rsv ps)⟩ ∧ encO ⟨p, s, xs.map (rsv ps)⟩ = cs)) : decR p s cs = none := by
 unfold decR
 rw [h]
 simp only []
 rw [if_neg]
 rintro ⟨h1, h2⟩
 refine hc ⟨h1, ?_⟩
 unfold encO
 rw [nisOf_len, List.length_map]
 exact h2
theorem decR_none {p s : Int} {cs : List Nat} (h : decA cs = none) : decR p s cs = none := by
 unfold decR; rw [h]
def AllU8 (b : List Nat) : Prop := ∀ x ∈ b, x < 256
theorem AllU8.at {b : List Nat} (h : AllU8 b) (i : Nat) : byteN b i < 256 := by
 unfold byteN
 rw [List.getD_eq_getElem?_getD]
 rcases Nat.lt_or_ge i b.length with hi | hi
 ·rw [List.getElem?_eq_getElem hi]; exact h _ (List.getElem_mem _)
 ·rw [List.getElem?_eq_none hi]; simp
theorem take_byte {b : List Nat} {p : Nat} (h : p < b.length) : b.take (p + 1) = b.take p ++ [byteN b p] := by
 rw [List.take_add_one, List.getElem?_eq_getElem h]
 simp [byteN, List.getD_eq_getElem?_getD, h]
theorem take_cut {b : List Nat} (p n : Nat) : b.take (p + n) = b.take p ++ cutN b p n := by
 unfold cutN
 rw [List.take_add]
/-- what was read is what would be written -/
theorem imF_bytes {b : List Nat} (hb : AllU8 b) (h3 : 3 ≤ b.length) : ∀ {j : Nat} {l : List Sec} {fs : List Mf} {p : Nat}, imF b j = some (l, fs, p) → b.take p = b.take 3 ++ encFns fs j ∧ fs.length = j ∧ p ≤ b.length
 |0, l, fs, p, h => by
  unfold imF at h; injection h with h; injection h with h1 h; injection h with h2 h3'; subst h1 h2 h3'
  simp [encFns, h3]
 |j + 1, l, fs, p, h => by
  unfold imF at h
  cases hs : imF b j with
  |none => rw [hs] at h; cases h
  |some r =>
   obtain ⟨l0, fs0, p0⟩ := r
   obtain ⟨h1, h2, hp⟩ := imF_bytes hb h3 hs
   rw [hs] at h
   simp only [] at h
   split at h
   ·cases h
   split at h
   ·cases h
   rename_i g1 g2
   cases hd : decS b (secAt b p0) with
   |none => rw [hd] at h; cases h
   |some f =>
    rw [hd] at h
    simp only [] at h
    injection h with h; injection h with e1 h; injection h with e2 e3; subst e1 e2 e3
    obtain ⟨q1, q2, _, q4, q5, _⟩ := decR_some hd
    have hsz : (encO f).length = (secAt b p0).siz := by
     rw [q4]; show (cutN b (p0 + 4) _).length = _
     unfold cutN; rw [List.length_take, List.length_drop]; omega
    refine ⟨?_, by simp [h2], by omega⟩
    have hfns : encFns (fs0 ++ [f]) (j + 1) = encFns fs0 j ++ encFn f := by
     have key : ∀ m, m ≤ j → encFns (fs0 ++ [f]) m = encFns fs0 m := by
      intro m
      induction m with
      |zero => intro _; rfl
      |succ m ih =>
       intro hm
       unfold encFns
       rw [ih (by omega), List.getElem?_append_left (by omega)]
     show encFns (fs0 ++ [f]) j ++ _ = _
     rw [key j (Nat.le_refl _), List.getElem?_append_right (by omega), h2]
     simp
    rw [hfns, take_cut (p0 + 4) (secAt b p0).siz, take_byte (show p0 + 3 < b.length by omega), take_byte (show p0 + 2 < b.length by omega), take_byte (show p0 + 1 < b.length by omega), take_byte (show p0 < b.length by omega), h1]
    have b0 := hb.at p0; have b1 := hb.at (p0 + 1); have b2 := hb.at (p0 + 2); have b3 := hb.at (p0 + 3)
    have e0 : (f.params % 256).toNat = byteN b p0 := by rw [q1]; show (((byteN b p0 : Nat) : Int) % 256).toNat = _; omega
    have e1 : (f.slots % 256).toNat = byteN b (p0 + 1) := by rw [q2]; show (((byteN b (p0 + 1) : Nat) : Int) % 256).toNat = _; omega
    have e2 : (encO f).length % 256 = byteN b (p0 + 2) := by rw [hsz]; show (byteN b (p0 + 2) + 256 * byteN b (p0 + 3)) % 256 = _; omega
    have e3 : (encO f).length / 256 = byteN b (p0 + 3) := by rw [hsz]; show (byteN b (p0 + 2) + 256 * byteN b (p0 + 3)) / 256 = _; omega
    unfold encFn
    rw [e0, e1, e2, e3, q4]
    show _ = _ ++ (_ ++ ([_, _, _, _] ++ cutN b (p0 + 4) (secAt b p0).siz))
    simp
theorem readI_some {b : List Nat} {l : List Sec} {fs : List Mf} (h : readI b = some (l, fs)) : headN b = true ∧ imF b (byteN b 2) = some (l, fs, b.length) ∧ MachOk fs := by
 unfold readI at h
 split at h
 ·rename_i hh
  cases hi : imF b (byteN b 2) with
  |none => rw [hi] at h; cases h
  |some r =>
   obtain ⟨l', fs', p⟩ := r
   rw [hi] at h
   simp only [] at h
   split at h
   ·rename_i hc
    injection h with h; injection h with h1 h2; subst h1 h2
    obtain ⟨rfl, hm⟩ := hc
    exact ⟨hh, rfl, hm⟩
   ·cases h
 ·cases h
theorem head_eq {b : List Nat} (h : headN b = true) : 3 ≤ b.length ∧ b.take 3 = [87, 119, byteN b 2] := by
 unfold headN at h
 simp only [Bool.and_eq_true, decide_eq_true_eq, beq_iff_eq] at h
 obtain ⟨⟨h1, h2⟩, h3⟩ := h
 refine ⟨h1, ?_⟩
 rw [take_byte (show 2 < b.length by omega), take_byte (show 1 < b.length by omega), take_byte (show 0 < b.length by omega), h2, h3]
 simp
theorem img_bytes {b : List Nat} (hb : AllU8 b) {l : List Sec} {fs : List Mf} (hh : headN b = true) (h : imF b (byteN b 2) = some (l, fs, b.length)) : encImg fs = b := by
 obtain ⟨h3, he⟩ := head_eq hh
 obtain ⟨h1, h2, _⟩ := imF_bytes hb h3 h
 rw [List.take_length, he] at h1
 have := hb.at 2
 unfold encImg
 rw [h2, Nat.mod_eq_of_lt this]
 exact h1.symm
end Go.Proofs.YtbdbmmdnidonjaaDoor
set_option maxRecDepth 100000
namespace Go.Proofs.YtbdbmmdnidonjaaDoor
open Go.RowKit
theorem DecTo.at {cs : List Nat} {xs : List Mi} {ps : List Nat} {at_ : Nat} (h : DecTo cs xs ps at_) : ∀ i p, ps[i]? = some p → ∃ x n, xs[i]? = some x ∧ oneN cs p = some (x, n) ∧ p < cs.length ∧ ((i + 1 < ps.length ∧ ps[i + 1]? = some (p + n)) ∨ (i + 1 = ps.length ∧ p + n = at_)) := by
 induction h with
 |start => intro i p hp; simp at hp
 |@more xs ps at_ x n hd hlt ho ih =>
  intro i p hp
  have hl := hd.lens.1
  have hi : i < ps.length + 1 := by
   rcases Nat.lt_or_ge i (ps.length + 1) with h | h
   ·exact h
   ·rw [List.getElem?_eq_none (by simp; omega)] at hp; cases hp
  rcases Nat.lt_or_ge i ps.length with h | h
  ·rw [List.getElem?_append_left h] at hp
   obtain ⟨y, m, q1, q2, q3, q4⟩ := ih i p hp
   refine ⟨y, m, by rw [List.getElem?_append_left (by omega)]; exact q1, q2, q3, ?_⟩
   rcases q4 with ⟨q4, q5⟩ | ⟨q4, q5⟩
   ·exact .inl ⟨by simp; omega, by rw [List.getElem?_append_left q4]; exact q5⟩
   ·refine .inl ⟨by simp; omega, ?_⟩
    rw [List.getElem?_append_right (by omega), show i + 1 - ps.length = 0 by omega, q5]; rfl
  ·obtain rfl : i = ps.length := by omega
   rw [List.getElem?_append_right (by omega)] at hp
   simp at hp
   subst hp
   refine ⟨x, n, by rw [List.getElem?_append_right (by omega)]; simp [hl], ho, hlt, .inr ⟨by simp, rfl⟩⟩
theorem atN_or (ps : List Nat) (z : Int) : atN ps z = -1 ∨ ∃ k p : Nat, atN ps z = (k : Int) ∧ ps[k]? = some p ∧ (p : Int) = z := by
 unfold atN
 cases h : ps.findIdx? (fun (p : Nat) => decide ((p : Int) = z)) with
 |none => exact .inl rfl
 |some i =>
  have := List.findIdx?_eq_some_iff_getElem.1 h
  obtain ⟨hi, hp, _⟩ := this
  exact .inr ⟨i, ps[i], rfl, List.getElem?_eq_getElem hi, by simpa using hp⟩
def secD (l : List Sec) (k : Nat) : Sec := l.getD k ⟨0, 0, 0, 0⟩
def placesN (cs : List Nat) : List Nat := match decA cs with | some r => r.2 | none => []
def imgPg (b : List Nat) (l : List Sec) : Pg :=
 {par := fun k => (secD l k).par, slo := fun k => (secD l k).slo, base := fun k => (secD l k).beg,
  fet := fun k p => match oneN ((secD l k).code b) p with | some r => r.1.ni | none => ⟨0, 0, 0, 0, 0⟩,
  nxt := fun k p => match oneN ((secD l k).code b) p with | some r => p + r.2 | none => p,
  good := fun k p => p ∈ placesN ((secD l k).code b) }
theorem imgPg_ok {b : List Nat} {l : List Sec} {fs : List Mf} (hr : readI b = some (l, fs)) : PgOk (imgPg b l) l.length ∧
  (∀ k p, k < l.length → (imgPg b l).good k p → ∃ n, oneN ((secD l k).code b) p = some (((imgPg b l).fet k p).mi, n) ∧ (imgPg b l).nxt k p = p + n ∧ p + n ≤ ((secD l k).code b).length ∧ p < ((secD l k).code b).length) := by
 obtain ⟨hh, hi, hm⟩ := readI_some hr
 obtain ⟨hsec, hlen, hdec⟩ := imF_sec hi
 obtain ⟨hP, _⟩ := machPg_ok hm
 have hk0 : ∀ k, k < l.length → ∃ f xs ps, fs[k]? = some f ∧ mfAt fs k = f ∧ f.params = (secD l k).par ∧ f.slots = (secD l k).slo ∧ decA ((secD l k).code b) = some (xs, ps) ∧ f.ins = xs.map (rsv ps) := fun k hk => by
  have h1 : l[k]? = some (secD l k) := by simp [secD, List.getD_eq_getElem?_getD, hk]
  obtain ⟨f, h2, h3⟩ := hdec k _ h1
  obtain ⟨q1, q2, _, _, _, xs, ps, q5, q6⟩ := decR_some h3
  exact ⟨f, xs, ps, h2, by unfold mfAt; rw [h2]; rfl, q1, q2, q5, q6⟩
 have hins : ∀ f ∈ fs, ∀ x ∈ f.ins, x.ni.mi = x := fun f hf x hx => (machPg_ok hm).2.2 f hf x hx
 have key : ∀ k p, k < l.length → (imgPg b l).good k p → ∃ (f : Mf) (xs : List Mi) (ps : List Nat) (i n : Nat) (x : Mi), fs[k]? = some f ∧ mfAt fs k = f ∧ f.params = (secD l k).par ∧ f.slots = (secD l k).slo ∧ placesN ((secD l k).code b) = ps ∧ f.ins = xs.map (rsv ps) ∧ ps.length = xs.length ∧ ps[i]? = some p ∧ xs[i]? = some x ∧ oneN ((secD l k).code b) p = some (x, n) ∧ p < ((secD l k).code b).length ∧ ((i + 1 < ps.length ∧ ps[i + 1]? = some (p + n)) ∨ (i + 1 = ps.length ∧ p + n = ((secD l k).code b).length)) ∧
   rsv ps x ∈ f.ins ∧ miAt fs k i = rsv ps x ∧ x.ni.mi = x ∧ (jmpI x = true → ∃ j q : Nat, atN ps x.n = j ∧ ps[j]? = some q ∧ (q : Int) = x.n) := fun k p hk hg => by
  obtain ⟨f, xs, ps, h1, h2, h3, h4, h5, h6⟩ := hk0 k hk
  have hg' : p ∈ ps := by
   have : p ∈ placesN ((secD l k).code b) := hg
   unfold placesN at this; rw [h5] at this; exact this
  obtain ⟨i, hi⟩ := List.getElem?_of_mem hg'
  have hd := DecTo.of h5
  obtain ⟨x, n, q1, q2, q3, q4⟩ := hd.at i p hi
  have hmem : rsv ps x ∈ f.ins := by rw [h6]; exact List.mem_map_of_mem (List.mem_of_getElem? q1)
  have hmi : miAt fs k i = rsv ps x := by
   unfold miAt; rw [h2, h6, List.getElem?_map, q1]; rfl
  have hrm := hins f (List.mem_of_getElem? h1) _ hmem
  have hj : jmpI x = true → ∃ j q : Nat, atN ps x.n = j ∧ ps[j]? = some q ∧ (q : Int) = x.n := fun hj => by
   rcases atN_or ps x.n with he | he
   ·exfalso
    unfold rsv at hrm
    rw [if_pos hj, he] at hrm
    have := congrArg Mi.n hrm
    simp [Mi.ni, Ni.mi] at this
   ·exact he
  refine ⟨f, xs, ps, i, n, x, h1, h2, h3, h4, by unfold placesN; rw [h5], h6, hd.lens.1.symm, hi, q1, q2, q3, q4, hmem, hmi, ?_, hj⟩
  cases hjx : jmpI x with
  |false => unfold rsv at hrm; rw [hjx] at hrm; simpa using hrm
  |true =>
   obtain ⟨j, q, _, _, hq⟩ := hj hjx
   unfold rsv at hrm
   rw [if_pos hjx] at hrm
   obtain ⟨o, a, b', c, z⟩ := x
   simp only [Mi.ni, Ni.mi, Mi.mk.injEq] at hrm hq ⊢
   refine ⟨hrm.1, hrm.2.1, hrm.2.2.1, hrm.2.2.2.1, ?_⟩
   omega
 have hfet : ∀ k p x n, oneN ((secD l k).code b) p = some (x, n) → (imgPg b l).fet k p = x.ni := fun k p x n h => by
  show (match oneN ((secD l k).code b) p with | some r => r.1.ni | none => _) = _
  rw [h]
 have hnxt : ∀ k p x n, oneN ((secD l k).code b) p = some (x, n) → (imgPg b l).nxt k p = p + n := fun k p x n h => by
  show (match oneN ((secD l k).code b) p with | some r => p + r.2 | none => _) = _
  rw [h]
 have hgood : ∀ k, k < l.length → ∀ (f : Mf) (xs : List Mi) (ps : List Nat), mfAt fs k = f → f.ins = xs.map (rsv ps) → ps.length = xs.length → ∀ i, i < ps.length → (machPg fs).good k i := fun k _ f xs ps h1 h2 h3 i hi => by
  show i < (mfAt fs k).ins.length
  rw [h1, h2, List.length_map]; omega
 refine ⟨⟨fun k hk => ?_, fun k hk => ?_, fun k hk => ?_, fun k p hk hg => ?_, fun k p hk hg hj => ?_, fun k p hk hg hj hb => ?_⟩, fun k p hk hg => ?_⟩
 ·obtain ⟨f, xs, ps, h1, h2, h3, h4, h5, h6⟩ := hk0 k hk
  have := hP.par k (by omega)
  have e : (machPg fs).par k = (mfAt fs k).params.toNat := rfl
  rw [e, h2, h3] at this
  show (secD l k).par ≤ 3
  simpa using this
 ·obtain ⟨f, xs, ps, h1, h2, h3, h4, h5, h6⟩ := hk0 k hk
  have := hP.slo k (by omega)
  have e : (machPg fs).slo k = (mfAt fs k).slots.toNat := rfl
  rw [e, h2, h4] at this
  show (secD l k).slo ≤ 64
  simpa using this
 ·obtain ⟨f, xs, ps, h1, h2, h3, h4, h5, h6⟩ := hk0 k hk
  have h0 : 0 < (mfAt fs k).ins.length := hP.start k (by omega)
  rw [h2, h6, List.length_map] at h0
  show 0 ∈ placesN _
  unfold placesN; rw [h5]
  show 0 ∈ ps
  have hd := DecTo.of h5
  have : ∀ {xs ps at_}, DecTo ((secD l k).code b) xs ps at_ → 0 < xs.length → 0 ∈ ps := by
   intro xs ps at_ h
   induction h with
   |start => intro h; simp at h
   |@more xs ps at_ x n hd hlt ho ih =>
    intro _
    rcases Nat.eq_zero_or_pos xs.length with h | h
    ·have hl := hd.lens
     have : ps = [] := by simpa [h] using hl.1.symm
     rw [this, show at_ = 0 by omega]; simp
    ·exact List.mem_append_left _ (ih h)
  exact this hd h0
 ·obtain ⟨f, xs, ps, i, n, x, h1, h2, h3, h4, h5, h6, h7, h8, h9, h10, h11, h12, h13, h14, h15, h16⟩ := key k p hk hg
  have hi : i < ps.length := by
   rcases Nat.lt_or_ge i ps.length with h | h
   ·exact h
   ·rw [List.getElem?_eq_none h] at h8; cases h8
  have hok := hP.ins k i (by omega) (hgood k hk f xs ps h2 h6 h7 i hi)
  rw [hfet k p x n h10]
  have ep : (machPg fs).par k = (secD l k).par := by show (mfAt fs k).params.toNat = _; rw [h2, h3]; simp
  have es : (machPg fs).slo k = (secD l k).slo := by show (mfAt fs k).slots.toNat = _; rw [h2, h4]; simp
  have ef : (machPg fs).fet k i = (rsv ps x).ni := by show (miAt fs k i).ni = _; rw [h14]
  rw [ep, es, ef] at hok
  show NiOk k (secD l k).par (secD l k).slo x.ni
  cases hjx : jmpI x with
  |false => unfold rsv at hok; rw [hjx] at hok; simpa using hok
  |true =>
   unfold rsv at hok; rw [if_pos hjx] at hok
   have hop : x.ni.op = 20 ∨ x.ni.op = 21 := by
    unfold jmpI jmpN at hjx
    simpa [Mi.ni] using hjx
   exact ⟨hok.op, hok.a, hok.b, hok.c, fun e => by omega, fun e => by omega, fun e => by omega, fun e => by omega, fun e => by omega⟩
 ·obtain ⟨f, xs, ps, i, n, x, h1, h2, h3, h4, h5, h6, h7, h8, h9, h10, h11, h12, h13, h14, h15, h16⟩ := key k p hk hg
  rw [hfet k p x n h10] at hj ⊢
  have hjx : jmpI x = true := by
   unfold jmpI jmpN
   rcases hj with e | e <;> (have e : x.op.toNat = _ := e; simp [e])
  obtain ⟨j, q, _, hq, hq2⟩ := h16 hjx
  show x.ni.n ∈ placesN _
  rw [h5]
  have : x.ni.n = q := by show x.n.toNat = q; omega
  rw [this]
  exact List.mem_of_getElem? hq
 ·obtain ⟨f, xs, ps, i, n, x, h1, h2, h3, h4, h5, h6, h7, h8, h9, h10, h11, h12, h13, h14, h15, h16⟩ := key k p hk hg
  rw [hfet k p x n h10] at hj hb
  have hi : i < ps.length := by
   rcases Nat.lt_or_ge i ps.length with h | h
   ·exact h
   ·rw [List.getElem?_eq_none h] at h8; cases h8
  have ef : (machPg fs).fet k i = (rsv ps x).ni := by show (miAt fs k i).ni = _; rw [h14]
  have eo : (rsv ps x).ni.op = x.ni.op := by unfold rsv; split <;> rfl
  have hn : i + 1 < (mfAt fs k).ins.length := hP.next k i (by omega) (hgood k hk f xs ps h2 h6 h7 i hi) (by rw [ef, eo]; exact hj) (by rw [ef, eo]; exact hb)
  rw [h2, h6, List.length_map, ← h7] at hn
  rw [hnxt k p x n h10]
  show p + n ∈ placesN _
  rw [h5]
  rcases h12 with ⟨_, h⟩ | ⟨h, _⟩
  ·exact List.mem_of_getElem? h
  ·omega
 ·obtain ⟨f, xs, ps, i, n, x, h1, h2, h3, h4, h5, h6, h7, h8, h9, h10, h11, h12, h13, h14, h15, h16⟩ := key k p hk hg
  refine ⟨n, ?_, hnxt k p x n h10, (oneN_size h10).2.2, h11⟩
  rw [hfet k p x n h10, h15]; exact h10
end Go.Proofs.YtbdbmmdnidonjaaDoor
