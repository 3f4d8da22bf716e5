/- Is an instruction valid, as the reference has it: l22Ins. -/
import Derived.Test.YtbdbmmdnidonjaaDoorSr
set_option maxRecDepth 100000
namespace Go.Proofs.YtbdbmmdnidonjaaDoor
open Go.RowKit

theorem restS_ok {x : Mi} (h1 : 1 ≤ x.op) (h2 : x.op ≤ 22) : restS x (fieldStr x.op) = restOk x := by
  unfold restS restOk
  rw [fieldStr_in0 h1 h2, fieldStr_in1 h1 h2, fieldStr_in2 h1 h2, fieldStr_in3 h1 h2]

def regOk (x : Mi) (c : UInt8) : Bool := c == 78 || inR 0 7 (fieldAt x c)
def regs3 (x : Mi) : Bool := inR 0 7 x.a && inR 0 7 x.b && inR 0 7 x.c

theorem letters {op : Int} (h1 : 1 ≤ op) (h2 : op ≤ 22) : (fieldStr op).data.toList.all (fun c => c == 65 || c == 66 || c == 67 || c == 78) = true := by
  rcases op_cases h1 h2 with h | h | h | h | h | h | h | h | h | h | h | h | h | h | h | h | h | h | h | h | h | h <;> subst h <;> decide

theorem regs_fail {x : Mi} (h1 : 1 ≤ x.op) (h2 : x.op ≤ 22) {c : UInt8} (hc : c ∈ (fieldStr x.op).data.toList) (h : regOk x c = false) : regs3 x = false := by
  have hl := letters h1 h2
  rw [List.all_eq_true] at hl
  have := hl c hc
  simp only [Bool.or_eq_true, beq_iff_eq] at this
  unfold regOk at h
  rw [Bool.or_eq_false_iff] at h
  unfold regs3
  rcases this with ((h' | h') | h') | h'
  · subst h'; have : inR 0 7 x.a = false := h.2; rw [this]; rfl
  · subst h'; have : inR 0 7 x.b = false := h.2; rw [this]; simp
  · subst h'; have : inR 0 7 x.c = false := h.2; rw [this]; simp
  · subst h'; exact absurd h.1 (by decide)

theorem regs_all {x : Mi} {s : ByteArray} (hr : restS x s = true) (h : s.data.toList.all (regOk x) = true) : regs3 x = true := by
  rw [List.all_eq_true] at h
  have key : ∀ (c : UInt8) (v : Int), (inS s c || v == 0) = true → c ≠ 78 → fieldAt x c = v → inR 0 7 v = true := by
    intro c v hv hc hf
    rw [Bool.or_eq_true] at hv
    rcases hv with hv | hv
    · unfold inS at hv
      rw [List.any_eq_true] at hv
      obtain ⟨d, hd, he⟩ := hv
      have : d = c := by simpa using he
      subst this
      have := h d hd
      unfold regOk at this
      rw [Bool.or_eq_true] at this
      rcases this with h' | h'
      · exact absurd (by simpa using h') hc
      · rw [hf] at h'; exact h'
    · have : v = 0 := by simpa using hv
      subst this; decide
  unfold restS at hr
  simp only [Bool.and_eq_true] at hr
  obtain ⟨⟨⟨ha, hb⟩, hc⟩, _⟩ := hr
  unfold regs3
  rw [key 65 x.a ha (by decide) rfl, key 66 x.b hb (by decide) rfl, key 67 x.c hc (by decide) rfl]; rfl

theorem all_step (s : ByteArray) (P : UInt8 → Bool) (j : Nat) (h : j < s.size) : (s.data.toList.take (j + 1)).all P = ((s.data.toList.take j).all P && P s[j]) := by
  have hl : j < s.data.toList.length := by rw [listLen]; exact h
  rw [List.take_succ_eq_append_getElem hl, List.all_append]
  simp
  rfl
theorem all_all (s : ByteArray) (P : UInt8 → Bool) : (s.data.toList.take s.size).all P = s.data.toList.all P := by
  rw [← listLen, List.take_length]
theorem mem_at (s : ByteArray) (j : Nat) (h : j < s.size) : s[j] ∈ s.data.toList := by
  have hl : j < s.data.toList.length := by rw [listLen]; exact h
  exact List.getElem_mem hl

/-- a name for what formOk says where the op is one -/
theorem formOk_eq {x : Mi} (h : opIn x.op = true) : formOk x = restOk x := by
  have := inR_iff.mp h
  unfold formOk
  have d1 : decide (1 ≤ x.op) = true := by simpa using this.1
  have d2 : decide (x.op ≤ 22) = true := by simpa using this.2
  rw [d1, d2]; rfl
theorem formOk_no {x : Mi} (h : opIn x.op = false) : formOk x = false := by
  unfold opIn inR at h
  unfold formOk
  rw [h]; rfl

theorem notEmpty {s : ByteArray} (h : s ≠ ⟨#[]⟩) : s.toList.isEmpty = false := by
  rw [ByteArray.toList_eq]
  cases hl : s.data.toList with
  | nil =>
    have e : s.data = #[] := Array.toList_inj.mp (by rw [hl])
    exact absurd (by cases s; simp only [] at e; rw [e]) h
  | cons a l => rfl

set_option maxHeartbeats 2000000 in
theorem l22Ins_no (w : World) (vb vo vc k len : Nat) (pr sl : Int) (la : Option Addr) (il lc : Nat) (x : Mi) (hno : formOk x = false)
    (hkl : k < len) (c0 : w.cell? ⟨vb, vo + k * 3, none⟩ = some (.int .i64 pr)) (c1 : w.cell? ⟨vb, vo + k * 3 + 1, none⟩ = some (.int .i64 sl)) (c2 : w.cell? ⟨vb, vo + k * 3 + 2, none⟩ = some (.slice la il lc)) :
    Calls Tryd.prog 108 #[.agg #[.slice (some ⟨vb, vo, none⟩) len vc], .int .i64 k, .agg #[.int .i64 x.op, .int .i64 x.a, .int .i64 x.b, .int .i64 x.c, .int .i64 x.n]] w (BoolPost false w) := by
  have HW := Lib.hid (fun w' => l22Word_any w' x.op)
  have HR := Lib.hid (fun w' s hs => l22Rest_any w' x.op x.a x.b x.c x.n s hs)
  unfold WordPost at HW
  have hvb := World.block_lt_of_cell? _ _ c0
  obtain ⟨fw, hfw⟩ : ∃ fw, fw = (if opIn x.op then fieldStr x.op else ⟨#[]⟩) := ⟨_, rfl⟩
  obtain ⟨nw, hnw⟩ : ∃ fw, fw = (if opIn x.op then nameOf x.op else ⟨#[]⟩) := ⟨_, rfl⟩
  rw [← hfw, ← hnw] at HW
  have hcase : fw = ⟨#[]⟩ ∨ (fw ≠ ⟨#[]⟩ ∧ fw.size ≤ 3 ∧ restS x fw = false) := by
    cases h : opIn x.op
    · left; rw [hfw, h]; rfl
    · right
      have hi := inR_iff.mp h
      rw [h] at hfw
      simp only [if_true] at hfw
      have hsm := fieldStr_small hi.1 hi.2
      refine ⟨fun e => ?_, by rw [hfw]; exact hsm.1, ?_⟩
      · rw [← hfw, e] at hsm; exact absurd hsm.2 (by decide)
      · rw [hfw, restS_ok hi.1 hi.2, ← formOk_eq h]; exact hno
  obtain ⟨op, a, b, c, n⟩ := x
  simp only [] at *
  clear hfw hnw hno
  have C0 := Lib.hid c0; have C1 := Lib.hid c1; have C2 := Lib.hid c2
  have c0' : ∀ o1 o2, ((w.alloc o1).alloc o2).cell? ⟨vb, vo + k * 3, none⟩ = some (.int .i64 pr) := fun o1 o2 => by rw [(below2 w o1 o2).cell (p := ⟨vb, vo + k * 3, none⟩) hvb]; exact c0
  have c1' : ∀ o1 o2, ((w.alloc o1).alloc o2).cell? ⟨vb, vo + k * 3 + 1, none⟩ = some (.int .i64 sl) := fun o1 o2 => by rw [(below2 w o1 o2).cell (p := ⟨vb, vo + k * 3 + 1, none⟩) hvb]; exact c1
  have c2' : ∀ o1 o2, ((w.alloc o1).alloc o2).cell? ⟨vb, vo + k * 3 + 2, none⟩ = some (.slice la il lc) := fun o1 o2 => by rw [(below2 w o1 o2).cell (p := ⟨vb, vo + k * 3 + 2, none⟩) hvb]; exact c2
  clear c0 c1 c2
  unfold BoolPost at *
  go_enter Tryd.func108, Tryd.ntmps108
  go_wp2_with (fail)
  go_at_call 130
  refine (HW.out _).mono ?_
  rintro e w1 ⟨rfl, hb⟩
  have hsz := hb.size
  simp at hsz
  obtain ⟨hc, hf⟩ := bcell hb
  have q0 : w1.cell? ⟨w.heap.size + 1, 0, none⟩ = some (.int .i64 op) := by rw [hc _ _ (by simp)]; simp [go_sem]
  have q1 : w1.cell? ⟨w.heap.size + 1, 1, none⟩ = some (.int .i64 a) := by rw [hc _ _ (by simp)]; simp [go_sem]
  have q2 : w1.cell? ⟨w.heap.size + 1, 2, none⟩ = some (.int .i64 b) := by rw [hc _ _ (by simp)]; simp [go_sem]
  have q3 : w1.cell? ⟨w.heap.size + 1, 3, none⟩ = some (.int .i64 c) := by rw [hc _ _ (by simp)]; simp [go_sem]
  have q4 : w1.cell? ⟨w.heap.size + 1, 4, none⟩ = some (.int .i64 n) := by rw [hc _ _ (by simp)]; simp [go_sem]
  have hB1 : Below w.heap.size w w1 := by
    refine Below.trans ?_ (hb.mono ?_)
    · (repeat' (first | exact Below.refl _ _ | assumption | (refine Below.setCell ?_ ?_ _) | (refine Below.alloc ?_ ?_ _) | (refine belowDrewN ?_ _) | omega | (simp; done) | (simp; omega)))
    · simp; omega
  have HB1 := Lib.hid hB1
  clear hc hf hb hB1 HW c0' c1' c2'
  rcases hcase with rfl | ⟨hne, hs3, hrs⟩
  · go_wp2_with (fail)
    go_ret
    exact ⟨rfl, HB1.out⟩
  · 
    have hne2 := notEmpty hne
    have HRR := Lib.hid (HR.out w1 fw hs3)
    rw [hrs] at HRR
    clear HR hrs
    go_wp2_with (fail)
    go_at_call 131
    refine HRR.out.mono ?_
    rintro e w2 ⟨rfl, hb2⟩
    have HB2 := Lib.hid (HB1.out.trans (hb2.mono HB1.out.size))
    clear hb2 HRR
    go_wp2_with (fail)
    go_ret
    exact ⟨rfl, HB2.out⟩

set_option maxHeartbeats 4000000 in
theorem l22Ins_yes (w : World) (vb vo vc k len : Nat) (pr sl : Int) (la : Option Addr) (il lc : Nat) (op a b c n : Int) (hop : opIn op = true) (hrs : restS ⟨op, a, b, c, n⟩ (fieldStr op) = true)
    (hkl : k < len) (hlen : len ≤ 1048576) (c0 : w.cell? ⟨vb, vo + k * 3, none⟩ = some (.int .i64 pr)) (c1 : w.cell? ⟨vb, vo + k * 3 + 1, none⟩ = some (.int .i64 sl)) (c2 : w.cell? ⟨vb, vo + k * 3 + 2, none⟩ = some (.slice la il lc))
    (hs0 : 0 ≤ sl) (hs1 : sl ≤ 64) (hp0 : 0 ≤ pr) (hp1 : pr ≤ 3) (hil : il ≤ 1048576) (M : Int) (R : Bool)
    (hM : M = if op = 14 then (k : Int) - 1 else if op = 15 ∨ op = 16 then sl - 1 else if op = 17 then 2 else if op = 18 then pr - 1 else if op = 20 ∨ op = 21 then (il : Int) - 1 else 255)
    (hR : R = (regs3 ⟨op, a, b, c, n⟩ && (!hasF 3 op || inR 0 M n))) :
    Calls Tryd.prog 108 #[.agg #[.slice (some ⟨vb, vo, none⟩) len vc], .int .i64 k, .agg #[.int .i64 op, .int .i64 a, .int .i64 b, .int .i64 c, .int .i64 n]] w (BoolPost R w) := by
  have HW := Lib.hid (fun w' => l22Word_any w' op)
  unfold WordPost at HW
  rw [hop] at HW
  simp only [if_true] at HW
  have hi := inR_iff.mp hop
  obtain ⟨fw, hfw⟩ : ∃ fw, fw = fieldStr op := ⟨_, rfl⟩
  have hsm := fieldStr_small hi.1 hi.2
  have hfail := fun (cc : UInt8) (hc : cc ∈ (fieldStr op).data.toList) (h : regOk ⟨op, a, b, c, n⟩ cc = false) => regs_fail (x := ⟨op, a, b, c, n⟩) hi.1 hi.2 hc h
  have hne2 : fw.toList.isEmpty = false := notEmpty (fun e => by rw [← hfw, e] at hsm; exact absurd hsm.2 (by decide))
  rw [← hfw] at HW hrs hfail hsm
  have HR := Lib.hid (fun w' => l22Rest_any w' op a b c n fw hsm.1)
  rw [hrs] at HR
  have HALL := Lib.hid (fun h => regs_all (x := ⟨op, a, b, c, n⟩) hrs h)
  have HFAIL := Lib.hid hfail
  have HFL := Lib.hid (fun w' q => l22Field_any w' op a b c n q)
  have HN := Lib.hid (l1In_named n 0 M _ rfl)
  have h3 : (op = 1 ∨ op = 14 ∨ op = 15 ∨ op = 16 ∨ op = 17 ∨ op = 18 ∨ op = 20 ∨ op = 21) ∧ hasF 3 op = true ∨ ¬ (op = 1 ∨ op = 14 ∨ op = 15 ∨ op = 16 ∨ op = 17 ∨ op = 18 ∨ op = 20 ∨ op = 21) ∧ hasF 3 op = false := by
    rcases op_cases hi.1 hi.2 with h | h | h | h | h | h | h | h | h | h | h | h | h | h | h | h | h | h | h | h | h | h <;> subst h <;> decide
  have H3 := Lib.hid h3
  have HRR := Lib.hid hR
  have HM := Lib.hid hM
  have hfs := hsm.1
  have hvb := World.block_lt_of_cell? _ _ c0
  generalize nameOf op = nm at *
  clear hfw hsm hrs hfail hop hi h3 hR hM
  have c0' : ∀ o1 o2, ((w.alloc o1).alloc o2).cell? ⟨vb, vo + k * 3, none⟩ = some (.int .i64 pr) := fun o1 o2 => by rw [(below2 w o1 o2).cell (p := ⟨vb, vo + k * 3, none⟩) hvb]; exact c0
  have c1' : ∀ o1 o2, ((w.alloc o1).alloc o2).cell? ⟨vb, vo + k * 3 + 1, none⟩ = some (.int .i64 sl) := fun o1 o2 => by rw [(below2 w o1 o2).cell (p := ⟨vb, vo + k * 3 + 1, none⟩) hvb]; exact c1
  have c2' : ∀ o1 o2, ((w.alloc o1).alloc o2).cell? ⟨vb, vo + k * 3 + 2, none⟩ = some (.slice la il lc) := fun o1 o2 => by rw [(below2 w o1 o2).cell (p := ⟨vb, vo + k * 3 + 2, none⟩) hvb]; exact c2
  clear c0 c1 c2
  unfold BoolPost at *
  go_enter Tryd.func108, Tryd.ntmps108
  go_wp2_with (fail)
  go_at_call 130
  refine (HW.out _).mono ?_
  rintro e w1 ⟨rfl, hb⟩
  have hsz := hb.size
  simp at hsz
  obtain ⟨hc, hf⟩ := bcell hb
  have q0 : w1.cell? ⟨w.heap.size + 1, 0, none⟩ = some (.int .i64 op) := by rw [hc _ _ (by simp)]; simp [go_sem]
  have q1 : w1.cell? ⟨w.heap.size + 1, 1, none⟩ = some (.int .i64 a) := by rw [hc _ _ (by simp)]; simp [go_sem]
  have q2 : w1.cell? ⟨w.heap.size + 1, 2, none⟩ = some (.int .i64 b) := by rw [hc _ _ (by simp)]; simp [go_sem]
  have q3 : w1.cell? ⟨w.heap.size + 1, 3, none⟩ = some (.int .i64 c) := by rw [hc _ _ (by simp)]; simp [go_sem]
  have q4 : w1.cell? ⟨w.heap.size + 1, 4, none⟩ = some (.int .i64 n) := by rw [hc _ _ (by simp)]; simp [go_sem]
  have q5 : w1.cell? ⟨w.heap.size + 2, 0, none⟩ = some (.int .i64 pr) := by rw [hc _ _ (by simp)]; simp [go_sem]
  have q6 : w1.cell? ⟨w.heap.size + 2, 1, none⟩ = some (.int .i64 sl) := by rw [hc _ _ (by simp)]; simp [go_sem]
  have q7 : w1.cell? ⟨w.heap.size + 2, 2, none⟩ = some (.slice la il lc) := by rw [hc _ _ (by simp)]; simp [go_sem]
  have hB1 : Below w.heap.size w w1 := by
    refine Below.trans ?_ (hb.mono ?_)
    · (repeat' (first | exact Below.refl _ _ | assumption | (refine Below.setCell ?_ ?_ _) | (refine Below.alloc ?_ ?_ _) | (refine belowDrewN ?_ _) | omega | (simp; done) | (simp; omega)))
    · simp; omega
  have HB1 := Lib.hid hB1
  clear hc hf hb hB1 HW c0' c1' c2'
  go_wp2_with (fail)
  go_at_call 131
  refine (HR.out _).mono ?_
  rintro e w2 ⟨rfl, hb2⟩
  have r0 : w2.cell? ⟨w.heap.size + 1, 0, none⟩ = some (.int .i64 op) := by rw [hb2.cell (p := ⟨w.heap.size + 1, 0, none⟩) (by show w.heap.size + 1 < w1.heap.size; omega)]; exact q0
  have r1 : w2.cell? ⟨w.heap.size + 1, 1, none⟩ = some (.int .i64 a) := by rw [hb2.cell (p := ⟨w.heap.size + 1, 1, none⟩) (by show w.heap.size + 1 < w1.heap.size; omega)]; exact q1
  have r2 : w2.cell? ⟨w.heap.size + 1, 2, none⟩ = some (.int .i64 b) := by rw [hb2.cell (p := ⟨w.heap.size + 1, 2, none⟩) (by show w.heap.size + 1 < w1.heap.size; omega)]; exact q2
  have r3 : w2.cell? ⟨w.heap.size + 1, 3, none⟩ = some (.int .i64 c) := by rw [hb2.cell (p := ⟨w.heap.size + 1, 3, none⟩) (by show w.heap.size + 1 < w1.heap.size; omega)]; exact q3
  have r4 : w2.cell? ⟨w.heap.size + 1, 4, none⟩ = some (.int .i64 n) := by rw [hb2.cell (p := ⟨w.heap.size + 1, 4, none⟩) (by show w.heap.size + 1 < w1.heap.size; omega)]; exact q4
  have r5 : w2.cell? ⟨w.heap.size + 2, 0, none⟩ = some (.int .i64 pr) := by rw [hb2.cell (p := ⟨w.heap.size + 2, 0, none⟩) (by show w.heap.size + 2 < w1.heap.size; omega)]; exact q5
  have r6 : w2.cell? ⟨w.heap.size + 2, 1, none⟩ = some (.int .i64 sl) := by rw [hb2.cell (p := ⟨w.heap.size + 2, 1, none⟩) (by show w.heap.size + 2 < w1.heap.size; omega)]; exact q6
  have r7 : w2.cell? ⟨w.heap.size + 2, 2, none⟩ = some (.slice la il lc) := by rw [hb2.cell (p := ⟨w.heap.size + 2, 2, none⟩) (by show w.heap.size + 2 < w1.heap.size; omega)]; exact q7
  have hsz2 : w.heap.size + 3 ≤ w2.heap.size := by have := hb2.size; omega
  have HB2 := Lib.hid (HB1.out.trans (hb2.mono HB1.out.size))
  clear hb2 HR HB1 q0 q1 q2 q3 q4 q5 q6 q7
  have Q0 := Lib.hid r0
  have Q1 := Lib.hid r1
  have Q2 := Lib.hid r2
  have Q3 := Lib.hid r3
  have Q4 := Lib.hid r4
  have Q5 := Lib.hid r5
  have Q6 := Lib.hid r6
  have Q7 := Lib.hid r7
  clear r0 r1 r2 r3 r4 r5 r6 r7
  go_wp2_with (fail)
  go_loopw [10] (fun i wr => ∃ j : Nat, j ≤ fw.size ∧ i = .int .i64 j ∧ Hid ((fw.data.toList.take j).all (regOk ⟨op, a, b, c, n⟩) = true) ∧ Below w2.heap.size w2 wr) (fun i _ => fw.size - (intOf i).toNat)
  case atStart => exact ⟨0, Nat.zero_le _, rfl, by simp [Hid], Below.refl _ _⟩
  case round =>
    obtain ⟨j, hj, rfl, hall, hB⟩ := hrel
    obtain ⟨wo, rfl⟩ : ∃ wo : World, wo = wr := ⟨_, rfl⟩
    have HB := Lib.hid hB
    have r0 : wo.cell? ⟨w.heap.size + 1, 0, none⟩ = some (.int .i64 op) := by rw [hB.cell (p := ⟨w.heap.size + 1, 0, none⟩) (by show w.heap.size + 1 < w2.heap.size; omega)]; exact Q0.out
    have r1 : wo.cell? ⟨w.heap.size + 1, 1, none⟩ = some (.int .i64 a) := by rw [hB.cell (p := ⟨w.heap.size + 1, 1, none⟩) (by show w.heap.size + 1 < w2.heap.size; omega)]; exact Q1.out
    have r2 : wo.cell? ⟨w.heap.size + 1, 2, none⟩ = some (.int .i64 b) := by rw [hB.cell (p := ⟨w.heap.size + 1, 2, none⟩) (by show w.heap.size + 1 < w2.heap.size; omega)]; exact Q2.out
    have r3 : wo.cell? ⟨w.heap.size + 1, 3, none⟩ = some (.int .i64 c) := by rw [hB.cell (p := ⟨w.heap.size + 1, 3, none⟩) (by show w.heap.size + 1 < w2.heap.size; omega)]; exact Q3.out
    have r4 : wo.cell? ⟨w.heap.size + 1, 4, none⟩ = some (.int .i64 n) := by rw [hB.cell (p := ⟨w.heap.size + 1, 4, none⟩) (by show w.heap.size + 1 < w2.heap.size; omega)]; exact Q4.out
    by_cases hlt : j < fw.size
    · have hst := all_step fw (regOk ⟨op, a, b, c, n⟩) j hlt
      rw [hall.out, Bool.true_and] at hst
      have hmem := mem_at fw j hlt
      by_cases h78 : fw[j] = 78
      · have hz : (fw[j].toNat : Int) = 78 := by rw [h78]; rfl
        have hok : regOk ⟨op, a, b, c, n⟩ fw[j] = true := by unfold regOk; rw [h78]; rfl
        rw [hok] at hst
        have HST := Lib.hid hst
        have d1 : ((fw[j].toNat : Int) == 78) = true := by rw [hz]; rfl
        have d2 : ((fw[j].toNat : Int) != 78) = false := by rw [hz]; rfl
        have d3 : decide ((fw[j].toNat : Int) = 78) = true := by rw [hz]; rfl
        clear hst hmem h78 hok hB hz hall
        go_wp2_with (fail)
        go_quiet (fail)
        go_wp2_with (fail)
        go_roundw
        case rel => exact ⟨j + 1, by omega, by go_num, HST, belowDrewN HB.out _⟩
        case measure => simp [intOf]; omega
      · have hz : ¬ (fw[j].toNat : Int) = 78 := fun h => h78 (by apply UInt8.toNat_inj.mp; show fw[j].toNat = 78; omega)
        have hok : regOk ⟨op, a, b, c, n⟩ fw[j] = inR 0 7 (fieldAt ⟨op, a, b, c, n⟩ fw[j]) := by
          unfold regOk
          have : (fw[j] == 78) = false := by simpa using h78
          rw [this]; rfl
        obtain ⟨p, hp⟩ : ∃ p, inR 0 7 (fieldAt ⟨op, a, b, c, n⟩ fw[j]) = p := ⟨_, rfl⟩
        have WI := Lib.hid (l1In_named (fieldAt ⟨op, a, b, c, n⟩ fw[j]) 0 7 p hp)
        rw [hok, hp] at hst
        rw [hp] at hok
        have hbad : p = false → R = false := fun h => by
          rw [h] at hok
          rw [HRR.out, HFAIL.out _ hmem hok]; rfl
        have HBAD := Lib.hid hbad
        have HST := Lib.hid hst
        have d1 : ((fw[j].toNat : Int) == 78) = false := by simpa using hz
        have d2 : ((fw[j].toNat : Int) != 78) = true := by simpa using hz
        have d3 : decide ((fw[j].toNat : Int) = 78) = false := by simpa using hz
        have HFX := Lib.hid (fun w' => HFL.out w' fw[j])
        obtain ⟨fv, hfv⟩ : ∃ fv, fv = fieldAt ⟨op, a, b, c, n⟩ fw[j] := ⟨_, rfl⟩
        rw [← hfv] at WI HFX
        clear hst hmem h78 hok hB hz hp hfv hbad hall
        go_wp2_with (fail)
        go_still_tail 9, (by kernel_rfl)
        change wpList _ _ _ _ _ wo.drew
        have hdw := HB.out.drew
        have HD := Lib.hid hdw
        clear hdw HB r0 r1 r2 r3 r4
        generalize wo.drew = w3 at *
        go_wp2_with (fail)
        go_at_call 132
        refine (HFX.out _).mono ?_
        rintro e w4 ⟨rfl, hb4⟩
        have HB4 := Lib.hid (HD.out.trans (hb4.mono HD.out.size))
        clear hb4 HFX
        go_wp2_with (fail)
        go_at_call 61
        refine (WI.out _).mono ?_
        rintro e _ ⟨rfl, rfl⟩
        clear WI
        cases p
        · go_wp2_with (fail)
          go_ret
          refine ⟨?_, HB2.out.trans (HB4.out.mono HB2.out.size)⟩
          rw [show R = false by simpa using HBAD.out]; rfl
        · go_wp2_with (fail)
          go_roundw
          case rel => exact ⟨j + 1, by omega, by go_num, HST, HB4.out⟩
          case measure => simp [intOf]; omega
    · obtain rfl : j = fw.size := by omega
      have hregs := HALL.out (by rw [← all_all]; exact hall.out)
      have hRn : R = (!hasF 3 op || inR 0 M n) := by rw [HRR.out, hregs]; rfl
      have HRN := Lib.hid hRn
      have HBB := Lib.hid (HB2.out.trans (hB.mono HB2.out.size))
      have r5 : wo.cell? ⟨w.heap.size + 2, 0, none⟩ = some (.int .i64 pr) := by rw [hB.cell (p := ⟨w.heap.size + 2, 0, none⟩) (by show w.heap.size + 2 < w2.heap.size; omega)]; exact Q5.out
      have r6 : wo.cell? ⟨w.heap.size + 2, 1, none⟩ = some (.int .i64 sl) := by rw [hB.cell (p := ⟨w.heap.size + 2, 1, none⟩) (by show w.heap.size + 2 < w2.heap.size; omega)]; exact Q6.out
      have r7 : wo.cell? ⟨w.heap.size + 2, 2, none⟩ = some (.slice la il lc) := by rw [hB.cell (p := ⟨w.heap.size + 2, 2, none⟩) (by show w.heap.size + 2 < w2.heap.size; omega)]; exact Q7.out
      clear hregs hRn hall hB HB HB2 HALL HFAIL HFL r1 r2 r3 HRR
      by_cases h1 : op = 1
      · subst h1
        obtain rfl : M = 255 := by rw [HM.out]; simp
        have hh : hasF 3 1 = true := by decide
        have hRR : R = inR 0 (255) n := by rw [HRN.out, hh]; rfl
        have HR2 := Lib.hid hRR
        clear hRR
        go_wp2_with (fail)
        go_at_call 61
        refine (HN.out _).mono ?_
        rintro e _ ⟨rfl, rfl⟩
        go_wp2_with (fail)
        go_ret
        exact ⟨by rw [HR2.out]; rfl, HBB.out⟩
      by_cases h14 : op = 14
      · subst h14
        obtain rfl : M = (k : Int) - 1 := by rw [HM.out]; simp
        have hh : hasF 3 14 = true := by decide
        have hRR : R = inR 0 ((k : Int) - 1) n := by rw [HRN.out, hh]; rfl
        have HR2 := Lib.hid hRR
        clear hRR
        go_wp2_with (fail)
        go_at_call 61
        refine (HN.out _).mono ?_
        rintro e _ ⟨rfl, rfl⟩
        go_wp2_with (fail)
        go_ret
        exact ⟨by rw [HR2.out]; rfl, HBB.out⟩
      by_cases h15 : op = 15
      · subst h15
        obtain rfl : M = sl - 1 := by rw [HM.out]; simp
        have hh : hasF 3 15 = true := by decide
        have hRR : R = inR 0 (sl - 1) n := by rw [HRN.out, hh]; rfl
        have HR2 := Lib.hid hRR
        clear hRR
        go_wp2_with (fail)
        go_at_call 61
        refine (HN.out _).mono ?_
        rintro e _ ⟨rfl, rfl⟩
        go_wp2_with (fail)
        go_ret
        exact ⟨by rw [HR2.out]; rfl, HBB.out⟩
      by_cases h16 : op = 16
      · subst h16
        obtain rfl : M = sl - 1 := by rw [HM.out]; simp
        have hh : hasF 3 16 = true := by decide
        have hRR : R = inR 0 (sl - 1) n := by rw [HRN.out, hh]; rfl
        have HR2 := Lib.hid hRR
        clear hRR
        go_wp2_with (fail)
        go_at_call 61
        refine (HN.out _).mono ?_
        rintro e _ ⟨rfl, rfl⟩
        go_wp2_with (fail)
        go_ret
        exact ⟨by rw [HR2.out]; rfl, HBB.out⟩
      by_cases h17 : op = 17
      · subst h17
        obtain rfl : M = 2 := by rw [HM.out]; simp
        have hh : hasF 3 17 = true := by decide
        have hRR : R = inR 0 (2) n := by rw [HRN.out, hh]; rfl
        have HR2 := Lib.hid hRR
        clear hRR
        go_wp2_with (fail)
        go_at_call 61
        refine (HN.out _).mono ?_
        rintro e _ ⟨rfl, rfl⟩
        go_wp2_with (fail)
        go_ret
        exact ⟨by rw [HR2.out]; rfl, HBB.out⟩
      by_cases h18 : op = 18
      · subst h18
        obtain rfl : M = pr - 1 := by rw [HM.out]; simp
        have hh : hasF 3 18 = true := by decide
        have hRR : R = inR 0 (pr - 1) n := by rw [HRN.out, hh]; rfl
        have HR2 := Lib.hid hRR
        clear hRR
        go_wp2_with (fail)
        go_at_call 61
        refine (HN.out _).mono ?_
        rintro e _ ⟨rfl, rfl⟩
        go_wp2_with (fail)
        go_ret
        exact ⟨by rw [HR2.out]; rfl, HBB.out⟩
      by_cases h20 : op = 20
      · subst h20
        obtain rfl : M = (il : Int) - 1 := by rw [HM.out]; simp
        have hh : hasF 3 20 = true := by decide
        have hRR : R = inR 0 ((il : Int) - 1) n := by rw [HRN.out, hh]; rfl
        have HR2 := Lib.hid hRR
        clear hRR
        go_wp2_with (fail)
        go_at_call 61
        refine (HN.out _).mono ?_
        rintro e _ ⟨rfl, rfl⟩
        go_wp2_with (fail)
        go_ret
        exact ⟨by rw [HR2.out]; rfl, HBB.out⟩
      by_cases h21 : op = 21
      · subst h21
        obtain rfl : M = (il : Int) - 1 := by rw [HM.out]; simp
        have hh : hasF 3 21 = true := by decide
        have hRR : R = inR 0 ((il : Int) - 1) n := by rw [HRN.out, hh]; rfl
        have HR2 := Lib.hid hRR
        clear hRR
        go_wp2_with (fail)
        go_at_call 61
        refine (HN.out _).mono ?_
        rintro e _ ⟨rfl, rfl⟩
        go_wp2_with (fail)
        go_ret
        exact ⟨by rw [HR2.out]; rfl, HBB.out⟩
      have hh : hasF 3 op = false := by
        rcases H3.out with h | h
        · exact absurd h.1 (by omega)
        · exact h.2
      have hRR : R = true := by rw [HRN.out, hh]; rfl
      have HR2 := Lib.hid hRR
      clear hRR hh
      go_wp2_with (fail)
      go_ret
      exact ⟨by rw [HR2.out]; rfl, HBB.out⟩

theorem l22Ins_any (w : World) (v : Value) (fs : List Mf) (k : Nat) (f : Mf) (x : Mi) (hm : MfsAt w v fs) (hk : fs[k]? = some f) (hlen : fs.length ≤ 1048576)
    (hs0 : 0 ≤ f.slots) (hs1 : f.slots ≤ 64) (hp0 : 0 ≤ f.params) (hp1 : f.params ≤ 3) (hil : f.ins.length ≤ 1048576) :
    Calls Tryd.prog 108 #[.agg #[v], .int .i64 k, x.val] w (BoolPost (insOk k f x) w) := by
  obtain ⟨b, off, cap, iv, rfl, hb, c0, c1, c2, la, lc, rfl, hmi⟩ := hm.get hk
  cases hno : formOk x
  · have e : insOk k f x = false := by unfold insOk; rw [hno]; rfl
    rw [e]
    exact l22Ins_no w b off cap k fs.length f.params f.slots la f.ins.length lc x hno (idx_lt hk) c0 c1 c2
  · have hop : opIn x.op = true := by
      cases h : opIn x.op
      · rw [formOk_no h] at hno; cases hno
      · rfl
    have hi := inR_iff.mp hop
    refine l22Ins_yes w b off cap k fs.length f.params f.slots la f.ins.length lc x.op x.a x.b x.c x.n hop ?_ (idx_lt hk) hlen c0 c1 c2 hs0 hs1 hp0 hp1 hil (mostOf k f x.op) _ rfl ?_
    · have := restS_ok (x := x) hi.1 hi.2
      rw [formOk_eq hop] at hno
      rw [hno] at this; exact this
    · unfold insOk regs3; rw [hno]; simp only [Bool.true_and]

end Go.Proofs.YtbdbmmdnidonjaaDoor
