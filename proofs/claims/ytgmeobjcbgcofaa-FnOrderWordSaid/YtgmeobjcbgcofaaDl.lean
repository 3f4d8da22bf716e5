/- The list of names that l20Names draws. No conditions. -/
import Derived.Test.YtgmeobjcbgcofaaDn
import Derived.Carry
namespace Go.Proofs.Ytgmeobjcbgcofaa
open Go.RowKit

theorem info_str : (Try.prog.info? 9).map (fun i => (i.zero, i.size, i.bytes)) = some (some (.string .empty), 1, 16) := by kernel_rfl

/-- a slice of the call's own, not nil, of m strings that are not long -/
def NamesOwn (B : Nat) (w : World) (v : Value) (m : Nat) : Prop :=
  ∃ xs, w.ownsRow B 9 1 v m xs ∧ (∀ x ∈ xs, StrLe 16 x) ∧ v ≠ .slice none 0 0

def SmallNat (m : Nat) (x : Value) : Prop := ∃ z : Nat, x = .int .i64 z ∧ z ≤ m

/-- where a draw of names stands: the reader, what has been drawn, and all else as it was -/
structure Dr (r N : Nat) (wE : World) (v : Value) (m : Nat) (w : World) : Prop where
  own : NamesOwn wE.heap.size w v m
  rd : Rd w r N
  only : Only [r] wE w
  old : r < wE.heap.size

theorem Dr.start {r N : Nat} {w : World} (h : Rd w r N) : Dr r N w (.slice (some ⟨w.heap.size, 0, none⟩) 0 0) 0 (w.alloc (.cells #[] 9)) :=
  ⟨⟨[], ⟨rfl, .inr ⟨_, 0, #[], rfl, Nat.le_refl _, by (show (w.heap.push _)[w.heap.size]? = _); simp, Nat.le_refl _, by decide, rfl, rfl⟩⟩, by simp, by simp⟩, h.alloc _, (Only.refl _ _).alloc _, h.lt⟩
theorem Dr.mk' {r N M : Nat} {wE w w' : World} {v : Value} {m : Nat} (h : Dr r N wE v m w) (hr : Rd w' r M) (ho : Only [r] w w') : Dr r M wE v m w' := by
  obtain ⟨xs, h1, h2, h3⟩ := h.own
  exact ⟨⟨xs, ownsRow_only h1 ho (by simpa using h.old), h2, h3⟩, hr, h.only.trans ho, h.old⟩
theorem Dr.alloc {r N : Nat} {wE w : World} {v : Value} {m : Nat} (h : Dr r N wE v m w) (o : Obj) : Dr r N wE v m (w.alloc o) := h.mk' (h.rd.alloc o) ((Only.refl _ _).alloc o)
theorem Dr.mono {r N M : Nat} {wE w : World} {v : Value} {m : Nat} (h : Dr r N wE v m w) (hN : N ≤ M) : Dr r M wE v m w := ⟨h.own, h.rd.mono hN, h.only, h.old⟩

theorem Dr.form {r N : Nat} {wE w : World} {v : Value} {m : Nat} (h : Dr r N wE v m w) : ∃ g cap, v = .slice (some ⟨g, 0, none⟩) m cap ∧ wE.heap.size ≤ g ∧ g < w.heap.size ∧ ∀ i, i < m → ∃ x, w.cell? ⟨g, 0 + i, none⟩ = some x ∧ StrLe 16 x := by
  obtain ⟨xs, ⟨hl, h1⟩, h2, h3⟩ := h.own
  rcases h1 with ⟨h1, _⟩ | ⟨g, cap, cur, hv, hg, hh, hmc, hm, hs, ht⟩
  · exact absurd h1 h3
  · refine ⟨g, cap, hv, hg, ?_, fun i hi => ?_⟩
    · rcases Nat.lt_or_ge g w.heap.size with hl | hl
      · exact hl
      · simp [Array.getElem?_eq_none hl] at hh
    · have hic : i < cur.size := by omega
      refine ⟨cur[i], by rw [Nat.zero_add]; exact cell_of_heap hh (by simp [hic]), h2 _ ?_⟩
      rw [← ht]
      rw [List.mem_take_iff_getElem]
      exact ⟨i, by simp; omega, by simp⟩

def lenOf : Value → Nat | .slice _ n _ => n | _ => 0

theorem ownBlock_of {B : Nat} {w : World} {e : TypeId} {size : Nat} {v : Value} {n : Nat} {xs : List Value} (h : w.ownsRow B e size v n xs) (k : Nat) (hk : v.ownBlock = some k) : B ≤ k := by
  rcases h.2 with ⟨rfl, _⟩ | ⟨g, cap, cur, rfl, hg, _⟩
  · simp [Value.ownBlock] at hk
  · simp [Value.ownBlock] at hk; omega

/-- one name more -/
theorem append_name {ops : Array Oper} {rest : List Oper} {o : Oper} {a : Act} {Q : Exit → Act → World → Prop} (hgd : o.guard = none) (s x : Operand)
    (ho : o.op = .call { callee := .builtin .append, args := #[s, x], argTypes := #[35, 35] })
    (r N : Nat) (wE w0 : World) (v : Value) (m : Nat) (hs : a.eval s = v) (hD : Dr r N wE v m w0) (st : Value) (hst : StrLe 16 st)
    (hx : a.eval x = .slice (some ⟨w0.heap.size, 0, none⟩) 1 1) (hm : m < 64)
    (h : ∀ v' w', Dr r N wE v' (m + 1) w' → wpList Try.prog ops Q rest (a.put o.dst v') w') : wpList Try.prog ops Q (o :: rest) a (w0.alloc (.cells #[st] 9)) := by
  obtain ⟨i0, hi, hz0, hz1, hz2⟩ := info_parts info_str
  obtain ⟨xs, h1, h2, h3⟩ := hD.own
  have hsz := hD.only.size
  obtain ⟨str, rfl, hstr⟩ := hst
  refine wpList_append_own _ hgd s x 35 ho wE.heap.size 9 i0 (.string .empty) 1 16 Try.underlying35 hi hz0 hz1 hz2 rfl (by decide) v m xs hs (h1.alloc _) ⟨w0.heap.size, 0, none⟩ 1 1 [.string str] hx rfl ?_ ?_ ?_ ?_ ?_ ?_
  · intro j u hu
    match j, hu with
    | 0, hu =>
      have : u = .string str := by simpa using hu.symm
      subst this
      rw [show (⟨w0.heap.size, 0, none⟩ : Addr).add 0 = ⟨w0.heap.size, 0, none⟩ from rfl]
      rw [World.cell?_alloc_at _ _ _ _ rfl]; rfl
    | j + 1, hu => simp at hu
  · simp [Value.oneCell']
  · unfold maxLen; omega
  · omega
  · simp; omega
  · intro v' w' hown hg hnil
    refine h v' w' ⟨⟨_, hown, ?_, ?_⟩, ?_, ?_, hD.old⟩
    · intro y hy
      rcases List.mem_append.1 hy with hy | hy
      · exact h2 y hy
      · obtain rfl : y = .string str := by simpa using hy
        exact ⟨str, rfl, hstr⟩
    · intro e; exact h3 (hnil.1 e).1
    · exact (hD.rd.alloc _).grown hg (fun k hk => by have := ownBlock_of h1 k hk; have := hD.old; omega)
    · exact (hD.only.alloc _).grown hg (fun k hk => ownBlock_of h1 k hk)

def DrawnNames (r N : Nat) (w : World) (e : Ending) (w' : World) : Prop :=
  ∃ v m, e = .returned v ∧ m ≤ 64 ∧ Dr r (N + 64) w v m w'

def DrLoop (r N : Nat) (wE : World) (o i : Value) (w : World) : Prop := ∃ m j : Nat, i = .int .i64 j ∧ m + j ≤ 9 ∧ j ≤ 8 ∧ Dr r (N + 2 + 8 - j) wE o m w

theorem small5 : ∀ x ∈ (#[Value.int .i64 3, .int .i64 1, .int .i64 5, .int .i64 8, .int .i64 0] : Array Value).toList, SmallNat 8 x := by
  simp only [List.mem_cons, List.not_mem_nil, or_false, forall_eq_or_imp, forall_eq]
  refine ⟨⟨3, rfl, by omega⟩, ⟨1, rfl, by omega⟩, ⟨5, rfl, by omega⟩, ⟨8, rfl, by omega⟩, ⟨0, rfl, by omega⟩⟩
theorem SmallNat.int {m : Nat} (x : Value) (h : SmallNat m x) : ∃ z, x = .int .i64 z := let ⟨z, h, _⟩ := h; ⟨z, h⟩

theorem str3 : ∀ x ∈ (#[Value.string ⟨#[119, 104, 97, 116]⟩, .string ⟨#[]⟩, .string ⟨#[115, 105, 110, 103, 108, 101, 44, 107, 110, 111, 119, 110]⟩] : Array Value).toList, StrLe 16 x := by
  simp only [List.mem_cons, List.not_mem_nil, or_false, forall_eq_or_imp, forall_eq]
  refine ⟨⟨_, rfl, by decide⟩, ⟨_, rfl, by decide⟩, ⟨_, rfl, by decide⟩⟩

set_option maxHeartbeats 2000000 in
theorem l20Names_any (w : World) (r N : Nat) (hR : Rd w r N) (hN : N + 64 < 1099511627776) :
    Calls Try.prog 16 #[.pointer (some ⟨r, 0, none⟩)] w (DrawnNames r N w) := by
  have hrl := hR.lt
  have HS := Lib.hid (Dr.start hR)
  have HQ8 := Lib.hid (@SmallNat.int 8)
  have H5 := Lib.hid small5
  go_enter Try.func16, Try.ntmps16
  go_wp2_with (fail)
  refine (pick _ r N _ (hR.alloc _) (by omega) (by omega)).mono ?_
  rintro e w1 ⟨k, rfl, hk, _, hR1, hO1⟩
  have HD1 := Lib.hid (HS.out.mk' hR1 hO1)
  clear hR1 hO1 hk HS
  by_cases hk0 : k = 0
  case' neg =>
    obtain ⟨w2, rfl⟩ : ∃ w2, w2 = w1 := ⟨_, rfl⟩
    have HD2 : Hid (Dr r (N + 1) w (.slice (some ⟨w.heap.size, 0, none⟩) 0 0) 0 w2) := HD1.out
    have hkb : ((k : Int) == 0) = false := by simp; omega
    clear HD1
    go_wp2_with (fail)
  case' pos =>
    subst hk0
    go_wp2_with (first | (at_builtin; (refine append_name rfl _ _ (by rfl) r (N+1) w w1 _ 0 (by rfl) HD1.out _ ⟨_, rfl, by decide⟩ (by rfl) (by omega) ?_; intro v w2 hD2; have HD2 := Lib.hid hD2; clear hD2)) | fail)
    clear HD1
  all_goals
    have hsz := HD2.out.only.size
    refine (num_any (SmallNat 8) HQ8.out _ r (N + 1) w2.heap.size 0 5 5 (HD2.out.rd.alloc _) (by omega) (by omega) (by omega) (rowQ_new w2 _ _ _ (by omega) H5.out)).mono ?_
    rintro e w3 ⟨x, rfl, ⟨z, rfl, hz⟩, hR3, hO3⟩
    have HD3 := Lib.hid ((HD2.out.alloc _).mk' hR3 hO3)
    clear hR3 hO3 HD2 hsz
    go_wp2_with (fail)
    go_loopw [3, 4] (fun o i wr => DrLoop r N w o i wr) (fun _ i _ => (intOf i).toNat)
    case atStart => exact ⟨_, z, rfl, by omega, hz, HD3.out.mono (by omega)⟩
    case round =>
      obtain ⟨m, j, rfl, hmj, hj, hD⟩ := hrel
      obtain ⟨wo, rfl⟩ : ∃ wo : World, wo = wr := ⟨_, rfl⟩
      have HD := Lib.hid hD
      clear hD HD3
      by_cases hj0 : 0 < j
      · go_wp2_with (fail)
        refine (names_any _).mono ?_
        rintro e w4 ⟨g, rfl, hg, hb4, hgl, hcc⟩
        have hwo := HD.out.only.size
        have HD4 := Lib.hid (HD.out.mk' (HD.out.rd.below hb4) (Only.of_below hb4 _))
        clear HD hb4
        go_wp2_with (fail)
        refine (pick _ r _ _ HD4.out.rd (by omega) (by omega)).mono ?_
        rintro e w5 ⟨q, rfl, hq, _, hR5, hO5⟩
        have hq16 : q < 16 := by have := hq (by omega); omega
        obtain ⟨y, hy, st, rfl, hst⟩ := hcc q hq16
        rw [← hO5.cell (p := ⟨g, q, none⟩) hgl (by have := HD4.out.only.size; have := HD4.out.old; simp; omega)] at hy
        have HD5 := Lib.hid (HD4.out.mk' hR5 hO5)
        clear HD4 hR5 hO5 hcc hgl hg hq
        go_wp2_with (first | (at_builtin; (refine append_name rfl _ _ (by rfl) r _ w w5 _ m (by rfl) HD5.out _ ⟨_, rfl, hst⟩ (by rfl) (by omega) ?_; intro v w6 hD6; have HD6 := Lib.hid hD6; clear hD6)) | fail)
        go_roundw
        case rel => exact ⟨m + 1, j - 1, by go_num, by omega, by omega, HD6.out.mono (by omega)⟩
        case measure => simp [intOf]; omega
      · obtain rfl : j = 0 := by omega
        go_wp2_with (fail)
        refine (pick _ r _ _ HD.out.rd (by omega) (by omega)).mono ?_
        rintro e w4 ⟨q, rfl, _, _, hR4, hO4⟩
        have HD4 := Lib.hid (HD.out.mk' hR4 hO4)
        clear HD hR4 hO4
        by_cases hq0 : q = 0
        · subst hq0
          go_wp2_with (fail)
          refine (of_any (StrLe 16) StrLe.str _ r _ w4.heap.size 0 3 3 (HD4.out.rd.alloc _) (by omega) (by omega) (by omega) (rowQ_new w4 _ _ _ HD4.out.rd.lt str3)).mono ?_
          rintro e w5 ⟨x, rfl, ⟨st, rfl, hst⟩, hR5, hO5⟩
          have HD5 := Lib.hid ((HD4.out.alloc _).mk' hR5 hO5)
          clear HD4 hR5 hO5
          go_wp2_with (first | (at_builtin; (refine append_name rfl _ _ (by rfl) r _ w w5 _ m (by rfl) HD5.out _ ⟨_, rfl, hst⟩ (by rfl) (by omega) ?_; intro v w6 hD6; have HD6 := Lib.hid hD6; clear hD6)) | fail)
          go_ret
          exact ⟨_, m + 1, rfl, by omega, HD6.out.mono (by omega)⟩
        · have hqb : ((q : Int) == 0) = false := by simp; omega
          by_cases hq1 : q = 1
          · subst hq1
            go_wp2_with (fail)
            go_loopw [3] (fun o wr => ∃ m, m ≤ 43 ∧ Dr r (N + 12 + m) w o m wr) (fun o _ => 64 - lenOf o)
            case atStart => exact ⟨m, by omega, HD4.out.mono (by omega)⟩
            case round =>
              obtain ⟨m2, hm2, hD⟩ := hrel
              obtain ⟨wo2, rfl⟩ : ∃ wo : World, wo = wr := ⟨_, rfl⟩
              obtain ⟨g, cap, rfl, _, _, _⟩ := hD.form
              have HD7 := Lib.hid hD
              clear hD HD4
              go_wp2_with (fail)
              refine (pick _ r _ _ HD7.out.rd (by omega) (by omega)).mono ?_
              rintro e w5 ⟨q, rfl, hq, _, hR5, hO5⟩
              have hq3 : q < 3 := by have := hq (by omega); omega
              have HD5 := Lib.hid (HD7.out.mk' hR5 hO5)
              clear HD7 hR5 hO5 hq
              by_cases hlt : m2 < 40 + q
              · go_wp2_with (first | (at_builtin; (refine append_name rfl _ _ (by rfl) r _ w w5 _ m2 (by rfl) HD5.out _ ⟨_, rfl, by decide⟩ (by rfl) (by omega) ?_; intro v w6 hD6; have HD6 := Lib.hid hD6; clear hD6)) | fail)
                go_roundw
                case rel => exact ⟨m2 + 1, by omega, HD6.out.mono (by omega)⟩
                case measure => obtain ⟨_, _, rfl, _⟩ := HD6.out.form; simp [lenOf]; omega
              · go_wp2_with (fail)
                go_ret
                exact ⟨_, m2, rfl, by omega, HD5.out.mono (by omega)⟩
          · have hqc : ((q : Int) == 1) = false := by simp; omega
            go_wp2_with (fail)
            go_ret
            exact ⟨_, m, rfl, by omega, HD4.out.mono (by omega)⟩

end Go.Proofs.Ytgmeobjcbgcofaa
