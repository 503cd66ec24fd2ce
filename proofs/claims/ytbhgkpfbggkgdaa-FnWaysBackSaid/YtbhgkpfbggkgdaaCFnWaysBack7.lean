/- The law FnWaysBack (part 7 of 7): for every input the call answers true and its arguments read afterwards as before. No condition beyond the row's own. -/
import Derived.Laws.BitsLemmas
import Derived.Test.YtbhgkpfbggkgdaaRows
import Derived.WalkKit
import Derived.ProofKit
import Derived.OpenShut
import Derived.ShutString
import Derived.ChangeOld
import Derived.Below
import Derived.SizedLaws
import Derived.Test.YtbhgkpfbggkgdaaCFnWaysBack6
namespace Go.Proofs.Ytbhgkpfbggkgdaa.Pure
set_option linter.unusedSimpArgs false
set_option linter.unusedVariables false
open Go.RowKit Go.Proofs.Ytbhgkpfbggkgdaa.Q Go.Proofs.YtbhgkpfbggkgdaaW.PrintWords Go.Proofs.YtbhgkpfbggkgdaaW.PrintLast Go.Proofs.YtbhgkpfbggkgdaaW.PrintMore
theorem blt_tri {a b : S24} (h : blt a b = false) (hne : a ≠ b) : blt b a = true := by
 rw [Bool.eq_false_iff] at h
 rw [Ne, blt_iff] at h
 rw [blt_iff]
 by_cases h0 : a.f0 = b.f0
 ·by_cases h1 : a.f1 = b.f1
  ·exact absurd (blk_ext h0 h1) hne
  ·omega
 ·omega
theorem at_set {l : List WW} {i : Nat} (hi : i < l.length) (w : WW) (j : Nat) : at_ (l.set i w) j = if i = j then w else at_ l j := by
 show (l.set i w).getD j _ = _
 rw [List.getD_eq_getElem?_getD, List.getElem?_set]
 by_cases h : i = j
 ·rw [if_pos h, if_pos hi, if_pos h]; rfl
 ·rw [if_neg h, if_neg h]
  show _ = l.getD j _
  rw [List.getD_eq_getElem?_getD]
/-- A table with a route put in at a place. -/
abbrev ins (l : List WW) (w : WW) (i : Nat) : List WW := l.take i ++ [w] ++ l.drop i
theorem h0z {l : List WW} {i : Nat} (hi : i ≤ l.length) (w : WW) : (ins l w i).length = l.length + 1 := by
 rw [List.length_append, List.length_append, List.length_take, List.length_drop, List.length_singleton]
 omega
theorem at_ins {l : List WW} {i : Nat} (hi : i ≤ l.length) (w : WW) (j : Nat) : at_ (ins l w i) j = if j < i then at_ l j else if j = i then w else at_ l (j - 1) := by
 show (l.take i ++ [w] ++ l.drop i).getD j _ = _
 have ht : (l.take i).length = i := by rw [List.length_take]; omega
 rw [List.getD_eq_getElem?_getD, List.append_assoc]
 by_cases h : j < i
 ·rw [if_pos h, List.getElem?_append_left (by omega), List.getElem?_take, if_pos h]
  show _ = l.getD j _
  rw [List.getD_eq_getElem?_getD]
 ·rw [if_neg h, List.getElem?_append_right (by omega), ht]
  by_cases h2 : j = i
  ·rw [if_pos h2, h2, Nat.sub_self]
   rfl
  ·rw [if_neg h2, List.getElem?_append_right (by rw [List.length_singleton]; omega), List.length_singleton, List.getElem?_drop, show i + (j - i - 1) = j - 1 by omega]
   show _ = l.getD (j - 1) _
   rw [List.getD_eq_getElem?_getD]
theorem at_erase {l : List WW} {i : Nat} (j : Nat) : at_ (l.eraseIdx i) j = if j < i then at_ l j else at_ l (j + 1) := by
 show (l.eraseIdx i).getD j _ = _
 rw [List.getD_eq_getElem?_getD, List.getElem?_eraseIdx]
 split
 ·show _ = l.getD j _
  rw [List.getD_eq_getElem?_getD]
 ·show _ = l.getD (j + 1) _
  rw [List.getD_eq_getElem?_getD]
theorem set_ok {l : List WW} (h : wsok l = true) {w : WW} (hw : wok w = true) {i : Nat} (ht : there l w.f0 i = true) : wsok (l.set i w) = true := by
 obtain ⟨h1, h2, h3⟩ := f9z.1 h
 obtain ⟨hi, hb⟩ := g2z.1 ht
 have hf : ∀ j, (at_ (l.set i w) j).f0 = (at_ l j).f0 := by
  intro j
  rw [at_set hi]
  split
  ·next e => rw [← e, hb]
  ·rfl
 refine f9z.2 ⟨by rw [List.length_set]; exact h1, fun j hj => ?_, fun p q hpq hq => ?_⟩
 ·rw [at_set hi]
  split
  ·exact hw
  ·exact h2 j (by rwa [List.length_set] at hj)
 ·rw [hf, hf]
  exact h3 p q hpq (by rwa [List.length_set] at hq)
theorem set_bad {l : List WW} {w : WW} (hw : wok w = false) {i : Nat} (hi : i < l.length) : wsok (l.set i w) = false := by
 rw [Bool.eq_false_iff]
 intro h
 have := (f9z.1 h).2.1 i (by rw [List.length_set]; exact hi)
 rw [at_set hi, if_pos rfl, hw] at this
 cases this
theorem ins_bad {l : List WW} {w : WW} {i : Nat} (hi : i ≤ l.length) (hw : wok w = false ∨ 40 ≤ l.length) : wsok (ins l w i) = false := by
 rw [Bool.eq_false_iff]
 intro h
 obtain ⟨h1, h2, _⟩ := f9z.1 h
 rw [h0z hi] at h1
 rcases hw with hw | hw
 ·have := h2 i (by rw [h0z hi]; omega)
  rw [at_ins hi, if_neg (by omega), if_pos rfl, hw] at this
  cases this
 ·omega
theorem ins_ok {l : List WW} (h : wsok l = true) {w : WW} (hw : wok w = true) {i : Nat} (hp : place l w.f0 i) (ht : there l w.f0 i = false) (hn : l.length < 40) : wsok (ins l w i) = true := by
 obtain ⟨h1, h2, h3⟩ := f9z.1 h
 obtain ⟨hi, p1, p2⟩ := hp
 have hne : ∀ j, i ≤ j → j < l.length → blt w.f0 (at_ l j).f0 = true := by
  intro j hj hjl
  refine blt_tri (p2 j hj hjl) (fun e => ?_)
  by_cases hji : j = i
  ·rw [hji] at e
   have := g2z.2 ⟨by omega, e⟩
   rw [ht] at this
   cases this
  ·have h4 := h3 i j (by omega) hjl
   rw [e, p2 i (Nat.le_refl _) (by omega)] at h4
   cases h4
 refine f9z.2 ⟨by rw [h0z hi]; omega, fun j hj => ?_, fun p q hpq hq => ?_⟩
 ·rw [h0z hi] at hj
  rw [at_ins hi]
  split
  ·exact h2 j (by omega)
  ·split
   ·exact hw
   ·exact h2 (j - 1) (by omega)
 ·rw [h0z hi] at hq
  rw [at_ins hi, at_ins hi]
  by_cases c1 : q < i
  ·rw [if_pos c1, if_pos (show p < i by omega)]
   exact h3 p q hpq (by omega)
  ·rw [if_neg c1]
   by_cases c2 : q = i
   ·rw [if_pos c2, if_pos (show p < i by omega)]
    exact p1 p (by omega)
   ·rw [if_neg c2]
    by_cases c3 : p < i
    ·rw [if_pos c3]
     exact h3 p (q - 1) (by omega) (by omega)
    ·rw [if_neg c3]
     by_cases c4 : p = i
     ·rw [if_pos c4]
      exact hne (q - 1) (by omega) (by omega)
     ·rw [if_neg c4]
      exact h3 (p - 1) (q - 1) (by omega) (by omega)
/-- A table with a route put in, where its block's place is i. -/
def putw (l : List WW) (w : WW) (i : Nat) : List WW × Bool :=
 if wok w = true then if there l w.f0 i = true then (l.set i w, true) else if 40 ≤ l.length then (l, false) else (ins l w i, true) else (l, false)
theorem put_impl {l : List WW} (hl : l.length ≤ 1048577) (h : wsok l = true) (w : WW) : ∃ i, place l w.f0 i ∧ ∀ k, l.length + 70 < k → impl_WaysPut.f k l w.f0.f0 w.f0.f1 w.f1 = some (putw l w i) := by
 obtain ⟨h1, h2, h3⟩ := f9z.1 h
 obtain ⟨i, hp, hf⟩ := find_ev (by omega) h3 w.f0
 refine ⟨i, hp, fun k hk => ?_⟩
 obtain ⟨k, rfl⟩ : ∃ m, k = m + 1 := ⟨k - 1, by omega⟩
 have hi := hp.1
 unfold impl_WaysPut.f slices_Clone_Way.f putw
 rw [waysOk_impl hl (by omega), Option.bind_some, if_pos h, if_pos (by omega), Option.bind_some, hf (k + 1) (by omega), Option.bind_some]
 dsimp only
 cases ht : there l w.f0 i with
 | true =>
  have hil := (g2z.1 ht).1
  have e : (⟨⟨w.f0.f0, w.f0.f1⟩, w.f1⟩ : WW) = w := rfl
  rw [if_pos rfl, if_pos (by omega), if_pos (by omega), Int.toNat_natCast, e]
  simp only [impl_WaysPut.j0]
  rw [waysOk_impl (by rw [List.length_set]; exact hl) (by rw [List.length_set]; omega), Option.bind_some]
  cases hw : wok w with
  | true =>
   rw [if_pos (set_ok h hw ht)]
   rfl
  | false =>
   rw [if_neg (by rw [set_bad hw hil]; simp)]
   unfold slices_Clone_Way.f
   rw [if_pos (by omega), Option.bind_some]
   rfl
 | false =>
  have e : (⟨⟨w.f0.f0, w.f0.f1⟩, w.f1⟩ : WW) = w := rfl
  rw [if_neg (show ¬ (false = true) by simp), e]
  unfold slices_Insert_Way.f
  rw [if_pos (by refine ⟨⟨⟨by omega, by omega⟩, rfl⟩, by omega⟩), Option.bind_some, Int.toNat_natCast]
  simp only [impl_WaysPut.j0]
  have hlen := h0z hi w
  rw [waysOk_impl (l := ins l w i) (by omega) (by omega), Option.bind_some]
  cases hw : wok w with
  | true =>
   by_cases hn : 40 ≤ l.length
   ·rw [if_neg (by rw [ins_bad hi (.inr hn)]; simp)]
    unfold slices_Clone_Way.f
    rw [if_pos (by omega), Option.bind_some, if_pos hn]
    rfl
   ·rw [if_pos (ins_ok h hw hp ht (by omega)), if_neg hn]
    rfl
  | false =>
   rw [if_neg (by rw [ins_bad hi (.inl hw)]; simp)]
   unfold slices_Clone_Way.f
   rw [if_pos (by omega), Option.bind_some]
   rfl
theorem put_spec {l : List WW} (hl : l.length ≤ 1048577) (h : wsok l = true) (w : WW) (i : Nat) (hp : place l w.f0 i) : ∀ k, l.length + 70 < k → spec_WaysPut.f k l w.f0.f0 w.f0.f1 w.f1 = some (putw l w i) := by
 obtain ⟨h1, h2, h3⟩ := f9z.1 h
 intro k hk
 obtain ⟨k, rfl⟩ : ∃ m, k = m + 1 := ⟨k - 1, by omega⟩
 have hi := hp.1
 unfold spec_WaysPut.f spec_l3Copy.f putw
 rw [waysOk_spec hl (by omega), Option.bind_some, if_pos h]
 simp only [Option.bind_some, List.nil_append, List.length_nil]
 rw [if_pos (by omega), Option.bind_some, ok_spec _ _ (by omega), Option.bind_some]
 cases hb : bok w.f0.f0 w.f0.f1 with
 | false =>
  rw [if_neg (by simp)]
  simp only [spec_WaysPut.j0]
  rw [if_pos trivial, if_neg (by unfold wok; rw [hb]; simp)]
 | true =>
  rw [if_pos rfl, in_spec, Option.bind_some]
  by_cases hh : 0 ≤ w.f1 ∧ w.f1 ≤ 99
  ·have hw : wok w = true := by unfold wok; rw [hb]; simpa using hh
   rw [decide_eq_true hh, if_pos hw]
   simp only [spec_WaysPut.j0]
   obtain ⟨j, hp', hf⟩ := l3At_ev (by omega) h3 h2 w.f0 hb
   obtain rfl := place_uniq hp hp'
   rw [if_neg (by simp), hf k (by omega), Option.bind_some]
   dsimp only
   cases ht : there l w.f0 i with
   | true =>
    have hil := (g2z.1 ht).1
    rw [if_pos rfl, if_pos (by omega), if_pos (by omega), Int.toNat_natCast, if_pos rfl]
   | false =>
    rw [if_neg (by simp), if_neg (show ¬ (false = true) by simp)]
    by_cases hn : 40 ≤ l.length
    ·rw [if_pos (by omega), if_pos hn]
    ·rw [if_neg (by omega), if_neg hn]
     simp only [Option.bind_some, List.nil_append, List.length_nil, List.length_append, List.length_take, List.length_drop, List.length_singleton, Int.toNat_natCast]
     rw [if_pos (by omega), if_pos (by omega), if_pos (by omega), if_pos (by omega), if_pos (by omega)]
  ·rw [decide_eq_false hh, if_neg (by unfold wok; rw [hb]; simpa using hh)]
   simp only [spec_WaysPut.j0]
   rw [if_pos (by simp)]
end Go.Proofs.Ytbhgkpfbggkgdaa.Pure

namespace Go.Proofs.Ytbhgkpfbggkgdaa.Pure
set_option linter.unusedSimpArgs false
open Go.RowKit Go.Proofs.Ytbhgkpfbggkgdaa.Q Go.Proofs.Ytbhgkpfbggkgdaa.Open Go.Proofs.YtbhgkpfbggkgdaaW.PrintWords Go.Proofs.YtbhgkpfbggkgdaaW.PrintLast Go.Proofs.YtbhgkpfbggkgdaaW.PrintMore
/-- Bytes, at most two thousand of them. -/
def rdOk (xs : List Int) : Prop := (∀ y ∈ xs, 0 ≤ y ∧ y ≤ 255) ∧ xs.length ≤ 2000
theorem fits_u8 {y : Int} (h : Fits .u8 y) : 0 ≤ y ∧ y ≤ 255 := by
 have g : (decide (IntKind.u8.min ≤ y) && decide (y ≤ IntKind.u8.max)) = true := h
 rw [Bool.and_eq_true, decide_eq_true_eq, decide_eq_true_eq] at g
 exact g
theorem xor_nn {a b : Int} (ha : 0 ≤ a) (ha' : a < 4611686018427387904) (hb : 0 ≤ b) (hb' : b < 4611686018427387904) : 0 ≤ Go.bits .xor .i64 a b := by
 obtain ⟨m, rfl⟩ := Int.eq_ofNat_of_zero_le ha
 obtain ⟨n, rfl⟩ := Int.eq_ofNat_of_zero_le hb
 have hm : m < 2 ^ 62 := by omega
 have hn : n < 2 ^ 62 := by omega
 have hx : m ^^^ n < 2 ^ 62 := Nat.xor_lt_two_pow hm hn
 simp only [Go.bits, BitVec.ofInt_natCast, BitVec.toNat_xor, BitVec.toNat_ofNat]
 rw [Nat.mod_eq_of_lt (show m < 2 ^ IntKind.i64.bits by show m < 2 ^ 64; omega), Nat.mod_eq_of_lt (show n < 2 ^ IntKind.i64.bits by show n < 2 ^ 64; omega), IntKind.wrap_i64]
 generalize m ^^^ n = z at hx
 omega
theorem rd_byte {xs : List Int} (hx : rdOk xs) (i : Int) : 0 ≤ rd xs i ∧ rd xs i ≤ 255 := by
 show 0 ≤ xs.getD i.toNat 0 ∧ xs.getD i.toNat 0 ≤ 255
 rw [List.getD_eq_getElem?_getD]
 by_cases h : i.toNat < xs.length
 ·rw [List.getElem?_eq_getElem h]
  exact hx.1 _ (List.getElem_mem h)
 ·rw [List.getElem?_eq_none (by omega)]
  decide
theorem tmod_in {a n : Int} (ha : 0 ≤ a) (hn : 1 ≤ n) : 0 ≤ Int.tmod a n ∧ Int.tmod a n < n := ⟨Int.tmod_nonneg _ ha, Int.tmod_lt_of_pos _ (by omega)⟩
theorem g7z {xs : List Int} (hx : rdOk xs) {s n : Int} (hs : 0 ≤ s) (hs' : s ≤ 1000000000) (hn : 1 ≤ n) {k : Nat} (hk : 1 ≤ k) : ∃ v, spec_l1Rd_pick.f k xs s n = some (v, s + 1) ∧ 0 ≤ v ∧ v < n := by
 obtain ⟨k, rfl⟩ : ∃ m, k = m + 1 := ⟨k - 1, by omega⟩
 have hl := hx.2
 unfold spec_l1Rd_pick.f
 rw [if_neg (by omega), w64 (x := s + 1) (by omega) (by omega)]
 simp only [spec_l1Rd_pick.j0]
 rw [w64 (x := s + 1 - 1) (by omega) (by omega), show s + 1 - 1 = s by omega]
 by_cases h0 : xs.length = 0
 ·rw [if_pos (by simp [h0])]
  exact ⟨0, rfl, by omega, by omega⟩
 ·rw [if_neg (by simp; intro h; exact h0 (by rw [h]; rfl))]
  by_cases h1 : s < (xs.length : Int)
  ·obtain ⟨g0, g1⟩ := rd_byte hx s
   rw [if_pos h1, if_pos hs, if_neg (by omega), w64 (by omega) (by omega)]
   obtain ⟨t0, t1⟩ := tmod_in g0 hn
   exact ⟨_, rfl, t0, t1⟩
  ·rw [if_neg h1, if_neg (by omega)]
   obtain ⟨i0, i1⟩ := tmod_in (n := (xs.length : Int)) hs (by omega)
   rw [if_pos i0, if_pos i1, w64 (x := s * 7) (by omega) (by omega), w64 (x := s * 7 + 3) (by omega) (by omega)]
   obtain ⟨j0, j1⟩ := tmod_in (a := s * 7 + 3) (n := (xs.length : Int)) (by omega) (by omega)
   rw [if_pos j0, if_pos j1, if_neg (by omega)]
   obtain ⟨g0, g1⟩ := rd_byte hx (Int.tmod s (xs.length : Int))
   obtain ⟨f0, f1⟩ := rd_byte hx (Int.tmod (s * 7 + 3) (xs.length : Int))
   have q0 : 0 ≤ Int.tdiv s (xs.length : Int) := Int.tdiv_nonneg hs (by omega)
   have q1 : Int.tdiv s (xs.length : Int) ≤ s := by
    rw [Int.tdiv_eq_ediv_of_nonneg hs]
    exact Int.ediv_le_self _ hs
   generalize rd xs (Int.tmod s (xs.length : Int)) = g at *
   generalize rd xs (Int.tmod (s * 7 + 3) (xs.length : Int)) = f at *
   generalize Int.tdiv s (xs.length : Int) = q at *
   rw [w64 (x := g) (by omega) (by omega), w64 (x := f) (by omega) (by omega), w64 (x := q) (by omega) (by omega), w64 (x := g * 131) (by omega) (by omega), w64 (x := f * 1117) (by omega) (by omega), w64 (x := s * 29) (by omega) (by omega), w64 (x := q * 53) (by omega) (by omega), w64 (x := g * 131 + f * 1117) (by omega) (by omega), w64 (x := g * 131 + f * 1117 + s * 29) (by omega) (by omega), w64 (x := g * 131 + f * 1117 + s * 29 + q * 53) (by omega) (by omega)]
   have hA : 0 ≤ g * 131 + f * 1117 + s * 29 + q * 53 := by omega
   have hA' : g * 131 + f * 1117 + s * 29 + q * 53 < 4611686018427387904 := by omega
   generalize g * 131 + f * 1117 + s * 29 + q * 53 = A at hA hA'
   rw [Int.tdiv_eq_ediv_of_nonneg hA, w64 (x := A / 64) (by omega) (by omega)]
   obtain ⟨t0, t1⟩ := tmod_in (xor_nn hA hA' (b := A / 64) (by omega) (by omega)) hn
   exact ⟨_, rfl, t0, t1⟩
theorem one_ev {xs : List Int} (hx : rdOk xs) {s : Int} (hs : 0 ≤ s) (hs' : s ≤ 1000000000) (l : List Int) (hl : 1 ≤ l.length) {k : Nat} (hk : 1 ≤ k) : ∃ v, spec_l1Rd_one.f k xs s l = some (v, s + 1) ∧ v ∈ l := by
 unfold spec_l1Rd_one.f
 obtain ⟨v, e, v0, v1⟩ := g7z hx hs hs' (n := (l.length : Int)) (by omega) hk
 rw [e, Option.bind_some]
 dsimp only
 rw [if_pos v0, if_pos v1]
 refine ⟨_, rfl, ?_⟩
 show l.getD v.toNat 0 ∈ l
 rw [List.getD_eq_getElem?_getD, List.getElem?_eq_getElem (by omega)]
 exact List.getElem_mem _
theorem drAddr_ev {xs : List Int} (hx : rdOk xs) {s : Int} (hs : 0 ≤ s) (hs' : s ≤ 999999990) {k : Nat} (hk : 1 ≤ k) : ∃ a, spec_l12Addr.f k xs s = some (a, s + 6) ∧ 0 ≤ a ∧ a ≤ 4294967295 := by
 unfold spec_l12Addr.f
 obtain ⟨v0, e0, l0, u0⟩ := g7z hx (s := s) (n := 256) (by omega) (by omega) (by omega) hk
 obtain ⟨v1, e1, l1, u1⟩ := g7z hx (s := s + 1) (n := 8) (by omega) (by omega) (by omega) hk
 obtain ⟨v2, e2, l2, u2⟩ := g7z hx (s := s + 1 + 1) (n := 16) (by omega) (by omega) (by omega) hk
 obtain ⟨v3, e3, l3, u3⟩ := g7z hx (s := s + 1 + 1 + 1) (n := 256) (by omega) (by omega) (by omega) hk
 obtain ⟨v4, e4, l4, u4⟩ := g7z hx (s := s + 1 + 1 + 1 + 1) (n := 64) (by omega) (by omega) (by omega) hk
 simp only [e0, e1, e2, e3, e4, Option.bind_some]
 rw [w64 (x := 167772160 + v0) (by omega) (by omega), w64 (x := 167772160 + v1) (by omega) (by omega), w64 (x := 167772416 + v2) (by omega) (by omega), w64 (x := 3232235520 + v3) (by omega) (by omega), w64 (x := v4 * 256) (by omega) (by omega), w64 (x := 2886729728 + v4 * 256) (by omega) (by omega)]
 obtain ⟨v, e, hv⟩ := one_ev hx (s := s + 1 + 1 + 1 + 1 + 1) (by omega) (by omega) [167772160 + v0, 167772160 + v1, 167772416 + v2, 3232235520 + v3, 0, 4294967295, 184549375, 2886729728 + v4 * 256] (by simp) hk
 rw [e, Option.bind_some]
 refine ⟨v, by show some (v, s + 1 + 1 + 1 + 1 + 1 + 1) = _; congr 2; omega, ?_⟩
 simp only [List.mem_cons, List.not_mem_nil, or_false] at hv
 omega
theorem over_ev {a b : Int} (h0 : 0 ≤ a) (h1 : a ≤ 4294967295) (h2 : 0 ≤ b) (h3 : b ≤ 32) {k : Nat} (hk : 40 ≤ k) : spec_l1Over.f k a b = some (a / sz b * sz b, b) ∧ bok (a / sz b * sz b) b = true := by
 have hp := sz_pos b
 have hd : sz b * (a / sz b) + a % sz b = a := Int.mul_ediv_add_emod a (sz b)
 have hr := Int.emod_nonneg a (show sz b ≠ 0 by omega)
 have hq : 0 ≤ a / sz b := Int.ediv_nonneg h0 (by omega)
 have hq' : a / sz b ≤ a := Int.ediv_le_self _ h0
 have hm : 0 ≤ a / sz b * sz b := Int.mul_nonneg hq (by omega)
 rw [Int.mul_comm] at hd
 constructor
 ·unfold spec_l1Over.f
  rw [size_spec h2 h3 hk, Option.bind_some, if_neg (by omega), Option.bind_some, Int.tdiv_eq_ediv_of_nonneg h0, w64 (x := a / sz b) (by omega) (by omega), w64 (by omega) (by omega)]
 ·rw [bok_iff]
  exact ⟨hm, by omega, h2, h3, Int.mul_emod_left _ _⟩
theorem drBlock_ev {xs : List Int} (hx : rdOk xs) {s : Int} (hs : 0 ≤ s) (hs' : s ≤ 999999980) {k : Nat} (hk : 40 ≤ k) : ∃ a b, spec_l12Block.f k xs s = some (a, b, s + 7) ∧ bok a b = true := by
 unfold spec_l12Block.f
 obtain ⟨a, ea, a0, a1⟩ := drAddr_ev hx hs (by omega) (show 1 ≤ k by omega)
 obtain ⟨b, eb, hb⟩ := one_ev hx (s := s + 6) (by omega) (by omega) [32, 31, 30, 28, 24, 24, 25, 16, 8, 1, 0, 29] (by simp) (show 1 ≤ k by omega)
 simp only [List.mem_cons, List.not_mem_nil, or_false] at hb
 obtain ⟨eo, ho⟩ := over_ev (b := b) a0 a1 (by omega) (by omega) hk
 rw [ea, Option.bind_some]
 dsimp only
 rw [eb, Option.bind_some]
 dsimp only
 rw [eo, Option.bind_some]
 exact ⟨_, _, by show some (_, _, s + 6 + 1) = _; congr 3; omega, ho⟩
theorem drAnyBlock_ev {xs : List Int} (hx : rdOk xs) {s : Int} (hs : 0 ≤ s) (hs' : s ≤ 999999970) {k : Nat} (hk : 40 ≤ k) : ∃ a b t, spec_l12AnyBlock.f k xs s = some (a, b, t) ∧ s ≤ t ∧ t ≤ s + 10 ∧ -1 ≤ a ∧ a ≤ 8589934592 ∧ -1 ≤ b ∧ b ≤ 33 := by
 unfold spec_l12AnyBlock.f
 obtain ⟨a, b, eb, hb⟩ := drBlock_ev hx hs (by omega) hk
 obtain ⟨h0, h1, h2, h3, _⟩ := bok_iff.1 hb
 obtain ⟨v, ev, v0, v1⟩ := g7z hx (s := s + 7) (n := 16) (by omega) (by omega) (by omega) (show 1 ≤ k by omega)
 rw [eb, Option.bind_some]
 dsimp only
 rw [ev, Option.bind_some]
 dsimp only
 by_cases g0 : v = 0
 ·obtain ⟨c, ec, hc⟩ := one_ev hx (s := s + 7 + 1) (by omega) (by omega) [1, -1, 256] (by simp) (show 1 ≤ k by omega)
  simp only [List.mem_cons, List.not_mem_nil, or_false] at hc
  rw [if_pos g0, ec, Option.bind_some]
  exact ⟨_, _, _, rfl, by omega, by omega, by rw [w64 (by dsimp only; omega) (by dsimp only; omega)]; dsimp only; omega, by rw [w64 (by dsimp only; omega) (by dsimp only; omega)]; dsimp only; omega, by omega, by omega⟩
 ·rw [if_neg g0]
  by_cases g1 : v = 1
  ·obtain ⟨c, ec, hc⟩ := one_ev hx (s := s + 7 + 1) (by omega) (by omega) [-1, 33, 0, 32] (by simp) (show 1 ≤ k by omega)
   simp only [List.mem_cons, List.not_mem_nil, or_false] at hc
   rw [if_pos g1, ec, Option.bind_some]
   exact ⟨_, _, _, rfl, by omega, by omega, by omega, by omega, by dsimp only; omega, by dsimp only; omega⟩
  ·rw [if_neg g1]
   exact ⟨_, _, _, rfl, by omega, by omega, by omega, by omega, by omega, by omega⟩
theorem open_ev {xs : List Int} (hx : ∀ y ∈ xs, 0 ≤ y ∧ y ≤ 255) : ∃ ys, spec_l1Open.f xs = some (ys, 0) ∧ rdOk ys := by
 unfold spec_l1Open.f
 by_cases h : (xs.length : Int) > 2000
 ·rw [if_pos h, if_pos (by omega)]
  exact ⟨_, rfl, fun y hy => hx y (List.mem_of_mem_take hy), by rw [List.length_take]; omega⟩
 ·rw [if_neg h]
  exact ⟨_, rfl, hx, by omega⟩
end Go.Proofs.Ytbhgkpfbggkgdaa.Pure

namespace Go.Proofs.Ytbhgkpfbggkgdaa.Pure
set_option linter.unusedSimpArgs false
set_option linter.unusedVariables false
open Go.RowKit Go.Proofs.Ytbhgkpfbggkgdaa.Q Go.Proofs.Ytbhgkpfbggkgdaa.Open Go.Proofs.YtbhgkpfbggkgdaaW.PrintWords Go.Proofs.YtbhgkpfbggkgdaaW.PrintLast Go.Proofs.YtbhgkpfbggkgdaaW.PrintMore
theorem ovWays_ev {l : List S82} {k : Nat} (hl : l.length ≤ 1048576) (hk : l.length < k) : laws_ovWays.f k l l = some true := by
 unfold laws_ovWays.f
 rw [if_pos rfl]
 refine true_loop (fun k i => laws_ovWays.l0 k l l i) l.length 0 true ?_ ?_ k hk
 ·intro k i hi _
  simp only [laws_ovWays.l0]
  rw [if_pos (by omega), if_pos (by omega), if_pos (by omega), if_neg (by simp), w64 (by omega) (by omega)]
  rfl
 ·intro k _
  simp only [laws_ovWays.l0]
  rw [if_neg (by omega)]
theorem putw_ok {l : List WW} (h : wsok l = true) (w : WW) {i : Nat} (hp : place l w.f0 i) : wsok (putw l w i).1 = true := by
 unfold putw
 cases hw : wok w with
 | false => rw [if_neg (by simp)]; exact h
 | true =>
  rw [if_pos rfl]
  cases ht : there l w.f0 i with
  | true => rw [if_pos rfl]; exact set_ok h hw ht
  | false =>
   rw [if_neg (by simp)]
   by_cases hn : 40 ≤ l.length
   ·rw [if_pos hn]; exact h
   ·rw [if_neg hn]; exact ins_ok h hw hp ht (by omega)
theorem put_ev {l : List WW} (h : wsok l = true) (w : WW) : ∃ i, place l w.f0 i ∧ ∀ k, l.length + 70 < k → spec_WaysPut.f k l w.f0.f0 w.f0.f1 w.f1 = some (putw l w i) := by
 obtain ⟨h1, _, h3⟩ := f9z.1 h
 obtain ⟨i, hp, _⟩ := find_ev (by omega) h3 w.f0
 exact ⟨i, hp, put_spec (by omega) h w i hp⟩
/-- How many routes begin at a place or behind it. -/
def from_ (n : Int) (l : List WW) : Nat := l.countP fun w => decide (n ≤ w.f0.f0)
theorem from_ins (n : Int) (l : List WW) (w : WW) (i : Nat) : from_ n (ins l w i) = from_ n l + (if n ≤ w.f0.f0 then 1 else 0) := by
 unfold from_
 rw [List.countP_append, List.countP_append, List.countP_singleton]
 have := congrArg (List.countP fun w : WW => decide (n ≤ w.f0.f0)) (List.take_append_drop i l)
 rw [List.countP_append] at this
 by_cases h : n ≤ w.f0.f0
 ·rw [if_pos (by simpa using h), if_pos h]; omega
 ·rw [if_neg (by simpa using h), if_neg h]; omega
theorem from_mono {m n : Int} (h : m ≤ n) (l : List WW) : from_ n l ≤ from_ m l := by
 unfold from_
 refine List.countP_mono_left (fun w _ hw => ?_)
 rw [decide_eq_true_eq] at hw ⊢
 omega
theorem split_at (l : List WW) {i : Nat} (hi : i < l.length) : l = l.take i ++ [at_ l i] ++ l.drop (i + 1) := by
 have e : at_ l i = l[i] := by
  show l.getD i _ = _
  rw [List.getD_eq_getElem?_getD, List.getElem?_eq_getElem hi]; rfl
 rw [e, List.append_assoc, List.singleton_append, ← List.drop_eq_getElem_cons hi, List.take_append_drop]
theorem from_set (n : Int) {l : List WW} {w : WW} {i : Nat} (hi : i < l.length) (hb : (at_ l i).f0 = w.f0) : from_ n (l.set i w) = from_ n l := by
 have h2 : l.set i w = l.take i ++ [w] ++ l.drop (i + 1) := by
  rw [List.set_eq_take_append_cons_drop, if_pos hi, List.append_assoc, List.singleton_append]
 rw [h2]
 conv => rhs; rw [split_at l hi]
 unfold from_
 rw [List.countP_append, List.countP_append, List.countP_append, List.countP_append, List.countP_singleton, List.countP_singleton, hb]
theorem from_lt {l : List WW} {n : Int} {i : Nat} (hi : i < l.length) (hb : (at_ l i).f0.f0 = n) : from_ (n + 1) l < from_ n l := by
 have h2 := split_at l hi
 have e : ∀ m, from_ m l = from_ m (l.take i) + (if m ≤ (at_ l i).f0.f0 then 1 else 0) + from_ m (l.drop (i + 1)) := by
  intro m
  conv => lhs; rw [h2]
  unfold from_
  rw [List.countP_append, List.countP_append, List.countP_singleton]
  by_cases h : m ≤ (at_ l i).f0.f0
  ·rw [if_pos (by simpa using h), if_pos h]
  ·rw [if_neg (by simpa using h), if_neg h]
 rw [e, e, if_neg (by omega), if_pos (by omega)]
 have := from_mono (show n ≤ n + 1 by omega) (l.take i)
 have := from_mono (show n ≤ n + 1 by omega) (l.drop (i + 1))
 omega
theorem sz32 : sz 32 = 1 := by decide
theorem ways_fill : ∀ (m n : Nat) (l : List WW) (xs : List Int) (s : Int) (k : Nat), wsok l = true → (40 - l.length) + from_ (2 * (n : Int)) l ≤ m → n + m ≤ 100000 → m + 200 ≤ k → ∃ l', spec_l12Ways.l1 k l (n : Int) xs s = some (l', s) ∧ wsok l' = true := by
 intro m
 induction m with
 | zero =>
  intro n l xs s k h hm hn hk
  obtain ⟨k, rfl⟩ : ∃ q, k = q + 1 := ⟨k - 1, by omega⟩
  simp only [spec_l12Ways.l1]
  rw [if_neg (by omega)]
  exact ⟨l, rfl, h⟩
 | succ m ih =>
  intro n l xs s k h hm hn hk
  obtain ⟨k, rfl⟩ : ∃ q, k = q + 1 := ⟨k - 1, by omega⟩
  simp only [spec_l12Ways.l1]
  by_cases hl : l.length < 40
  ·have ht : 0 ≤ Int.tmod (n : Int) 3 ∧ Int.tmod (n : Int) 3 < 3 := tmod_in (by omega) (by omega)
   rw [if_pos (by omega), w64 (x := (n : Int) * 2) (by omega) (by omega), w64 (x := (n : Int) + 1) (by omega) (by omega)]
   obtain ⟨w, hw⟩ : ∃ w : WW, w = ⟨⟨(n : Int) * 2, 32⟩, Int.tmod (n : Int) 3⟩ := ⟨_, rfl⟩
   have hok : wok w = true := by
    rw [hw]
    unfold wok
    rw [Bool.and_eq_true, decide_eq_true_eq]
    refine ⟨bok_iff.2 ⟨?_, ?_, ?_, ?_, ?_⟩, ?_, ?_⟩
    ·show 0 ≤ (n : Int) * 2; omega
    ·show (n : Int) * 2 ≤ 4294967295; omega
    ·show (0 : Int) ≤ 32; omega
    ·show (32 : Int) ≤ 32; omega
    ·show (n : Int) * 2 % sz 32 = 0; rw [sz32]; omega
    ·exact ht.1
    ·have := ht.2
     show Int.tmod (n : Int) 3 ≤ 99
     omega
   obtain ⟨i, hp, he⟩ := put_ev h w
   have he' := he k (by omega)
   rw [hw] at he'
   dsimp only at he'
   rw [he', Option.bind_some, ← hw]
   have hb0 : w.f0.f0 = 2 * (n : Int) := by rw [hw]; show (n : Int) * 2 = _; omega
   have hmeas : (40 - (putw l w i).1.length) + from_ (2 * ((n + 1 : Nat) : Int)) (putw l w i).1 ≤ m := by
    unfold putw
    rw [if_pos hok]
    have hm2 : from_ (2 * ((n + 1 : Nat) : Int)) l ≤ from_ (2 * (n : Int) + 1) l := from_mono (by omega) l
    cases hth : there l w.f0 i with
    | true =>
     obtain ⟨hil, hbl⟩ := g2z.1 hth
     rw [if_pos rfl]
     dsimp only
     rw [List.length_set, from_set _ hil hbl]
     have := from_lt hil (show (at_ l i).f0.f0 = 2 * (n : Int) by rw [hbl, hb0])
     omega
    | false =>
     rw [if_neg (by simp), if_neg (by omega)]
     dsimp only
     rw [h0z hp.1, from_ins, if_neg (by omega)]
     have := from_mono (show 2 * (n : Int) ≤ 2 * (n : Int) + 1 by omega) l
     omega
   exact ih (n + 1) _ xs s k (putw_ok h w hp) hmeas (by omega) (by omega)
  ·rw [if_neg (by omega)]
   exact ⟨l, rfl, h⟩
theorem from_le (n : Int) (l : List WW) : from_ n l ≤ l.length := List.countP_le_length
theorem drWays_ev {xs : List Int} (hx : rdOk xs) {s : Int} (hs : 0 ≤ s) (hs' : s ≤ 999990000) {k : Nat} (hk : 500 ≤ k) : ∃ l t, spec_l12Ways.f k xs s = some (l, t) ∧ s ≤ t ∧ t ≤ s + 100 ∧ l.length ≤ 40 := by
 have key : ∀ (n : Nat) (l : List WW) (u : Int) (k : Nat), wsok l = true → 0 ≤ u → u + 8 * (n : Int) ≤ 999999000 → n ≤ 8 → 450 + n ≤ k → ∃ l' t, spec_l12Ways.l0 k l (n : Int) xs u = some (l', t) ∧ u ≤ t ∧ t ≤ u + 8 * (n : Int) + 2 ∧ l'.length ≤ 40 := by
  intro n
  induction n with
  | zero =>
   intro l u k h hu hu' hn hk
   obtain ⟨k, rfl⟩ : ∃ q, k = q + 1 := ⟨k - 1, by omega⟩
   have hl := (f9z.1 h).1
   simp only [spec_l12Ways.l0]
   obtain ⟨v, ev, _⟩ := g7z hx (s := u) (n := 24) (by omega) (by omega) (by omega) (show 1 ≤ k by omega)
   rw [if_neg (by omega), ev, Option.bind_some]
   dsimp only
   by_cases hv : v = 0
   ·rw [if_pos hv]
    obtain ⟨l', e, hl'⟩ := ways_fill 80 0 l xs (u + 1) k h (by have := from_le (2 * ((0 : Nat) : Int)) l; omega) (by omega) (by omega)
    rw [show ((0 : Nat) : Int) = 0 from rfl] at e
    exact ⟨l', _, e, by omega, by omega, (f9z.1 hl').1⟩
   ·rw [if_neg hv]
    exact ⟨l, _, rfl, by omega, by omega, hl⟩
  | succ n ih =>
   intro l u k h hu hu' hn hk
   obtain ⟨k, rfl⟩ : ∃ q, k = q + 1 := ⟨k - 1, by omega⟩
   have hl := (f9z.1 h).1
   simp only [spec_l12Ways.l0]
   obtain ⟨b0, b1, eb, _⟩ := drBlock_ev hx (s := u) (by omega) (by omega) (show 40 ≤ k by omega)
   obtain ⟨v, ev, _⟩ := g7z hx (s := u + 7) (n := 3) (by omega) (by omega) (by omega) (show 1 ≤ k by omega)
   obtain ⟨i, hp, he⟩ := put_ev h (⟨⟨b0, b1⟩, v⟩ : WW)
   have he' := he k (by omega)
   dsimp only at he'
   rw [if_pos (by omega), eb, Option.bind_some]
   dsimp only
   rw [ev, Option.bind_some]
   dsimp only
   rw [he', Option.bind_some, w64 (by omega) (by omega), show ((n + 1 : Nat) : Int) - 1 = (n : Int) by omega]
   obtain ⟨l', t, e, t0, t1, g⟩ := ih _ (u + 7 + 1) k (putw_ok h _ hp) (by omega) (by omega) (by omega) (by omega)
   exact ⟨l', t, e, by omega, by omega, g⟩
 unfold spec_l12Ways.f
 obtain ⟨v, ev, v0, v1⟩ := g7z hx (s := s) (n := 8) (by omega) (by omega) (by omega) (show 1 ≤ k by omega)
 obtain ⟨n, rfl⟩ := Int.eq_ofNat_of_zero_le v0
 obtain ⟨l, t, e, t0, t1, h⟩ := key n [] (s + 1) k (by decide) (by omega) (by omega) (by omega) (by omega)
 rw [ev, Option.bind_some]
 exact ⟨l, t, e, by omega, by omega, h⟩
theorem drAnyWays_ev {xs : List Int} (hx : rdOk xs) {s : Int} (hs : 0 ≤ s) (hs' : s ≤ 999980000) {k : Nat} (hk : 500 ≤ k) : ∃ l t, spec_l12AnyWays.f k xs s = some (l, t) ∧ s ≤ t ∧ t ≤ s + 200 ∧ l.length ≤ 41 := by
 unfold spec_l12AnyWays.f
 obtain ⟨l, t, e, t0, t1, h⟩ := drWays_ev hx hs (by omega) hk
 rw [e, Option.bind_some]
 dsimp only
 by_cases hl : (l.length : Int) = 0
 ·rw [if_pos hl]
  exact ⟨l, t, rfl, by omega, by omega, by omega⟩
 ·rw [if_neg hl]
  obtain ⟨v, ev, v0, v1⟩ := g7z hx (s := t) (n := (l.length : Int)) (by omega) (by omega) (by omega) (show 1 ≤ k by omega)
  obtain ⟨x, ex, _⟩ := g7z hx (s := t + 1) (n := 20) (by omega) (by omega) (by omega) (show 1 ≤ k by omega)
  rw [ev, Option.bind_some]
  dsimp only
  rw [ex, Option.bind_some]
  dsimp only
  by_cases h0 : x = 0
  ·obtain ⟨y, ey, _⟩ := one_ev hx (s := t + 1 + 1) (by omega) (by omega) [-1, 99, 100] (by simp) (show 1 ≤ k by omega)
   rw [if_pos h0, ey, Option.bind_some]
   dsimp only
   rw [if_pos v0, if_pos v1]
   exact ⟨_, _, rfl, by omega, by omega, by rw [List.length_set]; omega⟩
  ·rw [if_neg h0]
   by_cases h1 : x = 1
   ·obtain ⟨a, b, u, eb, u0, u1, _⟩ := drAnyBlock_ev hx (s := t + 1 + 1) (by omega) (by omega) (show 40 ≤ k by omega)
    rw [if_pos h1, eb, Option.bind_some]
    dsimp only
    rw [if_pos v0, if_pos v1]
    exact ⟨_, _, rfl, by omega, by omega, by rw [List.length_set]; omega⟩
   ·rw [if_neg h1]
    by_cases h2 : x = 2
    ·rw [if_pos h2, if_pos (by omega), if_pos (by omega)]
     exact ⟨_, _, rfl, by omega, by omega, by rw [List.length_append, List.length_singleton]; omega⟩
    ·rw [if_neg h2]
     exact ⟨l, _, rfl, by omega, by omega, by omega⟩
theorem drWaysGone_ev {ys : List Int} (hf : ∀ y ∈ ys, Fits .u8 y) {k : Nat} (hk : 500 ≤ k) : ∃ (l : List WW) (a b : Int), spec_DrawWaysGone.f k ys = some (l, a, b) ∧ l.length ≤ 41 := by
 obtain ⟨xs, eo, hx⟩ := open_ev (fun y hy => fits_u8 (hf y hy))
 obtain ⟨l, t, el, t0, t1, hl⟩ := drAnyWays_ev hx (s := 0) (by omega) (by omega) hk
 obtain ⟨a, b, u, eb, u0, u1, _⟩ := drAnyBlock_ev hx (s := t) (by omega) (by omega) (show 40 ≤ k by omega)
 obtain ⟨y, ey, _⟩ := one_ev hx (s := u) (by omega) (by omega) [0, 1, 2, 99, 100] (by simp) (show 1 ≤ k by omega)
 unfold spec_DrawWaysGone.f spec_DrawWaysPut.f
 simp only [eo, el, eb, ey, Option.bind_some]
 by_cases h : (l.length : Int) > 0
 ·obtain ⟨v, ev, _⟩ := g7z hx (s := u + 1) (n := 3) (by omega) (by omega) (by omega) (show 1 ≤ k by omega)
  rw [if_pos h]
  simp only [ev, Option.bind_some]
  by_cases h0 : v = 0
  ·obtain ⟨w, ew, w0, w1⟩ := g7z hx (s := u + 1 + 1) (n := (l.length : Int)) (by omega) (by omega) (by omega) (show 1 ≤ k by omega)
   rw [if_pos h0]
   simp only [ew, Option.bind_some]
   rw [if_pos w0, if_pos w1]
   exact ⟨_, _, _, rfl, hl⟩
  ·rw [if_neg h0]
   exact ⟨_, _, _, rfl, hl⟩
 ·rw [if_neg h]
  exact ⟨_, _, _, rfl, hl⟩
end Go.Proofs.Ytbhgkpfbggkgdaa.Pure

namespace Go.Proofs.Ytbhgkpfbggkgdaa.Pure
set_option linter.unusedSimpArgs false
set_option linter.unusedVariables false
open Go.RowKit Go.Proofs.Ytbhgkpfbggkgdaa.Q Go.Proofs.Ytbhgkpfbggkgdaa.Open Go.Proofs.YtbhgkpfbggkgdaaW.PrintWords Go.Proofs.YtbhgkpfbggkgdaaW.PrintLast Go.Proofs.YtbhgkpfbggkgdaaW.PrintMore
/-- A table without a route is one. -/
theorem erase_ok {l : List WW} (h : wsok l = true) (i : Nat) (hi : i < l.length) : wsok (l.eraseIdx i) = true := by
 obtain ⟨h1, h2, h3⟩ := f9z.1 h
 have hlen : (l.eraseIdx i).length = l.length - 1 := List.length_eraseIdx_of_lt hi
 refine f9z.2 ⟨by omega, fun j hj => ?_, fun p q hpq hq => ?_⟩
 ·rw [at_erase]
  split
  ·exact h2 j (by omega)
  ·exact h2 (j + 1) (by omega)
 ·rw [at_erase, at_erase]
  split <;> split
  ·exact h3 p q hpq (by omega)
  ·exact h3 p (q + 1) (by omega) (by omega)
  ·omega
  ·exact h3 (p + 1) (q + 1) (by omega) (by omega)
/-- The place that a route has left. -/
theorem erase_place {l : List WW} (h : wsok l = true) (i : Nat) (hi : i < l.length) : place (l.eraseIdx i) (at_ l i).f0 i ∧ there (l.eraseIdx i) (at_ l i).f0 i = false := by
 obtain ⟨h1, h2, h3⟩ := f9z.1 h
 have hlen : (l.eraseIdx i).length = l.length - 1 := List.length_eraseIdx_of_lt hi
 refine ⟨⟨by omega, fun j hj => ?_, fun j hj hjl => ?_⟩, ?_⟩
 ·rw [at_erase, if_pos hj]
  exact h3 j i hj hi
 ·rw [at_erase, if_neg (by omega), Bool.eq_false_iff]
  intro hc
  have := blt_trans (h3 i (j + 1) (by omega) (by omega)) hc
  rw [blt_irr] at this
  cases this
 ·rw [Bool.eq_false_iff]
  intro hc
  obtain ⟨hil, hb⟩ := g2z.1 hc
  rw [at_erase, if_neg (by omega)] at hb
  have := h3 i (i + 1) (by omega) (by omega)
  rw [hb, blt_irr] at this
  cases this
theorem ins_erase {l : List WW} {i : Nat} (hi : i < l.length) : ins (l.eraseIdx i) (at_ l i) i = l := by
 have e := split_at l hi
 have ht : (l.take i).length = i := by rw [List.length_take]; omega
 show (l.eraseIdx i).take i ++ [at_ l i] ++ (l.eraseIdx i).drop i = l
 rw [List.eraseIdx_eq_take_drop_succ, List.take_left' ht, List.drop_left' ht]
 exact e.symm
theorem set_self {l : List WW} {i : Nat} (hi : i < l.length) : l.set i (at_ l i) = l := by
 have e : at_ l i = l[i] := by
  show l.getD i _ = _
  rw [List.getD_eq_getElem?_getD, List.getElem?_eq_getElem hi]; rfl
 rw [e, List.set_getElem_self]
/-- A place where a block is, is the block's place. -/
theorem place_there {l : List WW} (h : asc l) {b : S24} {i : Nat} (ht : there l b i = true) : place l b i := by
 obtain ⟨hi, hb⟩ := g2z.1 ht
 refine ⟨by omega, fun j hj => by rw [← hb]; exact h j i hj hi, fun j hj hjl => ?_⟩
 rw [Bool.eq_false_iff]
 intro hc
 by_cases e : j = i
 ·rw [e, hb, blt_irr] at hc
  cases hc
 ·have := h i j (by omega) hjl
  rw [hb] at this
  have := blt_trans hc this
  rw [blt_irr] at this
  cases this
theorem FnWaysBack_end {l : List WW} (h : wsok l = true) {b : S24} {i : Nat} (ht : there l b i = true) {k : Nat} (hk : 300 ≤ k) :
  laws_FnWaysBack.l0 (k + 1) l (l.eraseIdx i) (l.length : Int) b.f0 b.f1 (at_ l i).f0.f0 (at_ l i).f0.f1 (at_ l i).f1 = some true := by
 obtain ⟨h1, h2, h3⟩ := f9z.1 h
 obtain ⟨hi, hb⟩ := g2z.1 ht
 have hlen : (l.eraseIdx i).length = l.length - 1 := List.length_eraseIdx_of_lt hi
 have hok : wok (at_ l i) = true := h2 i hi
 have hoke := hok
 unfold wok at hoke
 rw [Bool.and_eq_true, decide_eq_true_eq] at hoke
 -- put back
 obtain ⟨p1, n1⟩ := erase_place h i hi
 have e1 : impl_WaysPut.f k (l.eraseIdx i) (at_ l i).f0.f0 (at_ l i).f0.f1 (at_ l i).f1 = some (l, true) := by
  obtain ⟨j, hp, hj⟩ := put_impl (l := l.eraseIdx i) (by omega) (erase_ok h i hi) (at_ l i)
  obtain rfl := place_uniq hp p1
  rw [hj k (by omega)]
  unfold putw
  rw [if_pos hok, n1, if_neg (by simp), if_neg (by omega), ins_erase hi]
 -- put to another hop
 obtain ⟨w', hw'⟩ : ∃ w' : WW, w' = ⟨b, Int.tmod (wrap64 ((at_ l i).f1 + 1)) 100⟩ := ⟨_, rfl⟩
 have hw0 : wrap64 ((at_ l i).f1 + 1) = (at_ l i).f1 + 1 := w64 (by omega) (by omega)
 have hh : 0 ≤ Int.tmod ((at_ l i).f1 + 1) 100 ∧ Int.tmod ((at_ l i).f1 + 1) 100 < 100 := tmod_in (by omega) (by omega)
 have hok' : wok w' = true := by
  rw [hw', hw0]
  unfold wok
  rw [Bool.and_eq_true, decide_eq_true_eq]
  refine ⟨?_, hh.1, ?_⟩
  ·show bok b.f0 b.f1 = true
   rw [← hb]
   exact hoke.1
  ·have := hh.2
   show Int.tmod ((at_ l i).f1 + 1) 100 ≤ 99
   omega
 have hf' : w'.f0 = b := by rw [hw']
 have e2 : impl_WaysPut.f k l b.f0 b.f1 (Int.tmod (wrap64 ((at_ l i).f1 + 1)) 100) = some (l.set i w', true) := by
  obtain ⟨j, hp, hj⟩ := put_impl (l := l) (by omega) h w'
  rw [hf'] at hp
  obtain rfl := place_uniq hp (place_there h3 ht)
  have := hj k (by omega)
  rw [hw'] at this
  dsimp only at this
  rw [this, ← hw']
  unfold putw
  rw [if_pos hok', hf', ht, if_pos rfl]
 -- and back
 have hs : wsok (l.set i w') = true := set_ok h hok' (by rw [hf']; exact ht)
 have ht2 : there (l.set i w') (at_ l i).f0 i = true := g2z.2 ⟨by rw [List.length_set]; exact hi, by rw [at_set hi, if_pos rfl, hf', hb]⟩
 have e3 : impl_WaysPut.f k (l.set i w') (at_ l i).f0.f0 (at_ l i).f0.f1 (at_ l i).f1 = some (l, true) := by
  obtain ⟨j, hp, hj⟩ := put_impl (l := l.set i w') (by rw [List.length_set]; omega) hs (at_ l i)
  obtain rfl := place_uniq hp (place_there (f9z.1 hs).2.2 ht2)
  rw [hj k (by rw [List.length_set]; omega)]
  unfold putw
  rw [if_pos hok, ht2, if_pos rfl, List.set_set, set_self hi]
 simp only [laws_FnWaysBack.l0]
 rw [if_neg (by omega), e1, Option.bind_some, e2, Option.bind_some]
 dsimp only
 rw [e3, Option.bind_some]
 dsimp only
 rw [if_pos rfl, if_pos rfl, if_pos rfl, ovWays_ev (by omega) (by omega), Option.bind_some, if_pos rfl, Option.bind_some, if_pos rfl, List.length_set]
 simp
theorem FnWaysBack_loop {l : List WW} (h : wsok l = true) {b : S24} {i : Nat} (ht : there l b i = true) : ∀ (e c : Nat) (k : Nat) (x y z : Int), l.length - c = e → c ≤ l.length → (i < c → x = (at_ l i).f0.f0 ∧ y = (at_ l i).f0.f1 ∧ z = (at_ l i).f1) → e + 310 ≤ k →
  laws_FnWaysBack.l0 k l (l.eraseIdx i) (c : Int) b.f0 b.f1 x y z = some true := by
 obtain ⟨h1, h2, h3⟩ := f9z.1 h
 obtain ⟨hi, hb⟩ := g2z.1 ht
 intro e
 induction e with
 | zero =>
  intro c k x y z he hc hx hk
  obtain rfl : c = l.length := by omega
  obtain ⟨rfl, rfl, rfl⟩ := hx hi
  obtain ⟨k, rfl⟩ : ∃ q, k = q + 1 := ⟨k - 1, by omega⟩
  exact FnWaysBack_end h ht (by omega)
 | succ e ih =>
  intro c k x y z he hc hx hk
  obtain ⟨k, rfl⟩ : ∃ q, k = q + 1 := ⟨k - 1, by omega⟩
  simp only [laws_FnWaysBack.l0]
  rw [if_pos (by omega), if_pos (by omega), rdW, w64 (by omega) (by omega), show (c : Int) + 1 = ((c + 1 : Nat) : Int) by omega]
  by_cases hci : c = i
  ·subst hci
   rw [if_pos (by rw [Bool.and_eq_true, beq_iff_eq, beq_iff_eq]; exact ⟨by show (at_ l c).f0.f0 = _; rw [hb], by show (at_ l c).f0.f1 = _; rw [hb]⟩)]
   exact ih (c + 1) k _ _ _ (by omega) (by omega) (fun _ => ⟨rfl, rfl, rfl⟩) (by omega)
  ·have hn : ¬ (((at_ l c).f0.f0 == b.f0 && ((at_ l c).f0.f1 == b.f1)) = true) := by
    rw [Bool.and_eq_true, beq_iff_eq, beq_iff_eq]
    intro hcc
    have e : (at_ l c).f0 = (at_ l i).f0 := by rw [hb]; exact blk_ext hcc.1 hcc.2
    rcases Nat.lt_or_ge c i with g | g
    ·have := h3 c i g hi
     rw [e, blt_irr] at this
     cases this
    ·have := h3 i c (by omega) (by omega)
     rw [e, blt_irr] at this
     cases this
   rw [if_neg hn]
   exact ih (c + 1) k x y z (by omega) (by omega) (fun g => hx (by omega)) (by omega)
theorem FnWaysBack : laws_FnWaysBack.Pure := by
 intro xs ⟨_, hf⟩
 refine ⟨1000, ?_⟩
 unfold laws_FnWaysBack.f
 by_cases hl : (xs.length : Int) > 1048576
 ·rw [if_pos hl]
 rw [if_neg hl]
 obtain ⟨l, a, b, ed, hll⟩ := drWaysGone_ev hf (k := 1000) (by omega)
 rw [ed, Option.bind_some]
 dsimp only
 by_cases h : wsok l = true
 ·obtain ⟨i, hp, hi⟩ := gone_impl (l := l) (by omega) h ⟨a, b⟩
  have hs := gone_spec (l := l) (by omega) h ⟨a, b⟩ i hp 1000 (by omega)
  have hi' := hi 1000 (by omega)
  dsimp only at hs hi'
  rw [hi', Option.bind_some, hs, Option.bind_some]
  have hgl := gone_len (l := l) ⟨a, b⟩ i
  rw [if_neg (by simp), ovWays_ev (by omega) (by omega), Option.bind_some, if_pos rfl, show 1000 = 999 + 1 from rfl]
  simp only [laws_FnWaysBack.j0]
  cases ht : there l ⟨a, b⟩ i with
  | true =>
   have e : gone l ⟨a, b⟩ i = (l.eraseIdx i, true) := by unfold gone; rw [ht, if_pos rfl]
   rw [e]
   dsimp only
   rw [if_neg (by simp)]
   have := FnWaysBack_loop h ht l.length 0 999 a b 0 (by omega) (by omega) (fun g => by omega) (by omega)
   rw [show ((0 : Nat) : Int) = 0 from rfl] at this
   exact this
  | false =>
   have e : gone l ⟨a, b⟩ i = (l, false) := by unfold gone; rw [ht, if_neg (by simp)]
   rw [e]
   dsimp only
   rw [if_pos (by simp), if_pos (by simp), ovWays_ev (by omega) (by omega), Option.bind_some]
 ·have e1 : impl_WaysGone.f 1000 l a b = some ([], false) := by
   unfold impl_WaysGone.f
   rw [waysOk_impl (by omega) (by omega), Option.bind_some, if_neg h]
  have e2 : spec_WaysGone.f 1000 l a b = some ([], false) := by
   unfold spec_WaysGone.f
   rw [waysOk_spec (by omega) (by omega), Option.bind_some, if_neg h]
  rw [e1, Option.bind_some, e2, Option.bind_some]
  dsimp only
  rw [if_neg (by simp), ovWays_ev (by simp) (by simp), Option.bind_some, if_pos rfl, show 1000 = 999 + 1 from rfl]
  simp only [laws_FnWaysBack.j0]
  rw [if_pos (by simp), if_pos (by simp), ovWays_ev (by simp) (by simp), Option.bind_some]
end Go.Proofs.Ytbhgkpfbggkgdaa.Pure

namespace Go.Proofs.Ytbhgkpfbggkgdaa.fnWaysBack
open Go.ChangeShapes Go.WideShapes Go.ChangeAt Go.RowKit Go.Proofs.YtbhgkpfbggkgdaaW.PrintWords Go.Proofs.Ytbhgkpfbggkgdaa.Open Go.Proofs.Ytbhgkpfbggkgdaa.Q
open Go.ChangeMaps (open_string shut_string)
set_option linter.unusedVariables false
theorem own : ownKnob Try.prog.godebug = none := by kernel_rfl
theorem laidOut : laidOutB Try.prog = true := by kernel_rfl
set_option maxRecDepth 100000 in
theorem lifted (os : Os) (started : os.Started) (H : Type) (enc : TypeId × Value → H) :
  ReturnsInHanded {} Try.checked os 13 .any (Rows.fnWaysBackSpec.pre6 enc Try.prog Try.f13 Rows.fnWaysBackRow.domain false) (Rows.fnWaysBackSpec.post enc Try.prog Try.f13 false true false false) := by
 refine returnsInHanded_of_change_sized (C := Try.checked) own started (by kernel_rfl) Try.func13
  (ChangeSpec.witness6 (enc := enc) (C := Try.checked) false ⟨#[], #[.slice none 0 0], []⟩ 8 (by kernel_rfl) (by kernel_rfl) (by kernel_rfl) (by kernel_rfl)) ?_
 intro W base args ds gs before hval0 hW hcnd hsz0 _
 have hval : ∀ (j : Nat) t v, Try.f13.params[j]? = some t → args[j]? = some v → Value.okWide Try.prog W .any base t v := hval0
 have hW' := hW
 obtain ⟨p, q, hA0, hV, rfl, hfz, hnd⟩ := hW
 have hA : DataW.TrodAll enc Try.prog W 0 (fun _ => true) true Try.f13.params.toList args.toList ds p := hA0
 rw [Try.params13] at hA hval
 obtain ⟨v0, vs0, d0, ds0, p0, q0, hargs, rfl, rfl, h0, r0⟩ := trodAll_cons hA
 obtain ⟨rfl, rfl, rfl⟩ := trodAll_nil r0
 obtain rfl : args = #[v0] := by cases args; simp_all
 obtain ⟨rfl, rfl⟩ := trodVars_none hV
 have lt0 : ∀ x ∈ p0, x.block < W.heap.size := by obtain ⟨m, hm⟩ := h0; exact DataW.trod_lt m _ _ _ hm
 have k0 := h0
 obtain ⟨x0, K0, w0⟩ := open_arg (op40 W) h0
 obtain ⟨aa0, len0, cap0, rfl⟩ := okWide_slice Try.underlying40 (hval 0 40 v0 rfl rfl)
 obtain ⟨A0, c0, e0, hc0, hr0⟩ := K0
 obtain ⟨rfl, rfl, rfl⟩ := slice_of_cells e0
 obtain ⟨k, hp⟩ := Pure.FnWaysBack x0 w0
 refine (laws_FnWaysBack.calls k _ _ x0 true W hr0 hc0 hp).mono ?_
 rintro e W' ⟨rfl, bel0⟩
 have bel : Below W.heap.size W W' := bel0
 exact ⟨_, rfl, _, _, _, [], _, [], hW', trodAll_mk1 (shut_bool Try.underlying4 _), (trodAll_cons_mk (Below.trod laidOut (by kernel_rfl) (of_decide_eq_true (by kernel_rfl)) k0 bel lt0) trodAll_mk0), rfl, bel.frame _, fun h => by cases h⟩
theorem over : Rows.fnWaysBackRow.holds Try.pinned (OpenSpec.ofChange Rows.fnWaysBackSpec) :=
 OpenClaim.holds_of_wide 13 Try.f13 rfl rfl rfl rfl rfl rfl rfl ⟨rfl, rfl, rfl, rfl, rfl⟩ rfl rfl rfl rfl rfl (by kernel_rfl) Try.func13 (by kernel_rfl)
  (of_decide_eq_true (by kernel_rfl)) (by unfold Func.isWrapper; first | (rw [if_pos (by decide +kernel)]; kernel_rfl) | (rw [if_neg (by decide +kernel)]; exact ⟨rfl, rfl⟩))
  (fun os started H enc _ => lifted os started H enc)
theorem proved : Rows.FnWaysBackSaid := over
#print axioms proved
end Go.Proofs.Ytbhgkpfbggkgdaa.fnWaysBack
namespace Go.Proofs.Ytbhgkpfbggkgdaa
/-- The row, under a short name, for the claim. -/
theorem fnWaysBack_holds : Rows.FnWaysBackSaid := fnWaysBack.proved
end Go.Proofs.Ytbhgkpfbggkgdaa
