/- The law FnSetParts (part 7 of 7): for every input the call answers true and its arguments read afterwards as before. No condition beyond the row's own. -/
import Derived.Laws.BitsLemmas
import Derived.Test.YtmdhedkgpgoneaaRows
import Derived.WalkKit
import Derived.ProofKit
import Derived.OpenShut
import Derived.ShutString
import Derived.ChangeOld
import Derived.Below
import Derived.SizedLaws
import Derived.Test.YtmdhedkgpgoneaaCFnSetParts6
namespace Go.Proofs.Ytmdhedkgpgoneaa.Pure
set_option linter.unusedSimpArgs false
open Go.RowKit Go.Proofs.Ytmdhedkgpgoneaa.Q Go.Proofs.Ytmdhedkgpgoneaa.Open Go.Proofs.YtmdhedkgpgoneaaW.PrintWords Go.Proofs.YtmdhedkgpgoneaaW.PrintLast Go.Proofs.YtmdhedkgpgoneaaW.PrintMore
/-- Bytes, at most two thousand of them. -/
def rdOk (xs : List Int) : Prop := (∀ y ∈ xs, 0 ≤ y ∧ y ≤ 255) ∧ xs.length ≤ 2000
theorem fits_u8 {y : Int} (h : Fits .u8 y) : 0 ≤ y ∧ y ≤ 255 := by
 have g : (decide (IntKind.u8.min ≤ y) && decide (y ≤ IntKind.u8.max)) = true := h
 rw [Bool.and_eq_true, decide_eq_true_eq, decide_eq_true_eq] at g
 exact g
theorem xor_nn {a b : Int} (ha : 0 ≤ a) (ha' : a < 4611686018427387904) (hb : 0 ≤ b) (hb' : b < 4611686018427387904) : 0 ≤ Go.bits .xor .i64 a b := by
 obtain ⟨m, rfl⟩ := Int.eq_ofNat_of_zero_le ha
 obtain ⟨n, rfl⟩ := Int.eq_ofNat_of_zero_le hb
 have hm : m < 2 ^ 62 := by omega
 have hn : n < 2 ^ 62 := by omega
 have hx : m ^^^ n < 2 ^ 62 := Nat.xor_lt_two_pow hm hn
 simp only [Go.bits, BitVec.ofInt_natCast, BitVec.toNat_xor, BitVec.toNat_ofNat]
 rw [Nat.mod_eq_of_lt (show m < 2 ^ IntKind.i64.bits by show m < 2 ^ 64; omega), Nat.mod_eq_of_lt (show n < 2 ^ IntKind.i64.bits by show n < 2 ^ 64; omega), IntKind.wrap_i64]
 generalize m ^^^ n = z at hx
 omega
theorem rd_byte {xs : List Int} (hx : rdOk xs) (i : Int) : 0 ≤ rd xs i ∧ rd xs i ≤ 255 := by
 show 0 ≤ xs.getD i.toNat 0 ∧ xs.getD i.toNat 0 ≤ 255
 rw [List.getD_eq_getElem?_getD]
 by_cases h : i.toNat < xs.length
 ·rw [List.getElem?_eq_getElem h]
  exact hx.1 _ (List.getElem_mem h)
 ·rw [List.getElem?_eq_none (by omega)]
  decide
theorem tmod_in {a n : Int} (ha : 0 ≤ a) (hn : 1 ≤ n) : 0 ≤ Int.tmod a n ∧ Int.tmod a n < n := ⟨Int.tmod_nonneg _ ha, Int.tmod_lt_of_pos _ (by omega)⟩
theorem i0z {xs : List Int} (hx : rdOk xs) {s n : Int} (hs : 0 ≤ s) (hs' : s ≤ 1000000000) (hn : 1 ≤ n) {k : Nat} (hk : 1 ≤ k) : ∃ v, spec_l1Rd_pick.f k xs s n = some (v, s + 1) ∧ 0 ≤ v ∧ v < n := by
 obtain ⟨k, rfl⟩ : ∃ m, k = m + 1 := ⟨k - 1, by omega⟩
 have hl := hx.2
 unfold spec_l1Rd_pick.f
 rw [if_neg (by omega), w64 (x := s + 1) (by omega) (by omega)]
 simp only [spec_l1Rd_pick.j0]
 rw [w64 (x := s + 1 - 1) (by omega) (by omega), show s + 1 - 1 = s by omega]
 by_cases h0 : xs.length = 0
 ·rw [if_pos (by simp [h0])]
  exact ⟨0, rfl, by omega, by omega⟩
 ·rw [if_neg (by simp; intro h; exact h0 (by rw [h]; rfl))]
  by_cases h1 : s < (xs.length : Int)
  ·obtain ⟨g0, g1⟩ := rd_byte hx s
   rw [if_pos h1, if_pos hs, if_neg (by omega), w64 (by omega) (by omega)]
   obtain ⟨t0, t1⟩ := tmod_in g0 hn
   exact ⟨_, rfl, t0, t1⟩
  ·rw [if_neg h1, if_neg (by omega)]
   obtain ⟨i0, i1⟩ := tmod_in (n := (xs.length : Int)) hs (by omega)
   rw [if_pos i0, if_pos i1, w64 (x := s * 7) (by omega) (by omega), w64 (x := s * 7 + 3) (by omega) (by omega)]
   obtain ⟨j0, j1⟩ := tmod_in (a := s * 7 + 3) (n := (xs.length : Int)) (by omega) (by omega)
   rw [if_pos j0, if_pos j1, if_neg (by omega)]
   obtain ⟨g0, g1⟩ := rd_byte hx (Int.tmod s (xs.length : Int))
   obtain ⟨f0, f1⟩ := rd_byte hx (Int.tmod (s * 7 + 3) (xs.length : Int))
   have q0 : 0 ≤ Int.tdiv s (xs.length : Int) := Int.tdiv_nonneg hs (by omega)
   have q1 : Int.tdiv s (xs.length : Int) ≤ s := by
    rw [Int.tdiv_eq_ediv_of_nonneg hs]
    exact Int.ediv_le_self _ hs
   generalize rd xs (Int.tmod s (xs.length : Int)) = g at *
   generalize rd xs (Int.tmod (s * 7 + 3) (xs.length : Int)) = f at *
   generalize Int.tdiv s (xs.length : Int) = q at *
   rw [w64 (x := g) (by omega) (by omega), w64 (x := f) (by omega) (by omega), w64 (x := q) (by omega) (by omega), w64 (x := g * 131) (by omega) (by omega), w64 (x := f * 1117) (by omega) (by omega), w64 (x := s * 29) (by omega) (by omega), w64 (x := q * 53) (by omega) (by omega), w64 (x := g * 131 + f * 1117) (by omega) (by omega), w64 (x := g * 131 + f * 1117 + s * 29) (by omega) (by omega), w64 (x := g * 131 + f * 1117 + s * 29 + q * 53) (by omega) (by omega)]
   have hA : 0 ≤ g * 131 + f * 1117 + s * 29 + q * 53 := by omega
   have hA' : g * 131 + f * 1117 + s * 29 + q * 53 < 4611686018427387904 := by omega
   generalize g * 131 + f * 1117 + s * 29 + q * 53 = A at hA hA'
   rw [Int.tdiv_eq_ediv_of_nonneg hA, w64 (x := A / 64) (by omega) (by omega)]
   obtain ⟨t0, t1⟩ := tmod_in (xor_nn hA hA' (b := A / 64) (by omega) (by omega)) hn
   exact ⟨_, rfl, t0, t1⟩
theorem one_ev {xs : List Int} (hx : rdOk xs) {s : Int} (hs : 0 ≤ s) (hs' : s ≤ 1000000000) (l : List Int) (hl : 1 ≤ l.length) {k : Nat} (hk : 1 ≤ k) : ∃ v, spec_l1Rd_one.f k xs s l = some (v, s + 1) ∧ v ∈ l := by
 unfold spec_l1Rd_one.f
 obtain ⟨v, e, v0, v1⟩ := i0z hx hs hs' (n := (l.length : Int)) (by omega) hk
 rw [e, Option.bind_some]
 dsimp only
 rw [if_pos v0, if_pos v1]
 refine ⟨_, rfl, ?_⟩
 show l.getD v.toNat 0 ∈ l
 rw [List.getD_eq_getElem?_getD, List.getElem?_eq_getElem (by omega)]
 exact List.getElem_mem _
theorem drAddr_ev {xs : List Int} (hx : rdOk xs) {s : Int} (hs : 0 ≤ s) (hs' : s ≤ 999999990) {k : Nat} (hk : 1 ≤ k) : ∃ a, spec_l12Addr.f k xs s = some (a, s + 6) ∧ 0 ≤ a ∧ a ≤ 4294967295 := by
 unfold spec_l12Addr.f
 obtain ⟨v0, e0, l0, u0⟩ := i0z hx (s := s) (n := 256) (by omega) (by omega) (by omega) hk
 obtain ⟨v1, e1, l1, u1⟩ := i0z hx (s := s + 1) (n := 8) (by omega) (by omega) (by omega) hk
 obtain ⟨v2, e2, l2, u2⟩ := i0z hx (s := s + 1 + 1) (n := 16) (by omega) (by omega) (by omega) hk
 obtain ⟨v3, e3, l3, u3⟩ := i0z hx (s := s + 1 + 1 + 1) (n := 256) (by omega) (by omega) (by omega) hk
 obtain ⟨v4, e4, l4, u4⟩ := i0z hx (s := s + 1 + 1 + 1 + 1) (n := 64) (by omega) (by omega) (by omega) hk
 simp only [e0, e1, e2, e3, e4, Option.bind_some]
 rw [w64 (x := 167772160 + v0) (by omega) (by omega), w64 (x := 167772160 + v1) (by omega) (by omega), w64 (x := 167772416 + v2) (by omega) (by omega), w64 (x := 3232235520 + v3) (by omega) (by omega), w64 (x := v4 * 256) (by omega) (by omega), w64 (x := 2886729728 + v4 * 256) (by omega) (by omega)]
 obtain ⟨v, e, hv⟩ := one_ev hx (s := s + 1 + 1 + 1 + 1 + 1) (by omega) (by omega) [167772160 + v0, 167772160 + v1, 167772416 + v2, 3232235520 + v3, 0, 4294967295, 184549375, 2886729728 + v4 * 256] (by simp) hk
 rw [e, Option.bind_some]
 refine ⟨v, by show some (v, s + 1 + 1 + 1 + 1 + 1 + 1) = _; congr 2; omega, ?_⟩
 simp only [List.mem_cons, List.not_mem_nil, or_false] at hv
 omega
theorem over_ev {a b : Int} (h0 : 0 ≤ a) (h1 : a ≤ 4294967295) (h2 : 0 ≤ b) (h3 : b ≤ 32) {k : Nat} (hk : 40 ≤ k) : spec_l1Over.f k a b = some (a / sz b * sz b, b) ∧ bok (a / sz b * sz b) b = true := by
 have hp := h4z b
 have hd : sz b * (a / sz b) + a % sz b = a := Int.mul_ediv_add_emod a (sz b)
 have hr := Int.emod_nonneg a (show sz b ≠ 0 by omega)
 have hq : 0 ≤ a / sz b := Int.ediv_nonneg h0 (by omega)
 have hq' : a / sz b ≤ a := Int.ediv_le_self _ h0
 have hm : 0 ≤ a / sz b * sz b := Int.mul_nonneg hq (by omega)
 rw [Int.mul_comm] at hd
 constructor
 ·unfold spec_l1Over.f
  rw [size_spec h2 h3 hk, Option.bind_some, if_neg (by omega), Option.bind_some, Int.tdiv_eq_ediv_of_nonneg h0, w64 (x := a / sz b) (by omega) (by omega), w64 (by omega) (by omega)]
 ·rw [bok_iff]
  exact ⟨hm, by omega, h2, h3, Int.mul_emod_left _ _⟩
theorem drBlock_ev {xs : List Int} (hx : rdOk xs) {s : Int} (hs : 0 ≤ s) (hs' : s ≤ 999999980) {k : Nat} (hk : 40 ≤ k) : ∃ a b, spec_l12Block.f k xs s = some (a, b, s + 7) ∧ bok a b = true := by
 unfold spec_l12Block.f
 obtain ⟨a, ea, a0, a1⟩ := drAddr_ev hx hs (by omega) (show 1 ≤ k by omega)
 obtain ⟨b, eb, hb⟩ := one_ev hx (s := s + 6) (by omega) (by omega) [32, 31, 30, 28, 24, 24, 25, 16, 8, 1, 0, 29] (by simp) (show 1 ≤ k by omega)
 simp only [List.mem_cons, List.not_mem_nil, or_false] at hb
 obtain ⟨eo, ho⟩ := over_ev (b := b) a0 a1 (by omega) (by omega) hk
 rw [ea, Option.bind_some]
 dsimp only
 rw [eb, Option.bind_some]
 dsimp only
 rw [eo, Option.bind_some]
 exact ⟨_, _, by show some (_, _, s + 6 + 1) = _; congr 3; omega, ho⟩
theorem drAnyBlock_ev {xs : List Int} (hx : rdOk xs) {s : Int} (hs : 0 ≤ s) (hs' : s ≤ 999999970) {k : Nat} (hk : 40 ≤ k) : ∃ a b t, spec_l12AnyBlock.f k xs s = some (a, b, t) ∧ s ≤ t ∧ t ≤ s + 10 ∧ -1 ≤ a ∧ a ≤ 8589934592 ∧ -1 ≤ b ∧ b ≤ 33 := by
 unfold spec_l12AnyBlock.f
 obtain ⟨a, b, eb, hb⟩ := drBlock_ev hx hs (by omega) hk
 obtain ⟨h0, h1, h2, h3, _⟩ := bok_iff.1 hb
 obtain ⟨v, ev, v0, v1⟩ := i0z hx (s := s + 7) (n := 16) (by omega) (by omega) (by omega) (show 1 ≤ k by omega)
 rw [eb, Option.bind_some]
 dsimp only
 rw [ev, Option.bind_some]
 dsimp only
 by_cases g0 : v = 0
 ·obtain ⟨c, ec, hc⟩ := one_ev hx (s := s + 7 + 1) (by omega) (by omega) [1, -1, 256] (by simp) (show 1 ≤ k by omega)
  simp only [List.mem_cons, List.not_mem_nil, or_false] at hc
  rw [if_pos g0, ec, Option.bind_some]
  exact ⟨_, _, _, rfl, by omega, by omega, by rw [w64 (by dsimp only; omega) (by dsimp only; omega)]; dsimp only; omega, by rw [w64 (by dsimp only; omega) (by dsimp only; omega)]; dsimp only; omega, by omega, by omega⟩
 ·rw [if_neg g0]
  by_cases g1 : v = 1
  ·obtain ⟨c, ec, hc⟩ := one_ev hx (s := s + 7 + 1) (by omega) (by omega) [-1, 33, 0, 32] (by simp) (show 1 ≤ k by omega)
   simp only [List.mem_cons, List.not_mem_nil, or_false] at hc
   rw [if_pos g1, ec, Option.bind_some]
   exact ⟨_, _, _, rfl, by omega, by omega, by omega, by omega, by dsimp only; omega, by dsimp only; omega⟩
  ·rw [if_neg g1]
   exact ⟨_, _, _, rfl, by omega, by omega, by omega, by omega, by omega, by omega⟩
theorem open_ev {xs : List Int} (hx : ∀ y ∈ xs, 0 ≤ y ∧ y ≤ 255) : ∃ ys, spec_l1Open.f xs = some (ys, 0) ∧ rdOk ys := by
 unfold spec_l1Open.f
 by_cases h : (xs.length : Int) > 2000
 ·rw [if_pos h, if_pos (by omega)]
  exact ⟨_, rfl, fun y hy => hx y (List.mem_of_mem_take hy), by rw [List.length_take]; omega⟩
 ·rw [if_neg h]
  exact ⟨_, rfl, hx, by omega⟩
end Go.Proofs.Ytmdhedkgpgoneaa.Pure

namespace Go.Proofs.Ytmdhedkgpgoneaa.Se
set_option linter.unusedSimpArgs false
set_option linter.unusedVariables false
open Go.RowKit Go.Proofs.Ytmdhedkgpgoneaa.Q Go.Proofs.Ytmdhedkgpgoneaa.Pure Go.Proofs.Ytmdhedkgpgoneaa.Si Go.Proofs.YtmdhedkgpgoneaaW.PrintWords Go.Proofs.YtmdhedkgpgoneaaW.PrintLast Go.Proofs.YtmdhedkgpgoneaaW.PrintMore
theorem ov_ev (a b : List Bl) (hl : a.length ≤ 1000000000) {k : Nat} (hk : a.length + 10 < k) : laws_ovBlocks.f k a b = some (decide (a = b)) := by
 unfold laws_ovBlocks.f
 by_cases h : a.length = b.length
 ·rw [if_pos (by omega), ← all_eq a b h]
  have hs := scan_loop (fun k i => laws_ovBlocks.l0 k a b i) a.length 1 (fun i => decide (b4z a (i : Int) = b4z b (i : Int))) false true (fun k i hi _ _ hg => ?_) (fun k i hi _ _ hg => ?_) (fun k _ => ?_) k (by omega)
  ·refine Eq.trans hs ?_
   generalize ((List.range a.length).all fun i => decide (b4z a (i : Int) = b4z b (i : Int))) = q
   cases q <;> rfl
  ·simp only [laws_ovBlocks.l0]
   rw [if_pos (by omega), if_pos (by omega), if_pos (by omega), ne_blk, hg, if_neg (by simp), wnat (by omega)]
  ·simp only [laws_ovBlocks.l0]
   rw [if_pos (by omega), if_pos (by omega), if_pos (by omega), ne_blk, hg, if_pos (by simp)]
  ·simp only [laws_ovBlocks.l0]
   rw [if_neg (by omega)]
 ·rw [if_neg (by omega), decide_eq_false fun e => h (by rw [e])]
theorem ov_same (a : List Bl) (hl : a.length ≤ 1000000000) {k : Nat} (hk : a.length + 10 < k) : laws_ovBlocks.f k a a = some true := by
 rw [ov_ev a a hl hk, decide_eq_true rfl]
theorem room_len (l : List Bl) : (room l).1.length ≤ 64 := by
 unfold room
 split
 ·assumption
 ·simp
theorem dual_len (f : List Sn → List Sn → List Sn) (a b : List Bl) : (dual f a b).1.length ≤ 64 := by
 unfold dual
 split
 ·exact room_len _
 ·simp
theorem of_len (l : List Bl) : (ofB l).1.length ≤ 64 := by
 unfold ofB
 split
 ·exact room_len _
 ·simp
theorem dual_true {f : List Sn → List Sn → List Sn} {a b : List Bl} (h : (dual f a b).2 = true) : isSet a = true ∧ isSet b = true ∧ (coS (f (ca a) (ca b))).length ≤ 64 ∧ (dual f a b).1 = coS (f (ca a) (ca b)) := by
 unfold dual at h ⊢
 split at h
 ·rename_i hc
  rw [if_pos hc]
  unfold room at h ⊢
  split at h
  ·rename_i hl
   rw [if_pos hl]
   exact ⟨hc.1, hc.2, hl, rfl⟩
  ·exact absurd h (by simp)
 ·exact absurd h (by simp)
theorem dual_sets {f : List Sn → List Sn → List Sn} {a b : List Bl} (ha : isSet a = true) (hb : isSet b = true) : dual f a b = room (coS (f (ca a) (ca b))) := by
 unfold dual
 rw [if_pos ⟨ha, hb⟩]
theorem set_can {l : List Bl} (h : isSet l = true) : Si.Can (ca l) := ca_can (h8z.1 h).1
theorem szB_set {l : List Bl} (h : isSet l = true) : szB l = wid (ca l) := by
 unfold szB
 rw [if_pos h, sum_set h]
theorem set_coS {C : List Sn} (h : Si.Can C) (hl : (coS C).length ≤ 64) : isSet (coS C) = true := by
 rw [isSet_coS h, decide_eq_true hl]
theorem szB_coS {C : List Sn} (h : Si.Can C) (hl : (coS C).length ≤ 64) : szB (coS C) = wid C := by
 rw [szB_set (set_coS h hl), ca_coS h]
end Go.Proofs.Ytmdhedkgpgoneaa.Se

namespace Go.Proofs.Ytmdhedkgpgoneaa.Se
set_option linter.unusedSimpArgs false
set_option linter.unusedVariables false
open Go.RowKit Go.Proofs.Ytmdhedkgpgoneaa.Q Go.Proofs.Ytmdhedkgpgoneaa.Pure Go.Proofs.Ytmdhedkgpgoneaa.Open Go.Proofs.Ytmdhedkgpgoneaa.Si Go.Proofs.YtmdhedkgpgoneaaW.PrintWords Go.Proofs.YtmdhedkgpgoneaaW.PrintLast Go.Proofs.YtmdhedkgpgoneaaW.PrintMore
theorem blocks_fill {xs : List Int} (hx : rdOk xs) : ∀ (m : Nat) (l : List Bl) (s : Int) (k : Nat), l.length + m = 65 → 0 ≤ s → s + m + 1 ≤ 1000000000 → m + 2 ≤ k → ∃ l' t, spec_l12Blocks.l1 k l xs s = some (l', t) ∧ s ≤ t ∧ t ≤ s + m + 1 ∧ l'.length ≤ 65 := by
 intro m
 induction m with
 | zero =>
  intro l s k hl hs hs' hk
  obtain ⟨k, rfl⟩ : ∃ q, k = q + 1 := ⟨k - 1, by omega⟩
  obtain ⟨v, ev, v0, v1⟩ := i0z hx (s := s) (n := 2) hs (by omega) (by omega) (show 1 ≤ k by omega)
  simp only [spec_l12Blocks.l1]
  rw [ev, Option.bind_some]
  dsimp only
  rw [w64 (by omega) (by omega), if_neg (by omega)]
  exact ⟨_, _, rfl, by omega, by omega, by omega⟩
 | succ m ih =>
  intro l s k hl hs hs' hk
  obtain ⟨k, rfl⟩ : ∃ q, k = q + 1 := ⟨k - 1, by omega⟩
  obtain ⟨v, ev, v0, v1⟩ := i0z hx (s := s) (n := 2) hs (by omega) (by omega) (show 1 ≤ k by omega)
  simp only [spec_l12Blocks.l1]
  rw [ev, Option.bind_some]
  dsimp only
  rw [w64 (x := 64 + v) (by omega) (by omega)]
  by_cases hc : (l.length : Int) < 64 + v
  ·obtain ⟨l', t, e, t0, t1, g⟩ := ih (l ++ [(⟨wrap64 (2 * (l.length : Int)), 32⟩ : Bl)]) (s + 1) k (by rw [e5z]; omega) (by omega) (by omega) (by omega)
   rw [if_pos hc, if_pos (by omega), e]
   exact ⟨_, _, rfl, by omega, by omega, g⟩
  ·rw [if_neg hc]
   exact ⟨_, _, rfl, by omega, by omega, by omega⟩
theorem drBlocks_ev {xs : List Int} (hx : rdOk xs) {s : Int} (hs : 0 ≤ s) (hs' : s ≤ 999990000) {k : Nat} (hk : 500 ≤ k) : ∃ l t, spec_l12Blocks.f k xs s = some (l, t) ∧ s ≤ t ∧ t ≤ s + 200 ∧ l.length ≤ 65 := by
 have key : ∀ (n : Nat) (l : List Bl) (u : Int) (k : Nat), 0 ≤ u → u + 8 * (n : Int) ≤ 999999000 → l.length + n ≤ 6 → 200 + n ≤ k → ∃ l' t, spec_l12Blocks.l0 k l (n : Int) xs u = some (l', t) ∧ u ≤ t ∧ t ≤ u + 8 * (n : Int) + 70 ∧ l'.length ≤ 65 := by
  intro n
  induction n with
  | zero =>
   intro l u k hu hu' hn hk
   obtain ⟨k, rfl⟩ : ∃ q, k = q + 1 := ⟨k - 1, by omega⟩
   simp only [spec_l12Blocks.l0]
   obtain ⟨v, ev, _⟩ := i0z hx (s := u) (n := 20) (by omega) (by omega) (by omega) (show 1 ≤ k by omega)
   rw [if_neg (by omega), ev, Option.bind_some]
   dsimp only
   by_cases hv : v = 0
   ·rw [if_pos hv]
    obtain ⟨l', t, e, t0, t1, g⟩ := blocks_fill hx (65 - l.length) l (u + 1) k (by omega) (by omega) (by omega) (by omega)
    exact ⟨l', t, e, by omega, by omega, g⟩
   ·rw [if_neg hv]
    exact ⟨l, _, rfl, by omega, by omega, by omega⟩
  | succ n ih =>
   intro l u k hu hu' hn hk
   obtain ⟨k, rfl⟩ : ∃ q, k = q + 1 := ⟨k - 1, by omega⟩
   simp only [spec_l12Blocks.l0]
   obtain ⟨b0, b1, eb, _⟩ := drBlock_ev hx (s := u) (by omega) (by omega) (show 40 ≤ k by omega)
   rw [if_pos (by omega), eb, Option.bind_some]
   dsimp only
   rw [if_pos (by omega), w64 (by omega) (by omega), show ((n + 1 : Nat) : Int) - 1 = (n : Int) by omega]
   obtain ⟨l', t, e, t0, t1, g⟩ := ih (l ++ [(⟨b0, b1⟩ : Bl)]) (u + 7) k (by omega) (by omega) (by rw [e5z]; omega) (by omega)
   exact ⟨l', t, e, by omega, by omega, g⟩
 unfold spec_l12Blocks.f
 obtain ⟨v, ev, v0, v1⟩ := i0z hx (s := s) (n := 6) (by omega) (by omega) (by omega) (show 1 ≤ k by omega)
 obtain ⟨n, rfl⟩ := Int.eq_ofNat_of_zero_le v0
 obtain ⟨l, t, e, t0, t1, h⟩ := key n [] (s + 1) k (by omega) (by omega) (by simp; omega) (by omega)
 rw [ev, Option.bind_some]
 exact ⟨l, t, e, by omega, by omega, h⟩
theorem drSet_ev {xs : List Int} (hx : rdOk xs) {s : Int} (hs : 0 ≤ s) (hs' : s ≤ 999990000) {k : Nat} (hk : 5000000000 ≤ k) : ∃ l t, spec_l12Set.f k xs s = some (l, t) ∧ s ≤ t ∧ t ≤ s + 200 ∧ l.length ≤ 64 := by
 obtain ⟨l, t, e, t0, t1, h⟩ := drBlocks_ev hx hs hs' (show 500 ≤ k by omega)
 unfold spec_l12Set.f
 rw [e, Option.bind_some]
 dsimp only
 rw [setOf_spec l (by omega) hk, Option.bind_some]
 by_cases hc : (ofB l).2 = true
 ·rw [if_pos hc]
  exact ⟨_, _, rfl, t0, t1, of_len l⟩
 ·rw [if_neg hc]
  exact ⟨_, _, rfl, t0, t1, by simp⟩
theorem drAnySet_ev {xs : List Int} (hx : rdOk xs) {s : Int} (hs : 0 ≤ s) (hs' : s ≤ 999980000) {k : Nat} (hk : 5000000000 ≤ k) : ∃ l t, spec_l12AnySet.f k xs s = some (l, t) ∧ s ≤ t ∧ t ≤ s + 300 ∧ l.length ≤ 65 := by
 unfold spec_l12AnySet.f
 obtain ⟨v, ev, v0, v1⟩ := i0z hx (s := s) (n := 8) (by omega) (by omega) (by omega) (show 1 ≤ k by omega)
 rw [ev, Option.bind_some]
 dsimp only
 by_cases h0 : v = 0
 ·obtain ⟨l, t, e, t0, t1, h⟩ := drBlocks_ev hx (s := s + 1) (by omega) (by omega) (show 500 ≤ k by omega)
  rw [if_pos h0, e, Option.bind_some]
  exact ⟨l, t, rfl, by omega, by omega, h⟩
 ·obtain ⟨l, t, e, t0, t1, h⟩ := drSet_ev hx (s := s + 1) (by omega) (by omega) hk
  rw [if_neg h0]
  by_cases h1 : v = 1
  ·obtain ⟨a, b, u, eb, u0, u1, _⟩ := drAnyBlock_ev hx (s := t) (by omega) (by omega) (show 40 ≤ k by omega)
   rw [if_pos h1, e, Option.bind_some]
   dsimp only
   rw [eb, Option.bind_some]
   dsimp only
   rw [if_pos (by omega)]
   exact ⟨_, u, rfl, by omega, by omega, by rw [e5z]; omega⟩
  ·rw [if_neg h1, e, Option.bind_some]
   exact ⟨l, t, rfl, by omega, by omega, by omega⟩
theorem drawSetBoth_ev {ys : List Int} (hf : ∀ y ∈ ys, Fits .u8 y) {k : Nat} (hk : 5000000000 ≤ k) : ∃ a b : List Bl, spec_DrawSetBoth.f k ys = some (a, b) ∧ a.length ≤ 65 ∧ b.length ≤ 65 := by
 obtain ⟨xs, eo, hx⟩ := open_ev (fun y hy => fits_u8 (hf y hy))
 obtain ⟨a, t, ea, t0, t1, ha⟩ := drAnySet_ev hx (s := 0) (by omega) (by omega) hk
 obtain ⟨b, u, eb, u0, u1, hb⟩ := drAnySet_ev hx (s := t) (by omega) (by omega) hk
 unfold spec_DrawSetBoth.f
 simp only [eo, ea, eb, Option.bind_some]
 exact ⟨_, _, rfl, ha, hb⟩
theorem drawSetLess_ev {ys : List Int} (hf : ∀ y ∈ ys, Fits .u8 y) {k : Nat} (hk : 5000000000 ≤ k) : ∃ a b : List Bl, spec_DrawSetLess.f k ys = some (a, b) ∧ a.length ≤ 65 ∧ b.length ≤ 65 := by
 obtain ⟨a, b, e, ha, hb⟩ := drawSetBoth_ev hf hk
 unfold spec_DrawSetLess.f
 rw [e, Option.bind_some]
 exact ⟨_, _, rfl, ha, hb⟩
end Go.Proofs.Ytmdhedkgpgoneaa.Se

namespace Go.Proofs.Ytmdhedkgpgoneaa.Se
set_option linter.unusedSimpArgs false
set_option linter.unusedVariables false
open Go.RowKit Go.Proofs.Ytmdhedkgpgoneaa.Q Go.Proofs.Ytmdhedkgpgoneaa.Pure Go.Proofs.Ytmdhedkgpgoneaa.Open Go.Proofs.Ytmdhedkgpgoneaa.Si Go.Proofs.YtmdhedkgpgoneaaW.PrintWords Go.Proofs.YtmdhedkgpgoneaaW.PrintLast Go.Proofs.YtmdhedkgpgoneaaW.PrintMore
theorem FnSetParts_j0 {a b : List Bl} (ha : a.length ≤ 65) (hb : b.length ≤ 65) {k : Nat} (hk : 200000000000 ≤ k) : laws_FnSetParts.j0 (k + 1) a b (dual less a b).1 (dual less a b).2 (dual less a b).1 (dual less a b).2 (!(dual less a b).2) = some true := by
 have hd := dual_len both a b
 have hm := dual_len less a b
 simp only [laws_FnSetParts.j0]
 by_cases g : (dual less a b).2 = true
 ·obtain ⟨h1, h2, g3, g4⟩ := dual_true g
  have ca1 := set_can h1
  have ca2 := set_can h2
  have cb := both_can ca1 ca2
  have cl := less_can ca1 ca2
  rw [if_neg (by simp [g]), setBoth_impl a b (by omega) (by omega) (by omega), Option.bind_some]
  by_cases h : (dual both a b).2 = true
  ·obtain ⟨_, _, h3, h4⟩ := dual_true h
   have w1 := wid_le ca1
   have w2 := wid_le cb
   have w3 := wid_le cl
   have ws := wid_split ca1 ca2
   have z1 : impl_SetSize.f k (dual both a b).1 = some (wid (both (ca a) (ca b))) := by rw [setSize_impl _ (by omega) (by omega), h4, szB_coS cb h3]
   have z2 : impl_SetSize.f k (dual less a b).1 = some (wid (less (ca a) (ca b))) := by rw [setSize_impl _ (by omega) (by omega), g4, szB_coS cl g3]
   have z3 : impl_SetSize.f k a = some (wid (ca a)) := by rw [setSize_impl _ (by omega) (by omega), szB_set h1]
   have e : dual both (dual less a b).1 (dual both a b).1 = ([], true) := by
    rw [h4, g4, dual_sets (set_coS cl g3) (set_coS cb h3), ca_coS cl, ca_coS cb, both_less ca1 ca2]
    rfl
   rw [if_pos h, setBoth_impl _ _ (by omega) (by omega) (by omega), Option.bind_some, z2, Option.bind_some, z1, Option.bind_some, z3, Option.bind_some, w64 (by omega) (by omega), if_pos (by omega), e]
   rfl
  ·rw [if_neg h]
 ·have g' : (dual less a b).2 = false := by simpa using g
  rw [if_pos (by simp [g']), if_pos (by simp), ov_same _ (by omega) (by omega), Option.bind_some]
theorem FnSetParts_law : laws_FnSetParts.Pure := by
 intro xs ⟨_, hf⟩
 obtain ⟨k, hk⟩ : ∃ k : Nat, 200000000000 ≤ k := ⟨200000000000, Nat.le_refl _⟩
 refine ⟨k + 1, ?_⟩
 unfold laws_FnSetParts.f
 by_cases hl : (xs.length : Int) > 1048576
 ·rw [if_pos hl]
 rw [if_neg hl]
 obtain ⟨a, b, ed, ha, hb⟩ := drawSetLess_ev hf (k := k + 1) (by omega)
 rw [ed, Option.bind_some]
 dsimp only
 have hd := dual_len less a b
 have i0 := setLess_impl a b (by omega) (by omega) (k := k + 1) (by omega)
 have s0 := setLess_spec a b (by omega) (by omega) (k := k + 1) (by omega)
 rw [i0, Option.bind_some, s0, Option.bind_some, if_neg (by simp), ov_same _ (by omega) (by omega), Option.bind_some, if_pos rfl]
 exact FnSetParts_j0 ha hb hk
end Go.Proofs.Ytmdhedkgpgoneaa.Se
namespace Go.Proofs.Ytmdhedkgpgoneaa.Pure
open Go.Proofs.Ytmdhedkgpgoneaa.Q
theorem FnSetParts : laws_FnSetParts.Pure := Se.FnSetParts_law
end Go.Proofs.Ytmdhedkgpgoneaa.Pure

namespace Go.Proofs.Ytmdhedkgpgoneaa.fnSetParts
open Go.ChangeShapes Go.WideShapes Go.ChangeAt Go.RowKit Go.Proofs.YtmdhedkgpgoneaaW.PrintWords Go.Proofs.Ytmdhedkgpgoneaa.Open Go.Proofs.Ytmdhedkgpgoneaa.Q
open Go.ChangeMaps (open_string shut_string)
set_option linter.unusedVariables false
theorem own : ownKnob Try.prog.godebug = none := by kernel_rfl
theorem laidOut : laidOutB Try.prog = true := by kernel_rfl
set_option maxRecDepth 100000 in
theorem lifted (os : Os) (started : os.Started) (H : Type) (enc : TypeId × Value → H) :
  ReturnsInHanded {} Try.checked os 12 .any (Rows.fnSetPartsSpec.pre6 enc Try.prog Try.f12 Rows.fnSetPartsRow.domain false) (Rows.fnSetPartsSpec.post enc Try.prog Try.f12 false true false false) := by
 refine returnsInHanded_of_change_sized (C := Try.checked) own started (by kernel_rfl) Try.func12
  (ChangeSpec.witness6 (enc := enc) (C := Try.checked) false ⟨#[], #[.slice none 0 0], []⟩ 8 (by kernel_rfl) (by kernel_rfl) (by kernel_rfl) (by kernel_rfl)) ?_
 intro W base args ds gs before hval0 hW hcnd hsz0 _
 have hval : ∀ (j : Nat) t v, Try.f12.params[j]? = some t → args[j]? = some v → Value.okWide Try.prog W .any base t v := hval0
 have hW' := hW
 obtain ⟨p, q, hA0, hV, rfl, hfz, hnd⟩ := hW
 have hA : DataW.TrodAll enc Try.prog W 0 (fun _ => true) true Try.f12.params.toList args.toList ds p := hA0
 rw [Try.params12] at hA hval
 obtain ⟨v0, vs0, d0, ds0, p0, q0, hargs, rfl, rfl, h0, r0⟩ := trodAll_cons hA
 obtain ⟨rfl, rfl, rfl⟩ := trodAll_nil r0
 obtain rfl : args = #[v0] := by cases args; simp_all
 obtain ⟨rfl, rfl⟩ := trodVars_none hV
 have lt0 : ∀ x ∈ p0, x.block < W.heap.size := by obtain ⟨m, hm⟩ := h0; exact DataW.trod_lt m _ _ _ hm
 have k0 := h0
 obtain ⟨x0, K0, w0⟩ := open_arg (op35 W) h0
 obtain ⟨aa0, len0, cap0, rfl⟩ := okWide_slice Try.underlying35 (hval 0 35 v0 rfl rfl)
 obtain ⟨A0, c0, e0, hc0, hr0⟩ := K0
 obtain ⟨rfl, rfl, rfl⟩ := slice_of_cells e0
 obtain ⟨k, hp⟩ := Pure.FnSetParts x0 w0
 refine (laws_FnSetParts.calls k _ _ x0 true W hr0 hc0 hp).mono ?_
 rintro e W' ⟨rfl, bel0⟩
 have bel : Below W.heap.size W W' := bel0
 exact ⟨_, rfl, _, _, _, [], _, [], hW', trodAll_mk1 (shut_bool Try.underlying4 _), (trodAll_cons_mk (Below.trod laidOut (by kernel_rfl) (of_decide_eq_true (by kernel_rfl)) k0 bel lt0) trodAll_mk0), rfl, bel.frame _, fun h => by cases h⟩
theorem over : Rows.fnSetPartsRow.holds Try.pinned (OpenSpec.ofChange Rows.fnSetPartsSpec) :=
 OpenClaim.holds_of_wide 12 Try.f12 rfl rfl rfl rfl rfl rfl rfl ⟨rfl, rfl, rfl, rfl, rfl⟩ rfl rfl rfl rfl rfl (by kernel_rfl) Try.func12 (by kernel_rfl)
  (of_decide_eq_true (by kernel_rfl)) (by unfold Func.isWrapper; first | (rw [if_pos (by decide +kernel)]; kernel_rfl) | (rw [if_neg (by decide +kernel)]; exact ⟨rfl, rfl⟩))
  (fun os started H enc _ => lifted os started H enc)
theorem proved : Rows.FnSetPartsSaid := over
#print axioms proved
end Go.Proofs.Ytmdhedkgpgoneaa.fnSetParts
namespace Go.Proofs.Ytmdhedkgpgoneaa
/-- The row, under a short name, for the claim. -/
theorem fnSetParts_holds : Rows.FnSetPartsSaid := fnSetParts.proved
end Go.Proofs.Ytmdhedkgpgoneaa
