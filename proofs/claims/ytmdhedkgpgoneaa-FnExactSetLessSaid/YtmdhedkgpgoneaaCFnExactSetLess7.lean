/- The law FnExactSetLess (part 7 of 7): for every input the call answers true and its arguments read afterwards as before. No condition beyond the row's own. -/
import Derived.Test.YtmdhedkgpgoneaaRows
import Derived.WalkKit
import Derived.ProofKit
import Derived.OpenShut
import Derived.ShutString
import Derived.ChangeOld
import Derived.Below
import Derived.SizedLaws
import Derived.Test.YtmdhedkgpgoneaaCFnExactSetLess6
namespace Go.Proofs.Ytmdhedkgpgoneaa.Se
set_option linter.unusedSimpArgs false
set_option linter.unusedVariables false
open Go.RowKit Go.Sort Go.Proofs.Ytmdhedkgpgoneaa.Q Go.Proofs.Ytmdhedkgpgoneaa.Pure Go.Proofs.Ytmdhedkgpgoneaa.Si Go.Proofs.YtmdhedkgpgoneaaW.PrintWords Go.Proofs.YtmdhedkgpgoneaaW.PrintLast Go.Proofs.YtmdhedkgpgoneaaW.PrintMore
/-- A span, as the program has it. -/
abbrev S5 := S55
def to5 (s : Sn) : S5 := ⟨s.1, s.2⟩
def of5 (s : S5) : Sn := (s.f0, s.f1)
theorem of5_to5 (s : Sn) : of5 (to5 s) = s := rfl
theorem rd5_mid (p r : List Sn) (x : Sn) : rd_T55 ((p ++ x :: r).map to5) ((p.length : Nat) : Int) = to5 x := by
 have h := mid_get (p.map to5) (to5 x) (r.map to5) z55
 rw [List.length_map] at h
 rw [List.map_append, List.map_cons]
 exact h
theorem rd5_last (p : List Sn) (x : Sn) : rd_T55 ((p ++ [x]).map to5) ((p.length : Nat) : Int) = to5 x := rd5_mid p [] x
theorem set5_last (p : List Sn) (x y : Sn) : ((p ++ [x]).map to5).set p.length (to5 y) = (p ++ [y]).map to5 := by
 rw [List.map_append, List.map_append, List.set_append_right _ _ (by rw [List.length_map]; exact Nat.le_refl _), List.length_map, Nat.sub_self]
 rfl
theorem snoc5 (p : List Sn) (x : Sn) : p.map to5 ++ [to5 x] = (p ++ [x]).map to5 := by rw [List.map_append]; rfl
theorem spans_loop : ∀ (R P : List Bl) (acc : List Sn), okB R = true → P.length + R.length ≤ 100000000 → acc.length + R.length ≤ 100000000 → ∀ k, R.length + 1 ≤ k →
  impl_spans.l0 k (acc.map to5) (P ++ R) ((P ++ R).length : Int) (P.length : Int) = some ((acc ++ R.map spn).map to5) := by
 intro R
 induction R with
 | nil =>
  intro P acc _ _ _ k hk
  obtain ⟨k, rfl⟩ : ∃ j, k = j + 1 := ⟨k - 1, by omega⟩
  simp only [impl_spans.l0]
  rw [if_neg (by simp), List.map_nil, List.append_nil]
 | cons b R ih =>
  intro P acc hok hl ha k hk
  rw [List.length_cons] at hl ha hk
  obtain ⟨k, rfl⟩ : ∃ j, k = j + 1 := ⟨k - 1, by omega⟩
  obtain ⟨b0, b1, b2, b3, _⟩ := bok_iff.1 (okB_iff.1 hok b List.mem_cons_self)
  simp only [impl_spans.l0]
  rw [mid_len, if_pos (by omega), if_pos (by omega), if_pos (by omega), rdB_mid, last_impl b0 (by omega) b2 b3, Option.bind_some, List.length_map, if_pos (by omega), wnat (by omega)]
  have h := ih (P ++ [b]) (acc ++ [spn b]) (okB_iff.2 fun x hx => okB_iff.1 hok x (List.mem_cons_of_mem _ hx)) (by rw [snoc_len]; omega) (by rw [snoc_len]; omega) k (by omega)
  rw [← mid_app, snoc_len, mid_len, ← snoc5] at h
  refine Eq.trans h ?_
  rw [List.map_cons, List.append_assoc]
  rfl
theorem spans_ev {l : List Bl} (h : okB l = true) (hl : l.length ≤ 100000000) {k : Nat} (hk : l.length + 1 ≤ k) : impl_spans.f k l = some ((l.map spn).map to5) := by
 unfold impl_spans.f
 exact spans_loop l [] [] h (by simpa using hl) (by simpa using hl) k hk
theorem union_loop : ∀ (R P xa : List Sn) (t : Sn), P.length + R.length ≤ 100000000 → xa.length + R.length ≤ 100000000 → (∀ s ∈ R, 0 ≤ s.2 ∧ s.2 ≤ 4294967295) → 0 ≤ t.2 → t.2 ≤ 4294967295 → ∀ k, R.length + 1 ≤ k →
  impl_union.l0 k ((xa ++ [t]).map to5) ((P ++ R).map to5) ((P ++ R).length : Int) (P.length : Int) = some ((mrgG xa t R).map to5) := by
 intro R
 induction R with
 | nil =>
  intro P xa t hp ha _ _ _ k hk
  obtain ⟨k, rfl⟩ : ∃ j, k = j + 1 := ⟨k - 1, by omega⟩
  simp only [impl_union.l0]
  rw [if_neg (by simp)]
  rfl
 | cons s R ih =>
  intro P xa t hp ha hR t0 t1 k hk
  rw [List.length_cons] at hp ha hk
  obtain ⟨k, rfl⟩ : ∃ j, k = j + 1 := ⟨k - 1, by omega⟩
  obtain ⟨s0, s1⟩ := hR s List.mem_cons_self
  have hml : ((P ++ s :: R).map to5).length = P.length + 1 + R.length := by rw [List.length_map, mid_len]
  have hal : ((xa ++ [t]).map to5).length = xa.length + 1 := by rw [List.length_map, snoc_len]
  have hw : wrap64 (((xa.length + 1 : Nat) : Int) - 1) = (xa.length : Int) := by rw [w64 (by omega) (by omega)]; omega
  simp only [impl_union.l0]
  rw [hml, mid_len, hal, hw, if_pos (by omega), if_pos (by omega), if_pos (by omega), if_pos (by omega), if_pos (by omega), if_pos (by omega), rd5_mid, rd5_last, Int.toNat_natCast, wnat (by omega)]
  show (if s.1 ≤ wrap64 (t.2 + 1) then impl_union.l0 k (((xa ++ [t]).map to5).set xa.length (to5 (t.1, mx t.2 s.2))) _ _ _ else (if xa.length + 1 < 8796093022208 then impl_union.l0 k ((xa ++ [t]).map to5 ++ [to5 s]) _ _ _ else none)) = _
  rw [w64 (by omega) (by omega), mrgG]
  by_cases hc : s.1 ≤ t.2 + 1
  ·rw [if_pos hc, if_pos hc, set5_last]
   have hm : 0 ≤ mx t.2 s.2 ∧ mx t.2 s.2 ≤ 4294967295 := by unfold mx; split <;> omega
   have h := ih (P ++ [s]) xa (t.1, mx t.2 s.2) (by rw [snoc_len]; omega) (by omega) (fun u hu => hR u (List.mem_cons_of_mem _ hu)) hm.1 hm.2 k (by omega)
   rw [← mid_app, snoc_len, mid_len] at h
   exact h
  ·rw [if_neg hc, if_neg hc, if_pos (by omega), snoc5]
   have h := ih (P ++ [s]) (xa ++ [t]) s (by rw [snoc_len]; omega) (by rw [snoc_len]; omega) (fun u hu => hR u (List.mem_cons_of_mem _ hu)) s0 s1 k (by omega)
   rw [← mid_app P s R, snoc_len P s, mid_len] at h
   exact h
theorem union_all (S : List Sn) (hl : S.length ≤ 100000000) (hS : ∀ s ∈ S, 0 ≤ s.2 ∧ s.2 ≤ 4294967295) {k : Nat} (hk : S.length + 1 ≤ k) : impl_union.l0 k [] (S.map to5) (S.length : Int) 0 = some ((mrg S).map to5) := by
 cases S with
 | nil =>
  obtain ⟨k, rfl⟩ : ∃ j, k = j + 1 := ⟨k - 1, by omega⟩
  simp only [impl_union.l0]
  rfl
 | cons s R =>
  rw [List.length_cons] at hl hk
  obtain ⟨k, rfl⟩ : ∃ j, k = j + 1 := ⟨k - 1, by omega⟩
  obtain ⟨s0, s1⟩ := hS s List.mem_cons_self
  have hml : ((s :: R).map to5).length = 1 + R.length := by rw [List.length_map, List.length_cons]; omega
  have hml' : (s :: R).length = 1 + R.length := by rw [List.length_cons]; omega
  have hz : rd_T55 ((s :: R).map to5) 0 = to5 s := rfl
  simp only [impl_union.l0]
  rw [hml, hml', if_pos (by omega), if_pos (by omega), if_pos (by omega), if_neg (by simp), hz, if_pos (by simp), w64 (x := 0 + 1) (by omega) (by omega)]
  have h := union_loop R [s] [] s (by simp; omega) (by simp; omega) (fun u hu => hS u (List.mem_cons_of_mem _ hu)) s0 s1 k (by omega)
  rw [show ([s] ++ R).length = 1 + R.length by simp; omega] at h
  exact h
theorem sort_perm (xs : List S5) : (Un.sortSp xs).Perm xs := by
 have h := (Un.sortSp_raw xs).1.2.2
 have hl := Un.sortSp_length xs
 have e1 : ((Un.sortSp xs).toArray.extract 0 xs.toArray.size).toList = Un.sortSp xs := by
  rw [List.size_toArray, ← hl]; simp
 have e2 : (xs.toArray.extract 0 xs.toArray.size).toList = xs := by simp
 rwa [e1, e2] at h
theorem sort_sorted (xs : List S5) : (Un.sortSp xs).Pairwise fun s t => s.f0 ≤ t.f0 := by
 have h := (Un.sortSp_raw xs).2
 have hl := Un.sortSp_length xs
 rw [List.pairwise_iff_getElem]
 intro i j hi hj hij
 have h1 := h i j (Nat.zero_le _) hij (by rw [List.size_toArray, ← hl]; exact hj)
 rw [Un.ltSp, getElem!_pos _ j (by simpa using hj), getElem!_pos _ i (by simpa using hi)] at h1
 have h2 := of_decide_eq_false h1
 simp only [List.getElem_toArray] at h2
 omega
theorem union_ev {xs : List Sn} (h : ∀ s ∈ xs, Ok s) (hl : xs.length ≤ 100000000) {k : Nat} (hk : xs.length + 1 ≤ k) : impl_union.f k (xs.map to5) = some ((cn xs).map to5) := by
 unfold impl_union.f slices_SortedFunc_span.f
 rw [if_pos (by rw [List.length_map]; omega), Option.bind_some]
 have hp := sort_perm (xs.map to5)
 have hs := sort_sorted (xs.map to5)
 have hsl := Un.sortSp_length (xs.map to5)
 rw [List.length_map] at hsl
 generalize Un.sortSp (xs.map to5) = ys at hp hs hsl ⊢
 obtain ⟨zs, rfl⟩ : ∃ zs : List Sn, ys = zs.map to5 := ⟨ys.map of5, by rw [List.map_map, show (to5 ∘ of5) = id from rfl, List.map_id]⟩
 have hm : ∀ s, s ∈ zs ↔ s ∈ xs := fun s => by
  have := hp.mem_iff (a := to5 s)
  rw [List.mem_map, List.mem_map] at this
  constructor
  ·intro hz
   obtain ⟨u, hu, e⟩ := this.1 ⟨s, hz, rfl⟩
   rw [← of5_to5 s, ← e]
   exact hu
  ·intro hz
   obtain ⟨u, hu, e⟩ := this.2 ⟨s, hz, rfl⟩
   rw [← of5_to5 s, ← e]
   exact hu
 have hz : zs.Pairwise fun s t => s.1 ≤ t.1 := (List.pairwise_map.1 hs).imp fun h => h
 rw [List.length_map] at hsl ⊢
 rw [union_all zs (by omega) (fun s hs => by obtain ⟨s0, s1, s2⟩ := h s ((hm s).1 hs); exact ⟨by omega, s2⟩) (by omega)]
 obtain ⟨c1, c2⟩ := mrg_spec (xs := zs) (fun s hs => h s ((hm s).1 hs)) hz
 rw [cn_of h c1 fun p => by rw [c2]; exact memB_congr hm p]
theorem set_loop : ∀ (R P : List Sn) (acc : List Bl), P.length + R.length ≤ 100000000 → (∀ s ∈ R, Ok s) → (acc.length : Int) + wid R ≤ 5000000000 → ∀ k : Nat, R.length + 171798691930 ≤ k →
  impl_set.l0 k acc ((P ++ R).map to5) ((P ++ R).length : Int) (P.length : Int) = some (acc ++ coS R) := by
 intro R
 induction R with
 | nil =>
  intro P acc _ _ _ k hk
  obtain ⟨k, rfl⟩ : ∃ j, k = j + 1 := ⟨k - 1, by omega⟩
  simp only [impl_set.l0]
  rw [if_neg (by simp), coS_nil, List.append_nil]
 | cons s R ih =>
  intro P acc hl hR hw k hk
  rw [List.length_cons] at hl hk
  have hN := NN_eq
  obtain ⟨s0, s1, s2⟩ := hR s List.mem_cons_self
  have hw0 : 0 ≤ wid R := by
   have h1 := sumB_length (coS R)
   rw [coS_sum (fun t ht => hR t (List.mem_cons_of_mem _ ht))] at h1
   omega
  rw [wid_cons] at hw
  obtain ⟨k, rfl⟩ : ∃ j, k = j + 1 := ⟨k - 1, by omega⟩
  have hml : ((P ++ s :: R).map to5).length = P.length + 1 + R.length := by rw [List.length_map, mid_len]
  have hcl := cov_len (a := s.1) (b := s.2) NN (by omega) (by omega)
  simp only [impl_set.l0]
  rw [hml, mid_len, if_pos (by omega), if_pos (by omega), if_pos (by omega), rd5_mid, wnat (by omega)]
  show ((impl_span_blocks.f k s.1 s.2).bind fun t106 => _) = _
  rw [blocks_ev s0 s2 (by omega), Option.bind_some, if_pos (by omega)]
  have h := ih (P ++ [s]) (acc ++ cov NN s.1 s.2) (by rw [snoc_len]; omega) (fun t ht => hR t (List.mem_cons_of_mem _ ht)) (by rw [List.length_append]; push_cast; omega) k (by omega)
  rw [← mid_app, snoc_len, mid_len] at h
  rw [h, coS_cons, List.append_assoc]
theorem set_ev {xs : List Sn} (h : ∀ s ∈ xs, Ok s) (hl : xs.length ≤ 100000000) {k : Nat} (hk : 171900000000 ≤ k) : impl_set.f k (xs.map to5) = some (coS (cn xs)) := by
 have hc := (cn_spec h).1
 have hw := wid_le hc
 have hcl := cn_length xs
 unfold impl_set.f
 rw [union_ev h hl (by omega), Option.bind_some, List.length_map]
 exact set_loop (cn xs) [] [] (by simp; omega) hc.1 (by simp; omega) k (by omega)
theorem index_loop : ∀ (R P : List Bl), P.length + R.length ≤ 1000000000 → ∀ k, R.length + 1 ≤ k → ∃ v, slices_IndexFunc_Block.l0 k (P ++ R) ((P ++ R).length : Int) (P.length : Int) = some v ∧ decide (v ≥ 0) = !okB R := by
 intro R
 induction R with
 | nil =>
  intro P _ k hk
  obtain ⟨k, rfl⟩ : ∃ j, k = j + 1 := ⟨k - 1, by omega⟩
  refine ⟨-1, ?_, by simp [okB]⟩
  simp only [slices_IndexFunc_Block.l0]
  rw [if_neg (by simp)]
 | cons b R ih =>
  intro P hl k hk
  rw [List.length_cons] at hl hk
  obtain ⟨k, rfl⟩ : ∃ j, k = j + 1 := ⟨k - 1, by omega⟩
  simp only [slices_IndexFunc_Block.l0, impl_blocksOk_1.f]
  rw [mid_len, if_pos (by omega), if_pos (by omega), if_pos (by omega), rdB_mid, ok_impl, Option.bind_some, Option.bind_some, wnat (by omega)]
  by_cases hb : bok b.f0 b.f1 = true
  ·obtain ⟨v, hv, he⟩ := ih (P ++ [b]) (by rw [snoc_len]; omega) k (by omega)
   rw [← mid_app, snoc_len, mid_len] at hv
   refine ⟨v, ?_, ?_⟩
   ·rw [if_neg (by simp [hb])]; exact hv
   ·rw [he]; simp [okB, hb]
  ·refine ⟨P.length, ?_, ?_⟩
   ·rw [if_pos (by simp [hb])]
   ·have : okB (b :: R) = false := by simp [okB, hb]
    rw [this]
    simp
theorem blocks_impl (l : List Bl) (hl : l.length ≤ 1000000000) {k : Nat} (hk : 100 ≤ k) : impl_blocksOk.f k l = some (okB l && decide (l.length ≤ 64)) := by
 unfold impl_blocksOk.f slices_ContainsFunc_Block.f slices_IndexFunc_Block.f
 by_cases h : l.length ≤ 64
 ·obtain ⟨v, hv, he⟩ := index_loop l [] (by simpa using hl) k (by omega)
  rw [if_pos (by omega)]
  have hv' : slices_IndexFunc_Block.l0 k l (l.length : Int) 0 = some v := hv
  rw [hv', Option.bind_some, Option.bind_some, he, decide_eq_true h, Bool.not_not, Bool.and_true]
 ·rw [if_neg (by omega), decide_eq_false h, Bool.and_false]
theorem room_impl (l : List Bl) : impl_limited.f l = some (room l) := by
 unfold impl_limited.f room
 by_cases h : l.length ≤ 64
 ·rw [if_neg (by omega), if_pos h]
 ·rw [if_pos (by omega), if_neg h]
theorem equal_ev (a b : List Bl) (hl : a.length ≤ 10000000000) {k : Nat} (hk : a.length + 10 < k) : slices_Equal_Block.f k a b = some (decide (a = b)) := by
 unfold slices_Equal_Block.f
 by_cases h : a.length = b.length
 ·rw [if_pos (by omega), ← all_eq a b h]
  have hs := scan_loop (fun k i => slices_Equal_Block.l0 k a b (a.length : Int) i) a.length 1 (fun i => decide (rd_T44 a (i : Int) = rd_T44 b (i : Int))) false true (fun k i hi _ _ hg => ?_) (fun k i hi _ _ hg => ?_) (fun k _ => ?_) k (by omega)
  ·refine Eq.trans hs ?_
   generalize ((List.range a.length).all fun i => decide (rd_T44 a (i : Int) = rd_T44 b (i : Int))) = q
   cases q <;> rfl
  ·simp only [slices_Equal_Block.l0]
   rw [if_pos (by omega), if_pos (by omega), if_pos (by omega), if_pos (by omega), ne_blk, hg, if_neg (by simp), wnat (by omega)]
  ·simp only [slices_Equal_Block.l0]
   rw [if_pos (by omega), if_pos (by omega), if_pos (by omega), if_pos (by omega), ne_blk, hg, if_pos (by simp)]
  ·simp only [slices_Equal_Block.l0]
   rw [if_neg (by omega)]
 ·rw [if_neg (by omega), decide_eq_false fun e => h (by rw [e])]
theorem setOk_impl (l : List Bl) (hl : l.length ≤ 100000000) {k : Nat} (hk : 171900000000 ≤ k) : impl_SetOk.f k l = some (isSet l) := by
 unfold impl_SetOk.f isSet
 rw [blocks_impl l (by omega) (by omega), Option.bind_some]
 by_cases h : okB l = true
 ·by_cases h2 : l.length ≤ 64
  ·have hcl := coS_length (ca_can h)
   rw [h, if_pos (by simp [h2]), spans_ev h (by omega) (by omega), Option.bind_some, set_ev (spns_ok h) (by rw [List.length_map]; omega) hk, Option.bind_some, equal_ev _ _ (by unfold ca at hcl; omega) (by unfold ca at hcl; omega), Option.bind_some, decide_eq_true h2, Bool.true_and, Bool.true_and]
   rfl
  ·rw [if_neg (by simp [h2]), decide_eq_false h2]
   simp
 ·rw [if_neg (by simp [h])]
  simp [h]
theorem il_in (x1 : List Bl) (x21 : List S5) (x22 x23 : Int) (ys : List Sn) (hy : ys.length ≤ 1000) (hok : ∀ s ∈ ys, Ok s) : ∀ (R P acc : List Sn) (a : Sn), ys = P ++ R → acc.length + R.length ≤ 1000000 → ∀ k,
  impl_SetLess.l1 (k + (2 * R.length + 1)) x1 (acc.map to5) x21 x22 x23 (ys.map to5) (ys.length : Int) (P.length : Int) a.1 a.2 = impl_SetLess.l0 k x1 ((acc ++ cut a R).map to5) x21 x22 (wrap64 (x23 + 1)) := by
 intro R
 induction R with
 | nil =>
  intro P acc a hb hl k
  rw [List.length_nil] at hl
  have hyl : ys.length = P.length := by rw [hb, List.append_nil]
  rw [show k + (2 * ([] : List Sn).length + 1) = k + 1 by simp]
  simp only [impl_SetLess.l1]
  rw [hyl, if_neg (by omega), List.length_map]
  show (if a.1 ≤ a.2 then (if acc.length < 8796093022208 then impl_SetLess.l0 k x1 (acc.map to5 ++ [to5 a]) _ _ _ else none) else _) = _
  unfold cut
  by_cases h : a.1 ≤ a.2
  ·rw [if_pos h, if_pos h, if_pos (by omega), snoc5]
  ·rw [if_neg h, if_neg h, List.append_nil]
 | cons b R ih =>
  intro P acc a hb hl k
  rw [List.length_cons] at hl
  have hyl : ys.length = P.length + 1 + R.length := by rw [hb, mid_len]
  have hrb : rd_T55 (ys.map to5) (P.length : Int) = to5 b := by rw [hb, rd5_mid]
  obtain ⟨b0, b1, b2⟩ := hok b (by rw [hb]; simp)
  have hj : impl_SetLess.l1 (k + (2 * R.length + 1) + 1 + 1) x1 (acc.map to5) x21 x22 x23 (ys.map to5) (ys.length : Int) (P.length : Int) a.1 a.2 = impl_SetLess.j3 (k + (2 * R.length + 1) + 1) x1 (acc.map to5) x21 x22 x23 (ys.map to5) (ys.length : Int) (P.length : Int) (decide (b.2 < a.1 ∨ b.1 > a.2)) a.1 a.2 b.1 b.2 := by
   simp only [impl_SetLess.l1]
   rw [List.length_map, hyl, if_pos (by omega), if_pos (by omega), if_pos (by omega), hrb]
   show (if b.2 < a.1 then impl_SetLess.j3 _ _ _ _ _ _ _ _ _ true _ _ b.1 b.2 else impl_SetLess.j3 _ _ _ _ _ _ _ _ _ (decide (b.1 > a.2)) _ _ b.1 b.2) = _
   by_cases h : b.2 < a.1
   ·rw [if_pos h, decide_eq_true (Or.inl h)]
   ·rw [if_neg h]
    congr 1
    rw [Bool.eq_iff_iff, decide_eq_true_iff, decide_eq_true_iff]
    omega
  rw [show k + (2 * (b :: R).length + 1) = k + (2 * R.length + 1) + 1 + 1 by rw [List.length_cons]; omega, hj]
  simp only [impl_SetLess.j3]
  rw [List.length_map, wnat (by omega), w64 (x := b.1 - 1) (by omega) (by omega), w64 (x := b.2 + 1) (by omega) (by omega)]
  have hs : (P ++ [b]).length = P.length + 1 := snoc_len P b
  unfold cut
  by_cases h : b.2 < a.1 ∨ b.1 > a.2
  ·rw [if_pos (decide_eq_true h), if_pos h]
   have e := ih (P ++ [b]) acc a (by rw [hb, mid_app]) (by omega) k
   rw [hs] at e
   exact e
  ·rw [if_neg (by simpa using h), if_neg h]
   by_cases h2 : a.1 < b.1
   ·rw [if_pos h2, if_pos h2, if_pos (by omega)]
    have e := ih (P ++ [b]) (acc ++ [(a.1, b.1 - 1)]) (b.2 + 1, a.2) (by rw [hb, mid_app]) (by rw [snoc_len]; omega) k
    rw [hs, ← snoc5, List.append_assoc] at e
    exact e
   ·rw [if_neg h2, if_neg h2, List.nil_append]
    have e := ih (P ++ [b]) acc (b.2 + 1, a.2) (by rw [hb, mid_app]) (by omega) k
    rw [hs] at e
    exact e
theorem il_out {b : List Bl} (hb : okB b = true) (hbl : b.length ≤ 100) (xs : List Sn) (hx : ∀ s ∈ xs, Ok s) : ∀ (R P acc : List Sn), xs = P ++ R → P.length + R.length ≤ 100 → acc.length + 200 * R.length ≤ 100000 → (∀ s ∈ acc, Ok s) → ∀ k, 300 * R.length + 171900000001 ≤ k →
  impl_SetLess.l0 k b (acc.map to5) (xs.map to5) (xs.length : Int) (P.length : Int) = some (room (coS (cn (acc ++ cuts R (ca b))))) := by
 have hcb := ca_can hb
 have hcl := ca_length b
 intro R
 induction R with
 | nil =>
  intro P acc ha _ hc hok k hk
  rw [List.length_nil] at hc
  obtain ⟨k, rfl⟩ : ∃ j, k = j + 1 := ⟨k - 1, by omega⟩
  simp only [impl_SetLess.l0]
  rw [if_neg (by rw [ha, List.append_nil]; omega), set_ev hok (by omega) (by omega), Option.bind_some, room_impl, Option.bind_some, show cuts [] (ca b) = [] from rfl, List.append_nil]
 | cons a R ih =>
  intro P acc ha hl hc hok k hk
  rw [List.length_cons] at hl hc hk
  obtain ⟨k, rfl⟩ : ∃ j, k = j + (2 * (ca b).length + 1) + 1 := ⟨k - (2 * (ca b).length + 1) - 1, by omega⟩
  have hxl : xs.length = P.length + 1 + R.length := by rw [ha, mid_len]
  have hm := cut_length (ca b) a
  have hra : rd_T55 (xs.map to5) (P.length : Int) = to5 a := by rw [ha, rd5_mid]
  obtain ⟨a0, a1, a2⟩ := hx a (by rw [ha]; simp)
  simp only [impl_SetLess.l0]
  rw [List.length_map, hxl, if_pos (by omega), if_pos (by omega), if_pos (by omega), spans_ev hb (by omega) (by omega), Option.bind_some, union_ev (spns_ok hb) (by rw [List.length_map]; omega) (by rw [List.length_map]; omega), Option.bind_some, hra]
  have e := il_in b (xs.map to5) ((P.length + 1 + R.length : Nat) : Int) (P.length : Int) (ca b) (by omega) hcb.1 (ca b) [] acc a rfl (by omega) k
  rw [List.length_map (f := to5)]
  refine Eq.trans e ?_
  rw [wnat (by omega)]
  have hok' : ∀ s ∈ acc ++ cut a (ca b), Ok s := by
   intro s hs
   rcases List.mem_append.1 hs with hs | hs
   ·exact hok s hs
   ·exact (cut_spec (ca b) a hcb a0 a2).1 s hs
  have h := ih (P ++ [a]) (acc ++ cut a (ca b)) (by rw [ha, mid_app]) (by rw [snoc_len]; omega) (by rw [List.length_append]; omega) hok' k (by omega)
  rw [snoc_len, hxl] at h
  rw [h, show cuts (a :: R) (ca b) = cut a (ca b) ++ cuts R (ca b) from List.flatMap_cons .., List.append_assoc]
theorem setLess_impl (a b : List Bl) (ha : a.length ≤ 100000000) (hb : b.length ≤ 100000000) {k : Nat} (hk : 172000000000 ≤ k) : impl_SetLess.f k a b = some (dual less a b) := by
 obtain ⟨k, rfl⟩ : ∃ j, k = j + 1 := ⟨k - 1, by omega⟩
 unfold impl_SetLess.f dual
 rw [setOk_impl a ha (by omega), Option.bind_some]
 by_cases h1 : isSet a = true
 ·rw [if_pos h1, setOk_impl b hb (by omega), Option.bind_some]
  simp only [impl_SetLess.j0]
  by_cases h2 : isSet b = true
  ·obtain ⟨a1, a2, a3⟩ := isSet_iff.1 h1
   obtain ⟨b1, b2, b3⟩ := isSet_iff.1 h2
   have hcl := ca_length a
   rw [if_neg (by simp [h2]), if_pos ⟨h1, h2⟩, spans_ev a1 (by omega) (by omega), Option.bind_some, union_ev (spns_ok a1) (by rw [List.length_map]; omega) (by rw [List.length_map]; omega), Option.bind_some, List.length_map]
   have e := il_out b1 (by omega) (ca a) (ca_can a1).1 (ca a) [] [] rfl (by simp; omega) (by simp; omega) (fun s hs => absurd hs (by simp)) k (by omega)
   refine Eq.trans e ?_
   rw [List.nil_append, cn_cuts (ca_can a1) (ca_can b1)]
  ·rw [if_pos (by simp [h2]), if_neg (fun h => h2 h.2)]
 ·rw [if_neg h1]
  simp only [impl_SetLess.j0]
  rw [if_pos trivial, if_neg (fun h => h1 h.1)]
end Go.Proofs.Ytmdhedkgpgoneaa.Se

namespace Go.Proofs.Ytmdhedkgpgoneaa.Se
set_option linter.unusedSimpArgs false
set_option linter.unusedVariables false
open Go.RowKit Go.Proofs.Ytmdhedkgpgoneaa.Q Go.Proofs.Ytmdhedkgpgoneaa.Pure Go.Proofs.Ytmdhedkgpgoneaa.Si Go.Proofs.YtmdhedkgpgoneaaW.PrintWords Go.Proofs.YtmdhedkgpgoneaaW.PrintLast Go.Proofs.YtmdhedkgpgoneaaW.PrintMore
/-- A block as the program has it. -/
def cvB (x : S46) : Bl := ⟨x.f0, x.f1⟩
theorem toBS_ev {l : List S46} {k : Nat} (hl : l.length ≤ 1048576) (hk : l.length < k) : laws_toBlockS.f k l = some (l.map cvB) := by
 unfold laws_toBlockS.f
 rw [if_pos (by omega), if_pos (by omega)]
 refine fill_loop laws_toBlockS.l0 cvB z46 l ?_ ?_ k _ hk (by simp)
 ·intro k i ys hi hy
  simp only [laws_toBlockS.l0, laws_toBlock.f, Option.bind_some]
  rw [if_pos (by omega), if_pos (by omega), if_pos (by omega), w64 (by omega) (by omega)]
  rfl
 ·intro k ys
  simp only [laws_toBlockS.l0]
  rw [if_neg (by omega)]
theorem szBS_ev (l : List S46) (n : Int) (h0 : 0 ≤ n) (h1 : n ≤ 1048576) (hl : l.length ≤ 9223372036854775807) : laws_szBlockS.f l n = some (if n - (l.length : Int) < 0 then (-1 : Int) else n - (l.length : Int)) := by
 unfold laws_szBlockS.f
 rw [w64 (by omega) (by omega)]
 split <;> rfl
theorem eqBS_ev (l : List Bl) (hl : l.length ≤ 35184372088832) {k : Nat} (hk : l.length + 10 < k) : laws_eqBlockS.f k l l = some true := by
 unfold laws_eqBlockS.f
 rw [if_pos rfl]
 refine true_loop (fun k i => laws_eqBlockS.l0 k l l i) l.length 1 true (fun k i hi _ => ?_) (fun k _ => ?_) k (by omega)
 ·simp only [laws_eqBlockS.l0]
  rw [if_pos (by omega), if_pos (by omega), if_pos (by omega)]
  unfold laws_eqBlock.f
  rw [if_pos rfl, if_pos rfl, Option.bind_some, if_pos rfl, w64 (by omega) (by omega)]
  rfl
 ·simp only [laws_eqBlockS.l0]
  rw [if_neg (by omega)]
/-- A marked block. -/
def mkB (v : Int) : Bl := ⟨v, v + 1⟩
theorem set_again {α : Type} (l : List α) (i : Nat) (a b : α) : (l.set i a).set i b = l.set i b := List.set_set ..
theorem rdB_set {l : List Bl} {i : Nat} (h : i < l.length) (z : Bl) : rd_T44 (l.set i z) (i : Int) = z := by
 show (l.set i z).getD i _ = z
 rw [List.getD_eq_getElem?_getD, List.getElem?_set_self h]; rfl
theorem markBS_ev (l : List Bl) (hl : l.length ≤ 10000000) (v : Int) (v0 : 1 ≤ v) (v1 : v ≤ 10000000) {k : Nat} (hk : l.length < k) : laws_markBlockS.f k l v = some (v + 2 * (l.length : Int), marks mkB 2 v l.length) := by
 unfold laws_markBlockS.f
 refine mark_loop laws_markBlockS.l0 mkB 2 (by omega) (fun k i xs v hi hx h0 h1 => ?_) (fun k xs v => ?_) l (by omega) v v0 (by omega) k hk
 ·simp only [laws_markBlockS.l0]
  rw [if_pos (by omega), if_pos (by omega), Option.bind_some, w64 (x := v + 1) (by omega) (by omega), w64 (x := v + 1 + 1) (by omega) (by omega), w64 (x := (i : Int) + 1) (by omega) (by omega)]
  rw [show ((i : Int)).toNat = i from Int.toNat_natCast i, set_again, rdB_set hi, show v + 1 + 1 = v + 2 by omega]
  rfl
 ·simp only [laws_markBlockS.l0]
  rw [if_neg (by omega)]
theorem heldBS_ev (n : Nat) (hn : n ≤ 10000000) (v : Int) (v0 : 1 ≤ v) (v1 : v ≤ 10000000) {k : Nat} (hk : n < k) : laws_heldBlockS.f k (marks mkB 2 v n) v = some (v + 2 * (n : Int)) := by
 unfold laws_heldBlockS.f
 refine held_loop laws_heldBlockS.l0 mkB 2 (by omega) (fun k i xs v hi hx h0 h1 hm => ?_) (fun k xs v => ?_) n (by omega) v v0 (by omega) k hk
 ·have e : rd_T44 xs (i : Int) = mkB v := by
   show xs.getD i _ = _
   rw [List.getD_eq_getElem?_getD, hm]; rfl
  simp only [laws_heldBlockS.l0]
  rw [if_pos (by omega), if_pos (by omega), e]
  unfold mkB
  rw [if_pos rfl, w64 (x := v + 1) (by omega) (by omega), if_pos rfl, w64 (x := v + 1 + 1) (by omega) (by omega), w64 (x := (i : Int) + 1) (by omega) (by omega), show v + 1 + 1 = v + 2 by omega]
  rfl
 ·simp only [laws_heldBlockS.l0]
  rw [if_neg (by omega)]
theorem room_len (l : List Bl) : (room l).1.length ≤ 64 := by
 unfold room
 split
 ·assumption
 ·simp
theorem dual_len (f : List Sn → List Sn → List Sn) (a b : List Bl) : (dual f a b).1.length ≤ 64 := by
 unfold dual
 split
 ·exact room_len _
 ·simp
end Go.Proofs.Ytmdhedkgpgoneaa.Se

namespace Go.Proofs.Ytmdhedkgpgoneaa.Se
set_option linter.unusedSimpArgs false
set_option linter.unusedVariables false
open Go.RowKit Go.Proofs.Ytmdhedkgpgoneaa.Q Go.Proofs.Ytmdhedkgpgoneaa.Pure Go.Proofs.Ytmdhedkgpgoneaa.Open Go.Proofs.Ytmdhedkgpgoneaa.Si Go.Proofs.YtmdhedkgpgoneaaW.PrintWords Go.Proofs.YtmdhedkgpgoneaaW.PrintLast Go.Proofs.YtmdhedkgpgoneaaW.PrintMore
theorem FnExactSetLess_law : laws_FnExactSetLess.Pure := by
 intro a b ha hb
 obtain ⟨k, hk⟩ : ∃ k : Nat, 200000000000 ≤ k := ⟨200000000000, Nat.le_refl _⟩
 refine ⟨k + 3, ?_⟩
 unfold laws_FnExactSetLess.f
 rw [szBS_ev a 1048576 (by omega) (by omega) ha.1, Option.bind_some]
 by_cases h : (1048576 : Int) - (a.length : Int) < 0
 ·rw [if_pos (by rw [if_pos h]; omega)]
 ·simp only [if_neg h]
  rw [szBS_ev b (1048576 - (a.length : Int)) (by omega) (by omega) hb.1, Option.bind_some]
  by_cases h2 : (1048576 : Int) - (a.length : Int) - (b.length : Int) < 0
  ·rw [if_pos (by rw [if_pos h2]; omega)]
  rw [if_neg (by rw [if_neg h2]; exact h2)]
  have hma : (a.map cvB).length = a.length := List.length_map ..
  have hmb : (b.map cvB).length = b.length := List.length_map ..
  have ta := fun j (hj : 1 ≤ j) => toBS_ev (l := a) (k := k + j) (by omega) (by omega)
  have tb := fun j (hj : 1 ≤ j) => toBS_ev (l := b) (k := k + j) (by omega) (by omega)
  have s := setLess_spec (a.map cvB) (b.map cvB) (by omega) (by omega) (k := k + 3) (by omega)
  have i := setLess_impl (a.map cvB) (b.map cvB) (by omega) (by omega) (k := k + 3) (by omega)
  have i1 := setLess_impl (a.map cvB) (b.map cvB) (by omega) (by omega) (k := k + 1) (by omega)
  have ho := dual_len less (a.map cvB) (b.map cvB)
  generalize dual less (a.map cvB) (b.map cvB) = r at s i i1 ho
  obtain ⟨r, o⟩ := r
  dsimp only at ho
  have ta3 := ta 3 (by omega)
  have ta2 := ta 2 (by omega)
  have ta1 := ta 1 (by omega)
  have tb3 := tb 3 (by omega)
  have tb2 := tb 2 (by omega)
  have tb1 := tb 1 (by omega)
  simp only [ta3, tb3, s, i, Option.bind_some]
  rw [eqBS_ev _ (by omega) (by omega), Option.bind_some, if_pos rfl]
  simp only [laws_FnExactSetLess.j0]
  rw [if_neg (by simp), ta2, Option.bind_some, eqBS_ev _ (by omega) (by omega), Option.bind_some, if_pos rfl, tb2, Option.bind_some, eqBS_ev _ (by omega) (by omega), Option.bind_some, if_pos rfl, markBS_ev _ (by omega) 1 (by omega) (by omega) (by omega), Option.bind_some]
  dsimp only
  rw [markBS_ev _ (by omega) _ (by omega) (by omega) (by omega), Option.bind_some]
  dsimp only
  rw [if_neg (by omega)]
  rw [eqBS_ev _ (by omega) (by omega), Option.bind_some, if_pos rfl]
  simp only [laws_FnExactSetLess.j1]
  rw [if_neg (by simp), markBS_ev _ (by omega) 1 (by omega) (by omega) (by omega), Option.bind_some]
  dsimp only
  rw [heldBS_ev _ (by omega) 1 (by omega) (by omega) (by omega), Option.bind_some, if_neg (by omega), if_pos rfl]
  simp only [ta1, tb1, i1, Option.bind_some]
  rw [eqBS_ev _ (by omega) (by omega), Option.bind_some, if_pos rfl]
  simp only [laws_FnExactSetLess.j2]
  rw [if_neg (by simp), heldBS_ev _ (by omega) 1 (by omega) (by omega) (by omega), Option.bind_some, if_neg (by omega), if_pos rfl]
end Go.Proofs.Ytmdhedkgpgoneaa.Se
namespace Go.Proofs.Ytmdhedkgpgoneaa.Pure
open Go.Proofs.Ytmdhedkgpgoneaa.Q
theorem FnExactSetLess : laws_FnExactSetLess.Pure := Se.FnExactSetLess_law
end Go.Proofs.Ytmdhedkgpgoneaa.Pure

namespace Go.Proofs.Ytmdhedkgpgoneaa.fnExactSetLess
open Go.ChangeShapes Go.WideShapes Go.ChangeAt Go.RowKit Go.Proofs.YtmdhedkgpgoneaaW.PrintWords Go.Proofs.Ytmdhedkgpgoneaa.Open Go.Proofs.Ytmdhedkgpgoneaa.Q
open Go.ChangeMaps (open_string shut_string)
set_option linter.unusedVariables false
theorem own : ownKnob Try.prog.godebug = none := by kernel_rfl
theorem laidOut : laidOutB Try.prog = true := by kernel_rfl
set_option maxRecDepth 100000 in
theorem lifted (os : Os) (started : os.Started) (H : Type) (enc : TypeId × Value → H) :
  ReturnsInHanded {} Try.checked os 7 .any (Rows.fnExactSetLessSpec.pre6 enc Try.prog Try.f7 Rows.fnExactSetLessRow.domain false) (Rows.fnExactSetLessSpec.post enc Try.prog Try.f7 false true false false) := by
 refine returnsInHanded_of_change_sized (C := Try.checked) own started (by kernel_rfl) Try.func7
  (ChangeSpec.witness6 (enc := enc) (C := Try.checked) false ⟨#[], #[.slice none 0 0, .slice none 0 0], []⟩ 8 (by kernel_rfl) (by kernel_rfl) (by kernel_rfl) (by kernel_rfl)) ?_
 intro W base args ds gs before hval0 hW hcnd hsz0 _
 have hval : ∀ (j : Nat) t v, Try.f7.params[j]? = some t → args[j]? = some v → Value.okWide Try.prog W .any base t v := hval0
 have hW' := hW
 obtain ⟨p, q, hA0, hV, rfl, hfz, hnd⟩ := hW
 have hA : DataW.TrodAll enc Try.prog W 0 (fun _ => true) true Try.f7.params.toList args.toList ds p := hA0
 rw [Try.params7] at hA hval
 obtain ⟨v0, vs0, d0, ds0, p0, q0, hargs, rfl, rfl, h0, r0⟩ := trodAll_cons hA
 obtain ⟨v1, vs1, d1, ds1, p1, q1, rfl, rfl, rfl, h1, r1⟩ := trodAll_cons r0
 obtain ⟨rfl, rfl, rfl⟩ := trodAll_nil r1
 obtain rfl : args = #[v0, v1] := by cases args; simp_all
 obtain ⟨rfl, rfl⟩ := trodVars_none hV
 have lt0 : ∀ x ∈ p0, x.block < W.heap.size := by obtain ⟨m, hm⟩ := h0; exact DataW.trod_lt m _ _ _ hm
 have k0 := h0
 obtain ⟨x0, K0, w0⟩ := open_arg (op22 W) h0
 obtain ⟨aa0, len0, cap0, rfl⟩ := okWide_slice Try.underlying22 (hval 0 22 v0 rfl rfl)
 obtain ⟨A0, c0, e0, hc0, hr0⟩ := K0
 obtain ⟨rfl, rfl, rfl⟩ := slice_of_cells e0
 have lt1 : ∀ x ∈ p1, x.block < W.heap.size := by obtain ⟨m, hm⟩ := h1; exact DataW.trod_lt m _ _ _ hm
 have k1 := h1
 obtain ⟨x1, K1, w1⟩ := open_arg (op22 W) h1
 obtain ⟨aa1, len1, cap1, rfl⟩ := okWide_slice Try.underlying22 (hval 1 22 v1 rfl rfl)
 obtain ⟨A1, c1, e1, hc1, hr1⟩ := K1
 obtain ⟨rfl, rfl, rfl⟩ := slice_of_cells e1
 obtain ⟨k, hp⟩ := Pure.FnExactSetLess x0 x1 w0 w1
 refine (laws_FnExactSetLess.calls k _ _ x0 _ _ x1 true W hr0 hc0 hr1 hc1 hp).mono ?_
 rintro e W' ⟨rfl, bel0⟩
 have bel : Below W.heap.size W W' := bel0
 exact ⟨_, rfl, _, _, _, [], _, [], hW', trodAll_mk1 (shut_bool Try.underlying4 _), (trodAll_cons_mk (Below.trod laidOut (by kernel_rfl) (of_decide_eq_true (by kernel_rfl)) k0 bel lt0) (trodAll_cons_mk (Below.trod laidOut (by kernel_rfl) (of_decide_eq_true (by kernel_rfl)) k1 bel lt1) trodAll_mk0)), rfl, bel.frame _, fun h => by cases h⟩
theorem over : Rows.fnExactSetLessRow.holds Try.pinned (OpenSpec.ofChange Rows.fnExactSetLessSpec) :=
 OpenClaim.holds_of_wide 7 Try.f7 rfl rfl rfl rfl rfl rfl rfl ⟨rfl, rfl, rfl, rfl, rfl⟩ rfl rfl rfl rfl rfl (by kernel_rfl) Try.func7 (by kernel_rfl)
  (of_decide_eq_true (by kernel_rfl)) (by unfold Func.isWrapper; first | (rw [if_pos (by decide +kernel)]; kernel_rfl) | (rw [if_neg (by decide +kernel)]; exact ⟨rfl, rfl⟩))
  (fun os started H enc _ => lifted os started H enc)
theorem proved : Rows.FnExactSetLessSaid := over
#print axioms proved
end Go.Proofs.Ytmdhedkgpgoneaa.fnExactSetLess
namespace Go.Proofs.Ytmdhedkgpgoneaa
/-- The row, under a short name, for the claim. -/
theorem fnExactSetLess_holds : Rows.FnExactSetLessSaid := fnExactSetLess.proved
end Go.Proofs.Ytmdhedkgpgoneaa
