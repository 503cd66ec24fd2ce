/- The law FnSetUnion (part 7 of 7): for every input the call answers true and its arguments read afterwards as before. No condition beyond the row's own. -/
import Derived.Laws.BitsLemmas
import Derived.Test.YtmdhedkgpgoneaaRows
import Derived.WalkKit
import Derived.ProofKit
import Derived.OpenShut
import Derived.ShutString
import Derived.ChangeOld
import Derived.Below
import Derived.SizedLaws
import Derived.Test.YtmdhedkgpgoneaaCFnSetUnion6
namespace Go.Proofs.Ytmdhedkgpgoneaa.Se
set_option linter.unusedSimpArgs false
set_option linter.unusedVariables false
open Go.RowKit Go.Proofs.Ytmdhedkgpgoneaa.Q Go.Proofs.Ytmdhedkgpgoneaa.Pure Go.Proofs.Ytmdhedkgpgoneaa.Si Go.Proofs.YtmdhedkgpgoneaaW.PrintWords Go.Proofs.YtmdhedkgpgoneaaW.PrintLast Go.Proofs.YtmdhedkgpgoneaaW.PrintMore
theorem wnat {n : Nat} (h : n ≤ 1000000000000) : wrap64 ((n : Int) + 1) = ((n + 1 : Nat) : Int) := by
 rw [w64 (by omega) (by omega)]; omega
theorem mid_len {α : Type} (p : List α) (x : α) (r : List α) : (p ++ x :: r).length = p.length + 1 + r.length := by simp; omega
theorem mid_get {α : Type} (p : List α) (x : α) (r : List α) (d : α) : (p ++ x :: r).getD p.length d = x := by
 rw [List.getD_eq_getElem?_getD, List.getElem?_append_right (Nat.le_refl _), Nat.sub_self]; rfl
theorem mid_app {α : Type} (p : List α) (x : α) (r : List α) : p ++ x :: r = (p ++ [x]) ++ r := by simp
theorem snoc_len {α : Type} (p : List α) (x : α) : (p ++ [x]).length = p.length + 1 := by simp
theorem rdB_mid (p r : List Bl) (x : Bl) : rd_T44 (p ++ x :: r) ((p.length : Nat) : Int) = x := mid_get p x r _
/-- A span, as the reference has it. -/
abbrev S6 := S63
def to6 (s : Sn) : S6 := ⟨s.1, s.2⟩
theorem rd6_mid (p r : List Sn) (x : Sn) : rd_T63 ((p ++ x :: r).map to6) ((p.length : Nat) : Int) = to6 x := by
 have h := mid_get (p.map to6) (to6 x) (r.map to6) z63
 rw [List.length_map] at h
 rw [List.map_append, List.map_cons]
 exact h
theorem rd6_last (p : List Sn) (x : Sn) : rd_T63 ((p ++ [x]).map to6) ((p.length : Nat) : Int) = to6 x := rd6_mid p [] x
theorem set6_last (p : List Sn) (x y : Sn) : ((p ++ [x]).map to6).set p.length (to6 y) = (p ++ [y]).map to6 := by
 rw [List.map_append, List.map_append, List.set_append_right _ _ (by rw [List.length_map]; exact Nat.le_refl _), List.length_map, Nat.sub_self]
 rfl
theorem ins_loop (x0 : List Bl) (x4 : Int) (x : Sn) : ∀ (r p : List Sn), p.length + r.length ≤ 100000 → ∃ c, c ≤ r.length + 1 ∧ ∀ k, spec_l2Spans.l1 (k + c) x0 ((p ++ r).map to6) x4 (p.length : Int) x.1 x.2 = spec_l2Spans.l0 k x0 ((p ++ insP x r).map to6) (wrap64 (x4 + 1)) := by
 intro r
 induction r with
 | nil =>
  intro p hl
  refine ⟨1, by simp, fun k => ?_⟩
  have hm : ((p ++ []).map to6) = p.map to6 := by rw [List.append_nil]
  have hml : (p.map to6).length = p.length := List.length_map ..
  have ht : (p.map to6).take p.length = p.map to6 := List.take_of_length_le (by omega)
  have hd : (p.map to6).drop p.length = [] := List.drop_eq_nil_of_le (by omega)
  rw [hm]
  simp only [spec_l2Spans.l1, Option.bind_some, List.nil_append, Int.toNat_natCast, ht, hd, List.append_nil]
  rw [if_neg (by omega), if_pos (by omega), if_pos (by omega), if_pos (by rw [List.length_nil]; omega), if_pos (by simp; simp at hl; omega), if_pos (by simp; simp at hl; omega)]
  show spec_l2Spans.l0 k x0 (p.map to6 ++ [to6 x]) _ = _
  rw [insP, List.map_append]
  rfl
 | cons s r ih =>
  intro p hl
  rw [List.length_cons] at hl
  have hml : ((p ++ s :: r).map to6).length = p.length + 1 + r.length := by rw [List.length_map, mid_len]
  by_cases hc : s.1 < x.1
  ·obtain ⟨c, hc1, hc2⟩ := ih (p ++ [s]) (by rw [snoc_len]; omega)
   refine ⟨c + 1, by rw [List.length_cons]; omega, fun k => ?_⟩
   rw [show k + (c + 1) = (k + c) + 1 by omega]
   simp only [spec_l2Spans.l1]
   rw [if_pos (by omega), if_pos (by omega), rd6_mid, if_pos (show (to6 s).f0 < x.1 from hc), wnat (by omega)]
   have h := hc2 k
   rw [snoc_len, ← mid_app] at h
   rw [h, insP, if_pos hc, ← mid_app]
  ·refine ⟨1, by omega, fun k => ?_⟩
   have hpl : p.length = (p.map to6).length := (List.length_map ..).symm
   have ht : ((p ++ s :: r).map to6).take p.length = p.map to6 := by rw [List.map_append, hpl, List.take_left]
   have hd : ((p ++ s :: r).map to6).drop p.length = (s :: r).map to6 := by rw [List.map_append, hpl, List.drop_left]
   simp only [spec_l2Spans.l1, Option.bind_some, List.nil_append, Int.toNat_natCast, ht, hd]
   rw [if_pos (by omega), if_pos (by omega), rd6_mid, if_neg (show ¬ (to6 s).f0 < x.1 from hc), if_pos (by omega), if_pos (by rw [List.length_nil]; omega), if_pos (by simp; omega), if_pos (by simp; omega)]
   rw [insP, if_neg hc]
   congr 1
   simp [to6]
theorem sort_loop : ∀ (r p : List Bl) (A : List Sn), A.length + r.length ≤ 1000 → p.length + r.length ≤ 1000 → okB r = true → ∃ c, c ≤ 1010 * r.length + 1 ∧ ∀ k, 50 ≤ k → spec_l2Spans.l0 (k + c) (p ++ r) (A.map to6) (p.length : Int) = spec_l2Spans.l2 k ((srt A (r.map spn)).map to6) [] 0 := by
 intro r
 induction r with
 | nil =>
  intro p A _ hl _
  refine ⟨1, by simp, fun k _ => ?_⟩
  simp only [spec_l2Spans.l0]
  rw [List.append_nil, if_neg (by omega)]
  rfl
 | cons b r ih =>
  intro p A h1 h2 hok
  rw [List.length_cons] at h1 h2
  have hb := okB_iff.1 hok b List.mem_cons_self
  obtain ⟨c1, hc1, hc2⟩ := ins_loop (p ++ b :: r) (p.length : Int) (spn b) A [] (by rw [List.length_nil]; omega)
  obtain ⟨c3, hc3, hc4⟩ := ih (p ++ [b]) (insP (spn b) A) (by rw [insP_length]; omega) (by rw [snoc_len]; omega) (okB_iff.2 fun x hx => okB_iff.1 hok x (List.mem_cons_of_mem _ hx))
  refine ⟨c3 + c1 + 1, by rw [List.length_cons]; omega, fun k hk => ?_⟩
  rw [show k + (c3 + c1 + 1) = (k + c3 + c1) + 1 by omega]
  simp only [spec_l2Spans.l0]
  rw [mid_len, if_pos (by omega), if_pos (by omega), rdB_mid, last_spec hb (by omega), Option.bind_some]
  have h := hc2 (k + c3)
  rw [List.nil_append, List.nil_append, List.length_nil] at h
  have h' := hc4 k hk
  rw [← mid_app, snoc_len] at h'
  rw [show (0 : Int) = ((0 : Nat) : Int) from rfl]
  refine Eq.trans h ?_
  rw [wnat (by omega), h']
  rfl
theorem merge_loop : ∀ (R P xa : List Sn) (t : Sn), P.length + R.length ≤ 100000 → xa.length + R.length ≤ 100000 → (∀ s ∈ R, 0 ≤ s.2 ∧ s.2 ≤ 4294967295) → 0 ≤ t.2 → t.2 ≤ 4294967295 → ∀ k, 2 * R.length + 1 ≤ k →
  spec_l2Spans.l2 k ((P ++ R).map to6) ((xa ++ [t]).map to6) (P.length : Int) = some ((mrgG xa t R).map to6) := by
 intro R
 induction R with
 | nil =>
  intro P xa t hp ha _ _ _ k hk
  obtain ⟨k, rfl⟩ : ∃ j, k = j + 1 := ⟨k - 1, by omega⟩
  simp only [spec_l2Spans.l2]
  rw [if_neg (by simp)]
  rfl
 | cons s R ih =>
  intro P xa t hp ha hR t0 t1 k hk
  rw [List.length_cons] at hp ha hk
  obtain ⟨k, rfl⟩ : ∃ j, k = j + 2 := ⟨k - 2, by omega⟩
  obtain ⟨s0, s1⟩ := hR s List.mem_cons_self
  have hml : ((P ++ s :: R).map to6).length = P.length + 1 + R.length := by rw [List.length_map, mid_len]
  have hal : ((xa ++ [t]).map to6).length = xa.length + 1 := by rw [List.length_map, snoc_len]
  have hw : wrap64 (((xa.length + 1 : Nat) : Int) - 1) = (xa.length : Int) := by rw [w64 (by omega) (by omega)]; omega
  simp only [spec_l2Spans.l2]
  rw [hml, hal, hw, if_pos (by omega), if_pos (by omega), if_pos (by omega), if_pos (by omega), if_pos (by omega), rd6_mid, rd6_last]
  show spec_l2Spans.j3 (k + 1) _ _ _ _ (decide (s.1 ≤ wrap64 (t.2 + 1))) = _
  rw [w64 (by omega) (by omega)]
  simp only [spec_l2Spans.j3]
  by_cases hc : s.1 ≤ t.2 + 1
  ·rw [if_pos (decide_eq_true hc), hml, hal, if_pos (by omega), if_pos (by omega), if_pos (by omega), if_pos (by omega), rd6_mid, rd6_last, Int.toNat_natCast, wnat (by omega), mrgG, if_pos hc]
   by_cases hd : t.2 < s.2
   ·rw [if_pos (show (to6 s).f1 > (to6 t).f1 from hd), if_pos hd]
    show spec_l2Spans.l2 k _ (((xa ++ [t]).map to6).set xa.length (to6 (t.1, s.2))) _ = _
    rw [set6_last]
    have h := ih (P ++ [s]) xa (t.1, s.2) (by rw [snoc_len]; omega) (by omega) (fun u hu => hR u (List.mem_cons_of_mem _ hu)) s0 s1 k (by omega)
    rwa [← mid_app, snoc_len] at h
   ·rw [if_neg (show ¬ (to6 s).f1 > (to6 t).f1 from hd), if_neg hd]
    have h := ih (P ++ [s]) xa t (by rw [snoc_len]; omega) (by omega) (fun u hu => hR u (List.mem_cons_of_mem _ hu)) t0 t1 k (by omega)
    rwa [← mid_app, snoc_len] at h
  ·rw [if_neg (by simpa using hc), hml, mrgG, if_neg hc, if_pos (by omega), if_pos (by omega), rd6_mid, Option.bind_some, if_pos (by simp; omega), wnat (by omega)]
   have h := ih (P ++ [s]) (xa ++ [t]) s (by rw [snoc_len]; omega) (by rw [snoc_len]; omega) (fun u hu => hR u (List.mem_cons_of_mem _ hu)) s0 s1 k (by omega)
   rw [← mid_app, snoc_len] at h
   rw [← h, List.map_append (l₁ := xa ++ [t])]
   rfl
theorem merge_all (S : List Sn) (hl : S.length ≤ 100000) (hS : ∀ s ∈ S, 0 ≤ s.2 ∧ s.2 ≤ 4294967295) {k : Nat} (hk : 2 * S.length + 1 ≤ k) : spec_l2Spans.l2 k (S.map to6) [] 0 = some ((mrg S).map to6) := by
 cases S with
 | nil =>
  obtain ⟨k, rfl⟩ : ∃ j, k = j + 1 := ⟨k - 1, by omega⟩
  simp only [spec_l2Spans.l2]
  rfl
 | cons s R =>
  rw [List.length_cons] at hl hk
  obtain ⟨k, rfl⟩ : ∃ j, k = j + 2 := ⟨k - 2, by omega⟩
  obtain ⟨s0, s1⟩ := hS s List.mem_cons_self
  have hml : ((s :: R).map to6).length = 1 + R.length := by rw [List.length_map, List.length_cons]; omega
  have hw : wrap64 ((([] : List S6).length : Int) - 1) = -1 := by rw [List.length_nil, w64 (by omega) (by omega)]; rfl
  have hz : rd_T63 ((s :: R).map to6) 0 = to6 s := rfl
  simp only [spec_l2Spans.l2, spec_l2Spans.j3]
  rw [hml, hw, if_pos (by omega), if_neg (by omega), if_neg (by simp), if_pos (by omega), if_pos (by omega), hz, Option.bind_some, if_pos (by simp), w64 (x := 0 + 1) (by omega) (by omega)]
  have h := merge_loop R [s] [] s (by simp; omega) (by simp; omega) (fun u hu => hS u (List.mem_cons_of_mem _ hu)) s0 s1 k (by omega)
  exact h
theorem l2Spans_ev {l : List Bl} (h : okB l = true) (hl : l.length ≤ 1000) {k : Nat} (hk : 2000000 ≤ k) : spec_l2Spans.f k l = some ((ca l).map to6) := by
 obtain ⟨c, hc1, hc2⟩ := sort_loop l [] [] (by simpa using hl) (by simpa using hl) h
 have e := hc2 (k - c) (by omega)
 rw [show k - c + c = k by omega] at e
 unfold spec_l2Spans.f
 refine Eq.trans e ?_
 have hsl := srt_length (l.map spn) []
 rw [List.length_map, List.length_nil] at hsl
 refine merge_all _ (by omega) (fun s hs => ?_) (by omega)
 rcases (mem_srt s (l.map spn) []).1 hs with hs | hs
 ·exact absurd hs (by simp)
 ·obtain ⟨s0, s1, s2⟩ := spns_ok h s hs
  exact ⟨by omega, s2⟩
theorem cov_any : ∀ (n m : Nat) (a b : Int), (b + 1 - a).toNat ≤ n → (b + 1 - a).toNat ≤ m → cov n a b = cov m a b
 | 0, m, a, b, hn, hm => by rw [cov_nil (n := 0) (by omega), cov_nil (n := m) (by omega)]
 | n + 1, 0, a, b, hn, hm => by rw [cov_nil (n := n + 1) (by omega), cov_nil (n := 0) (by omega)]
 | n + 1, m + 1, a, b, hn, hm => by
  unfold cov
  by_cases hab : a ≤ b
  ·have hp := sz_pos (mb a b)
   rw [if_pos hab, if_pos hab, cov_any n m (a + sz (mb a b)) b (by omega) (by omega)]
  ·rw [if_neg hab, if_neg hab]
theorem cov_len {a b : Int} (n : Nat) (h : a ≤ b + 1) (hn : (b + 1 - a).toNat ≤ n) : ((cov n a b).length : Int) ≤ b + 1 - a := by
 have h1 := sumB_length (cov n a b)
 rwa [cov_sum n a b hn h] at h1
theorem cover_loop : ∀ (R P : List Sn) (acc : List Bl), P.length + R.length ≤ 1000000 → (∀ s ∈ R, Ok s) → (acc.length : Int) + wid R ≤ 5000000000 → ∀ k : Nat, wid R + 2 * R.length + 200 ≤ (k : Int) →
  spec_l2Cover.l0 k ((P ++ R).map to6) acc (P.length : Int) = some (acc ++ coS R) := by
 intro R
 induction R with
 | nil =>
  intro P acc _ _ _ k hk
  rw [wid_nil] at hk
  obtain ⟨k, rfl⟩ : ∃ j, k = j + 1 := ⟨k - 1, by omega⟩
  simp only [spec_l2Cover.l0]
  rw [if_neg (by simp), coS_nil, List.append_nil]
 | cons s R ih =>
  intro P acc hl hR hw k hk
  rw [List.length_cons] at hl hk
  have hN := NN_eq
  obtain ⟨s0, s1, s2⟩ := hR s List.mem_cons_self
  have hw0 : 0 ≤ wid R := by
   have h1 := sumB_length (coS R)
   rw [coS_sum (fun t ht => hR t (List.mem_cons_of_mem _ ht))] at h1
   omega
  rw [wid_cons] at hw hk
  obtain ⟨k, rfl⟩ : ∃ j, k = j + 1 := ⟨k - 1, by omega⟩
  have hml : ((P ++ s :: R).map to6).length = P.length + 1 + R.length := by rw [List.length_map, mid_len]
  simp only [spec_l2Cover.l0]
  rw [hml, if_pos (by omega), if_pos (by omega), rd6_mid]
  have hg : ((P ++ s :: R).map to6).getD P.length z63 = to6 s := by
   have := rd6_mid P R s
   unfold rd_T63 at this
   rwa [Int.toNat_natCast] at this
  obtain ⟨c, hc1, hc2⟩ := cover_l1 ((P ++ s :: R).map to6) P.length (by omega) (by omega) s.2 (by rw [hg]; rfl) s2 (s.2 + 1 - s.1).toNat s.1 acc s0 (Nat.le_refl _) (by omega)
  have e := hc2 (k - c) (by omega)
  rw [show k - c + c = k by omega, cov_any _ NN s.1 s.2 (Nat.le_refl _) (by omega)] at e
  refine Eq.trans e ?_
  have hcl := cov_len (a := s.1) (b := s.2) NN (by omega) (by omega)
  have h := ih (P ++ [s]) (acc ++ cov NN s.1 s.2) (by rw [snoc_len]; omega) (fun t ht => hR t (List.mem_cons_of_mem _ ht)) (by rw [List.length_append]; push_cast; omega) (k - c) (by omega)
  rw [← mid_app, snoc_len] at h
  rw [h, coS_cons, List.append_assoc]
theorem cover_ev' {C : List Sn} (h : Si.Can C) (hl : C.length ≤ 100000) {k : Nat} (hk : 5000000000 ≤ k) : spec_l2Cover.f k (C.map to6) = some (coS C) := by
 have hw := wid_le h
 unfold spec_l2Cover.f
 have e := cover_loop C [] [] (by simp; omega) h.1 (by simp; omega) k (by omega)
 exact e
/-- Two lists of blocks, compared one by one. -/
theorem all_eq (a b : List Bl) (h : a.length = b.length) : ((List.range a.length).all fun i => decide (rd_T44 a (i : Int) = rd_T44 b (i : Int))) = decide (a = b) := by
 rw [Bool.eq_iff_iff, List.all_eq_true, decide_eq_true_iff]
 constructor
 ·intro hh
  refine List.ext_getElem h fun i h1 h2 => ?_
  have := of_decide_eq_true (hh i (List.mem_range.2 h1))
  unfold rd_T44 at this
  rw [Int.toNat_natCast, List.getD_eq_getElem?_getD, List.getD_eq_getElem?_getD, List.getElem?_eq_getElem h1, List.getElem?_eq_getElem h2] at this
  exact this
 ·rintro rfl i _
  exact decide_eq_true rfl
theorem ne_blk (x y : Bl) : (!(x.f0 == y.f0) || !(x.f1 == y.f1)) = !decide (x = y) := by
 by_cases h : x = y
 ·subst h; simp
 ·rw [decide_eq_false h]
  by_cases h0 : x.f0 = y.f0
  ·have h1 : ¬ x.f1 = y.f1 := fun h1 => h (bl_ext h0 h1)
   simp [h0, h1]
  ·simp [h0]
theorem same_ev (a b : List Bl) (hl : a.length ≤ 1000000000) {k : Nat} (hk : a.length + 10 < k) : spec_l2Same.f k a b = some (decide (a = b)) := by
 unfold spec_l2Same.f
 by_cases h : a.length = b.length
 ·rw [if_pos (by omega), ← all_eq a b h]
  have hs := scan_loop (fun k i => spec_l2Same.l0 k a b i) a.length 1 (fun i => decide (rd_T44 a (i : Int) = rd_T44 b (i : Int))) false true (fun k i hi _ _ hg => ?_) (fun k i hi _ _ hg => ?_) (fun k _ => ?_) k (by omega)
  ·refine Eq.trans hs ?_
   generalize ((List.range a.length).all fun i => decide (rd_T44 a (i : Int) = rd_T44 b (i : Int))) = q
   cases q <;> rfl
  ·simp only [spec_l2Same.l0]
   rw [if_pos (by omega), if_pos (by omega), if_pos (by omega), ne_blk, hg, if_neg (by simp), wnat (by omega)]
  ·simp only [spec_l2Same.l0]
   rw [if_pos (by omega), if_pos (by omega), if_pos (by omega), ne_blk, hg, if_pos (by simp)]
  ·simp only [spec_l2Same.l0]
   rw [if_neg (by omega)]
 ·rw [if_neg (by omega), decide_eq_false fun e => h (by rw [e])]
theorem okB_range (l : List Bl) : ((List.range l.length).all fun i => bok (rd_T44 l (i : Int)).f0 (rd_T44 l (i : Int)).f1) = okB l := by
 rw [Bool.eq_iff_iff, List.all_eq_true, okB_iff]
 have hg : ∀ i (h : i < l.length), rd_T44 l (i : Int) = l[i] := fun i h => by
  unfold rd_T44
  rw [Int.toNat_natCast, List.getD_eq_getElem?_getD, List.getElem?_eq_getElem h]; rfl
 constructor
 ·intro hh b hb
  obtain ⟨i, hi, rfl⟩ := List.mem_iff_getElem.1 hb
  have := hh i (List.mem_range.2 hi)
  rwa [hg i hi] at this
 ·intro hh i hi
  rw [hg i (List.mem_range.1 hi)]
  exact hh _ (List.getElem_mem _)
theorem blocks_spec (l : List Bl) (hl : l.length ≤ 1000000000) {k : Nat} (hk : l.length + 50 < k) : spec_l2Blocks.f k l = some (okB l && decide (l.length ≤ 64)) := by
 unfold spec_l2Blocks.f
 rw [← okB_range l]
 have hs := scan_loop (fun k i => spec_l2Blocks.l0 k l i) l.length 42 (fun i => bok (rd_T44 l (i : Int)).f0 (rd_T44 l (i : Int)).f1) false (decide (l.length ≤ 64)) (fun k i hi hk _ hg => ?_) (fun k i hi hk _ hg => ?_) (fun k _ => ?_) k (by omega)
 ·refine Eq.trans hs ?_
  generalize ((List.range l.length).all fun i => bok (rd_T44 l (i : Int)).f0 (rd_T44 l (i : Int)).f1) = q
  cases q <;> rfl
 ·simp only [spec_l2Blocks.l0]
  rw [if_pos (by omega), if_pos (by omega), ok_spec _ _ (by omega), Option.bind_some, hg, if_pos rfl, wnat (by omega)]
 ·simp only [spec_l2Blocks.l0]
  rw [if_pos (by omega), if_pos (by omega), ok_spec _ _ (by omega), Option.bind_some, hg, if_neg (by simp)]
 ·simp only [spec_l2Blocks.l0]
  rw [if_neg (by omega)]
  congr 1
  rw [Bool.eq_iff_iff, decide_eq_true_iff, decide_eq_true_iff]
  omega
theorem room_spec (l : List Bl) : spec_l2Room.f l = some (room l) := by
 unfold spec_l2Room.f room
 by_cases h : l.length ≤ 64
 ·rw [if_neg (by omega), if_pos h]
 ·rw [if_pos (by omega), if_neg h]
theorem setOk_spec (l : List Bl) (hl : l.length ≤ 100000000) {k : Nat} (hk : 5000000000 ≤ k) : spec_SetOk.f k l = some (isSet l) := by
 unfold spec_SetOk.f isSet
 rw [blocks_spec l (by omega) (by omega), Option.bind_some]
 by_cases h : okB l = true
 ·by_cases h2 : l.length ≤ 64
  ·have hcl := ca_length l
   rw [h, if_pos (by simp [h2]), l2Spans_ev h (by omega) (by omega), Option.bind_some, cover_ev' (ca_can h) (by omega) hk, Option.bind_some, same_ev _ _ (by omega) (by omega), Option.bind_some, decide_eq_true h2, Bool.true_and, Bool.true_and]
   congr 1
   rw [Bool.eq_iff_iff, decide_eq_true_iff, decide_eq_true_iff]
   exact eq_comm
  ·rw [if_neg (by simp [h2]), decide_eq_false h2]
   simp
 ·rw [if_neg (by simp [h])]
  simp [h]
theorem setOf_spec (l : List Bl) (hl : l.length ≤ 100000000) {k : Nat} (hk : 5000000000 ≤ k) : spec_SetOf.f k l = some (ofB l) := by
 unfold spec_SetOf.f ofB
 rw [blocks_spec l (by omega) (by omega), Option.bind_some]
 by_cases h : okB l = true ∧ l.length ≤ 64
 ·have hcl := ca_length l
  have h2 := h.2
  rw [if_pos (by simp [h.1, h.2]), if_pos h, l2Spans_ev h.1 (by omega) (by omega), Option.bind_some, cover_ev' (ca_can h.1) (by omega) hk, Option.bind_some, room_spec, Option.bind_some]
 ·rw [if_neg (by simpa using h), if_neg h]
theorem both_in (xa bs : List Sn) (hbl : bs.length ≤ 1000) (Q T : List Sn) (a : Sn) (hQ : xa = Q ++ a :: T) : ∀ (R P acc : List Sn), bs = P ++ R → acc.length + R.length ≤ 1000000 → ∀ k,
  spec_l2Both.l1 (k + (2 * R.length + 1)) (xa.map to6) (bs.map to6) (acc.map to6) (Q.length : Int) (P.length : Int) = spec_l2Both.l0 k (xa.map to6) (bs.map to6) ((acc ++ meets a R).map to6) (wrap64 ((Q.length : Int) + 1)) := by
 intro R
 induction R with
 | nil =>
  intro P acc hb _ k
  have hml : (bs.map to6).length = P.length := by rw [List.length_map, hb, List.append_nil]
  rw [show k + (2 * ([] : List Sn).length + 1) = k + 1 by simp]
  simp only [spec_l2Both.l1]
  rw [hml, if_neg (by omega), show meets a [] = [] from rfl, List.append_nil]
 | cons b R ih =>
  intro P acc hb hl k
  rw [List.length_cons] at hl
  have hml : (bs.map to6).length = P.length + 1 + R.length := by rw [List.length_map, hb, mid_len]
  have hal : (xa.map to6).length = Q.length + 1 + T.length := by rw [List.length_map, hQ, mid_len]
  have hra : rd_T63 (xa.map to6) (Q.length : Int) = to6 a := by rw [hQ, rd6_mid]
  have hrb : rd_T63 (bs.map to6) (P.length : Int) = to6 b := by rw [hb, rd6_mid]
  have hbl' : P.length + 1 + R.length ≤ 1000 := by rw [← mid_len P b R, ← hb]; exact hbl
  rw [show k + (2 * (b :: R).length + 1) = (k + (2 * R.length + 1)) + 1 + 1 by rw [List.length_cons]; omega]
  have hj : spec_l2Both.l1 ((k + (2 * R.length + 1)) + 1 + 1) (xa.map to6) (bs.map to6) (acc.map to6) (Q.length : Int) (P.length : Int) = spec_l2Both.j2 ((k + (2 * R.length + 1)) + 1) (xa.map to6) (bs.map to6) (acc.map to6) (Q.length : Int) (P.length : Int) (hi2 a.1 b.1) a.2 := by
   simp only [spec_l2Both.l1]
   rw [hml, hal, if_pos (by omega), if_pos (by omega), if_pos (by omega), if_pos (by omega), hra, hrb]
   unfold hi2
   by_cases hc : a.1 < b.1
   ·rw [if_pos (show (to6 b).f0 > (to6 a).f0 from hc), if_pos hc]; rfl
   ·rw [if_neg (show ¬ (to6 b).f0 > (to6 a).f0 from hc), if_neg hc]; rfl
  rw [hj]
  have hstep : spec_l2Both.j2 ((k + (2 * R.length + 1)) + 1) (xa.map to6) (bs.map to6) (acc.map to6) (Q.length : Int) (P.length : Int) (hi2 a.1 b.1) a.2 = spec_l2Both.l1 (k + (2 * R.length + 1)) (xa.map to6) (bs.map to6) ((acc ++ meet a b).map to6) (Q.length : Int) ((P ++ [b]).length : Int) := by
   simp only [spec_l2Both.j2]
   rw [hml, if_pos (by omega), if_pos (by omega), hrb, wnat (by omega), snoc_len, List.length_map]
   unfold meet lo2
   by_cases hc : b.2 < a.2
   ·rw [if_pos (show (to6 b).f1 < a.2 from hc), if_pos hc]
    by_cases hd : hi2 a.1 b.1 ≤ b.2
    ·rw [if_pos (show hi2 a.1 b.1 ≤ (to6 b).f1 from hd), if_pos hd, if_pos (by omega), List.map_append]
     rfl
    ·rw [if_neg (show ¬ hi2 a.1 b.1 ≤ (to6 b).f1 from hd), if_neg hd, List.append_nil]
   ·rw [if_neg (show ¬ (to6 b).f1 < a.2 from hc), if_neg hc]
    by_cases hd : hi2 a.1 b.1 ≤ a.2
    ·rw [if_pos hd, if_pos hd, if_pos (by omega), List.map_append]
     rfl
    ·rw [if_neg hd, if_neg hd, List.append_nil]
  rw [hstep]
  have hm := meet_length a b
  rw [ih (P ++ [b]) (acc ++ meet a b) (by rw [hb, mid_app]) (by rw [List.length_append]; omega) k]
  rw [show meets a (b :: R) = meet a b ++ meets a R from List.flatMap_cons .., List.append_assoc]
theorem both_out (xa bs : List Sn) (hbl : bs.length ≤ 100) : ∀ (R P acc : List Sn), xa = P ++ R → P.length + R.length ≤ 100 → acc.length + 100 * R.length ≤ 100000 → ∀ k, 300 * R.length + 1 ≤ k →
  spec_l2Both.l0 k (xa.map to6) (bs.map to6) (acc.map to6) (P.length : Int) = some ((acc ++ both R bs).map to6) := by
 intro R
 induction R with
 | nil =>
  intro P acc ha _ _ k hk
  obtain ⟨k, rfl⟩ : ∃ j, k = j + 1 := ⟨k - 1, by omega⟩
  simp only [spec_l2Both.l0]
  rw [if_neg (by rw [List.length_map, ha, List.append_nil]; omega), show both [] bs = [] from rfl, List.append_nil]
 | cons a R ih =>
  intro P acc ha hl hc k hk
  rw [List.length_cons] at hl hc hk
  obtain ⟨k, rfl⟩ : ∃ j, k = j + (2 * bs.length + 1) + 1 := ⟨k - (2 * bs.length + 1) - 1, by omega⟩
  have hal : (xa.map to6).length = P.length + 1 + R.length := by rw [List.length_map, ha, mid_len]
  have hm := meets_length a bs
  simp only [spec_l2Both.l0]
  rw [hal, if_pos (by omega)]
  refine Eq.trans (both_in xa bs (by omega) P R a ha bs [] acc rfl (by omega) k) ?_
  rw [wnat (by omega)]
  have h := ih (P ++ [a]) (acc ++ meets a bs) (by rw [ha, mid_app]) (by rw [snoc_len]; omega) (by rw [List.length_append]; omega) k (by omega)
  rw [snoc_len] at h
  rw [h, show both (a :: R) bs = meets a bs ++ both R bs from List.flatMap_cons .., List.append_assoc]
theorem l2Both_ev {xa bs : List Sn} (ha : xa.length ≤ 100) (hb : bs.length ≤ 100) {k : Nat} (hk : 100000 ≤ k) : spec_l2Both.f k (xa.map to6) (bs.map to6) = some ((both xa bs).map to6) := by
 unfold spec_l2Both.f
 exact both_out xa bs hb xa [] [] rfl (by simpa using ha) (by simp; omega) k (by omega)
theorem both_len64 {a b : List Sn} (ha : a.length ≤ 66) (hb : b.length ≤ 66) : (both a b).length ≤ 5000 := by
 have h1 := both_length b a
 have h2 : a.length * b.length ≤ 66 * 66 := Nat.mul_le_mul ha hb
 omega
theorem setBoth_spec (a b : List Bl) (ha : a.length ≤ 100000000) (hb : b.length ≤ 100000000) {k : Nat} (hk : 5000000001 ≤ k) : spec_SetBoth.f k a b = some (dual both a b) := by
 obtain ⟨k, rfl⟩ : ∃ j, k = j + 1 := ⟨k - 1, by omega⟩
 unfold spec_SetBoth.f dual
 rw [setOk_spec a ha (by omega), Option.bind_some]
 by_cases h1 : isSet a = true
 ·rw [if_pos h1, setOk_spec b hb (by omega), Option.bind_some]
  simp only [spec_SetBoth.j0]
  by_cases h2 : isSet b = true
  ·obtain ⟨a1, a2, a3⟩ := isSet_iff.1 h1
   obtain ⟨b1, b2, b3⟩ := isSet_iff.1 h2
   have hal := ca_length a
   have hbl := ca_length b
   have hl := both_len64 (a := ca a) (b := ca b) (by omega) (by omega)
   rw [if_neg (by simp [h2]), if_pos ⟨h1, h2⟩, l2Spans_ev a1 (by omega) (by omega), Option.bind_some, l2Spans_ev b1 (by omega) (by omega), Option.bind_some, l2Both_ev (by omega) (by omega) (by omega), Option.bind_some, cover_ev' (both_can (ca_can a1) (ca_can b1)) (by omega) (by omega), Option.bind_some, room_spec, Option.bind_some]
  ·rw [if_pos (by simp [h2]), if_neg (fun h => h2 h.2)]
 ·rw [if_neg h1]
  simp only [spec_SetBoth.j0]
  rw [if_pos trivial, if_neg (fun h => h1 h.1)]
end Go.Proofs.Ytmdhedkgpgoneaa.Se

namespace Go.Proofs.Ytmdhedkgpgoneaa.Se
set_option linter.unusedSimpArgs false
set_option linter.unusedVariables false
open Go.RowKit Go.Sort Go.Proofs.Ytmdhedkgpgoneaa.Q Go.Proofs.Ytmdhedkgpgoneaa.Pure Go.Proofs.Ytmdhedkgpgoneaa.Si Go.Proofs.YtmdhedkgpgoneaaW.PrintWords Go.Proofs.YtmdhedkgpgoneaaW.PrintLast Go.Proofs.YtmdhedkgpgoneaaW.PrintMore
/-- A span, as the program has it. -/
abbrev S5 := S55
def to5 (s : Sn) : S5 := ⟨s.1, s.2⟩
def of5 (s : S5) : Sn := (s.f0, s.f1)
theorem of5_to5 (s : Sn) : of5 (to5 s) = s := rfl
theorem rd5_mid (p r : List Sn) (x : Sn) : rd_T55 ((p ++ x :: r).map to5) ((p.length : Nat) : Int) = to5 x := by
 have h := mid_get (p.map to5) (to5 x) (r.map to5) z55
 rw [List.length_map] at h
 rw [List.map_append, List.map_cons]
 exact h
theorem rd5_last (p : List Sn) (x : Sn) : rd_T55 ((p ++ [x]).map to5) ((p.length : Nat) : Int) = to5 x := rd5_mid p [] x
theorem set5_last (p : List Sn) (x y : Sn) : ((p ++ [x]).map to5).set p.length (to5 y) = (p ++ [y]).map to5 := by
 rw [List.map_append, List.map_append, List.set_append_right _ _ (by rw [List.length_map]; exact Nat.le_refl _), List.length_map, Nat.sub_self]
 rfl
theorem snoc5 (p : List Sn) (x : Sn) : p.map to5 ++ [to5 x] = (p ++ [x]).map to5 := by rw [List.map_append]; rfl
theorem spans_loop : ∀ (R P : List Bl) (acc : List Sn), okB R = true → P.length + R.length ≤ 100000000 → acc.length + R.length ≤ 100000000 → ∀ k, R.length + 1 ≤ k →
  impl_spans.l0 k (acc.map to5) (P ++ R) ((P ++ R).length : Int) (P.length : Int) = some ((acc ++ R.map spn).map to5) := by
 intro R
 induction R with
 | nil =>
  intro P acc _ _ _ k hk
  obtain ⟨k, rfl⟩ : ∃ j, k = j + 1 := ⟨k - 1, by omega⟩
  simp only [impl_spans.l0]
  rw [if_neg (by simp), List.map_nil, List.append_nil]
 | cons b R ih =>
  intro P acc hok hl ha k hk
  rw [List.length_cons] at hl ha hk
  obtain ⟨k, rfl⟩ : ∃ j, k = j + 1 := ⟨k - 1, by omega⟩
  obtain ⟨b0, b1, b2, b3, _⟩ := bok_iff.1 (okB_iff.1 hok b List.mem_cons_self)
  simp only [impl_spans.l0]
  rw [mid_len, if_pos (by omega), if_pos (by omega), if_pos (by omega), rdB_mid, last_impl b0 (by omega) b2 b3, Option.bind_some, List.length_map, if_pos (by omega), wnat (by omega)]
  have h := ih (P ++ [b]) (acc ++ [spn b]) (okB_iff.2 fun x hx => okB_iff.1 hok x (List.mem_cons_of_mem _ hx)) (by rw [snoc_len]; omega) (by rw [snoc_len]; omega) k (by omega)
  rw [← mid_app, snoc_len, mid_len, ← snoc5] at h
  refine Eq.trans h ?_
  rw [List.map_cons, List.append_assoc]
  rfl
theorem spans_ev {l : List Bl} (h : okB l = true) (hl : l.length ≤ 100000000) {k : Nat} (hk : l.length + 1 ≤ k) : impl_spans.f k l = some ((l.map spn).map to5) := by
 unfold impl_spans.f
 exact spans_loop l [] [] h (by simpa using hl) (by simpa using hl) k hk
theorem union_loop : ∀ (R P xa : List Sn) (t : Sn), P.length + R.length ≤ 100000000 → xa.length + R.length ≤ 100000000 → (∀ s ∈ R, 0 ≤ s.2 ∧ s.2 ≤ 4294967295) → 0 ≤ t.2 → t.2 ≤ 4294967295 → ∀ k, R.length + 1 ≤ k →
  impl_union.l0 k ((xa ++ [t]).map to5) ((P ++ R).map to5) ((P ++ R).length : Int) (P.length : Int) = some ((mrgG xa t R).map to5) := by
 intro R
 induction R with
 | nil =>
  intro P xa t hp ha _ _ _ k hk
  obtain ⟨k, rfl⟩ : ∃ j, k = j + 1 := ⟨k - 1, by omega⟩
  simp only [impl_union.l0]
  rw [if_neg (by simp)]
  rfl
 | cons s R ih =>
  intro P xa t hp ha hR t0 t1 k hk
  rw [List.length_cons] at hp ha hk
  obtain ⟨k, rfl⟩ : ∃ j, k = j + 1 := ⟨k - 1, by omega⟩
  obtain ⟨s0, s1⟩ := hR s List.mem_cons_self
  have hml : ((P ++ s :: R).map to5).length = P.length + 1 + R.length := by rw [List.length_map, mid_len]
  have hal : ((xa ++ [t]).map to5).length = xa.length + 1 := by rw [List.length_map, snoc_len]
  have hw : wrap64 (((xa.length + 1 : Nat) : Int) - 1) = (xa.length : Int) := by rw [w64 (by omega) (by omega)]; omega
  simp only [impl_union.l0]
  rw [hml, mid_len, hal, hw, if_pos (by omega), if_pos (by omega), if_pos (by omega), if_pos (by omega), if_pos (by omega), if_pos (by omega), rd5_mid, rd5_last, Int.toNat_natCast, wnat (by omega)]
  show (if s.1 ≤ wrap64 (t.2 + 1) then impl_union.l0 k (((xa ++ [t]).map to5).set xa.length (to5 (t.1, mx t.2 s.2))) _ _ _ else (if xa.length + 1 < 8796093022208 then impl_union.l0 k ((xa ++ [t]).map to5 ++ [to5 s]) _ _ _ else none)) = _
  rw [w64 (by omega) (by omega), mrgG]
  by_cases hc : s.1 ≤ t.2 + 1
  ·rw [if_pos hc, if_pos hc, set5_last]
   have hm : 0 ≤ mx t.2 s.2 ∧ mx t.2 s.2 ≤ 4294967295 := by unfold mx; split <;> omega
   have h := ih (P ++ [s]) xa (t.1, mx t.2 s.2) (by rw [snoc_len]; omega) (by omega) (fun u hu => hR u (List.mem_cons_of_mem _ hu)) hm.1 hm.2 k (by omega)
   rw [← mid_app, snoc_len, mid_len] at h
   exact h
  ·rw [if_neg hc, if_neg hc, if_pos (by omega), snoc5]
   have h := ih (P ++ [s]) (xa ++ [t]) s (by rw [snoc_len]; omega) (by rw [snoc_len]; omega) (fun u hu => hR u (List.mem_cons_of_mem _ hu)) s0 s1 k (by omega)
   rw [← mid_app P s R, snoc_len P s, mid_len] at h
   exact h
theorem union_all (S : List Sn) (hl : S.length ≤ 100000000) (hS : ∀ s ∈ S, 0 ≤ s.2 ∧ s.2 ≤ 4294967295) {k : Nat} (hk : S.length + 1 ≤ k) : impl_union.l0 k [] (S.map to5) (S.length : Int) 0 = some ((mrg S).map to5) := by
 cases S with
 | nil =>
  obtain ⟨k, rfl⟩ : ∃ j, k = j + 1 := ⟨k - 1, by omega⟩
  simp only [impl_union.l0]
  rfl
 | cons s R =>
  rw [List.length_cons] at hl hk
  obtain ⟨k, rfl⟩ : ∃ j, k = j + 1 := ⟨k - 1, by omega⟩
  obtain ⟨s0, s1⟩ := hS s List.mem_cons_self
  have hml : ((s :: R).map to5).length = 1 + R.length := by rw [List.length_map, List.length_cons]; omega
  have hml' : (s :: R).length = 1 + R.length := by rw [List.length_cons]; omega
  have hz : rd_T55 ((s :: R).map to5) 0 = to5 s := rfl
  simp only [impl_union.l0]
  rw [hml, hml', if_pos (by omega), if_pos (by omega), if_pos (by omega), if_neg (by simp), hz, if_pos (by simp), w64 (x := 0 + 1) (by omega) (by omega)]
  have h := union_loop R [s] [] s (by simp; omega) (by simp; omega) (fun u hu => hS u (List.mem_cons_of_mem _ hu)) s0 s1 k (by omega)
  rw [show ([s] ++ R).length = 1 + R.length by simp; omega] at h
  exact h
theorem sort_perm (xs : List S5) : (Un.sortSp xs).Perm xs := by
 have h := (Un.sortSp_raw xs).1.2.2
 have hl := Un.sortSp_length xs
 have e1 : ((Un.sortSp xs).toArray.extract 0 xs.toArray.size).toList = Un.sortSp xs := by
  rw [List.size_toArray, ← hl]; simp
 have e2 : (xs.toArray.extract 0 xs.toArray.size).toList = xs := by simp
 rwa [e1, e2] at h
theorem sort_sorted (xs : List S5) : (Un.sortSp xs).Pairwise fun s t => s.f0 ≤ t.f0 := by
 have h := (Un.sortSp_raw xs).2
 have hl := Un.sortSp_length xs
 rw [List.pairwise_iff_getElem]
 intro i j hi hj hij
 have h1 := h i j (Nat.zero_le _) hij (by rw [List.size_toArray, ← hl]; exact hj)
 rw [Un.ltSp, getElem!_pos _ j (by simpa using hj), getElem!_pos _ i (by simpa using hi)] at h1
 have h2 := of_decide_eq_false h1
 simp only [List.getElem_toArray] at h2
 omega
theorem union_ev {xs : List Sn} (h : ∀ s ∈ xs, Ok s) (hl : xs.length ≤ 100000000) {k : Nat} (hk : xs.length + 1 ≤ k) : impl_union.f k (xs.map to5) = some ((cn xs).map to5) := by
 unfold impl_union.f slices_SortedFunc_span.f
 rw [if_pos (by rw [List.length_map]; omega), Option.bind_some]
 have hp := sort_perm (xs.map to5)
 have hs := sort_sorted (xs.map to5)
 have hsl := Un.sortSp_length (xs.map to5)
 rw [List.length_map] at hsl
 generalize Un.sortSp (xs.map to5) = ys at hp hs hsl ⊢
 obtain ⟨zs, rfl⟩ : ∃ zs : List Sn, ys = zs.map to5 := ⟨ys.map of5, by rw [List.map_map, show (to5 ∘ of5) = id from rfl, List.map_id]⟩
 have hm : ∀ s, s ∈ zs ↔ s ∈ xs := fun s => by
  have := hp.mem_iff (a := to5 s)
  rw [List.mem_map, List.mem_map] at this
  constructor
  ·intro hz
   obtain ⟨u, hu, e⟩ := this.1 ⟨s, hz, rfl⟩
   rw [← of5_to5 s, ← e]
   exact hu
  ·intro hz
   obtain ⟨u, hu, e⟩ := this.2 ⟨s, hz, rfl⟩
   rw [← of5_to5 s, ← e]
   exact hu
 have hz : zs.Pairwise fun s t => s.1 ≤ t.1 := (List.pairwise_map.1 hs).imp fun h => h
 rw [List.length_map] at hsl ⊢
 rw [union_all zs (by omega) (fun s hs => by obtain ⟨s0, s1, s2⟩ := h s ((hm s).1 hs); exact ⟨by omega, s2⟩) (by omega)]
 obtain ⟨c1, c2⟩ := mrg_spec (xs := zs) (fun s hs => h s ((hm s).1 hs)) hz
 rw [cn_of h c1 fun p => by rw [c2]; exact memB_congr hm p]
theorem set_loop : ∀ (R P : List Sn) (acc : List Bl), P.length + R.length ≤ 100000000 → (∀ s ∈ R, Ok s) → (acc.length : Int) + wid R ≤ 5000000000 → ∀ k : Nat, R.length + 171798691930 ≤ k →
  impl_set.l0 k acc ((P ++ R).map to5) ((P ++ R).length : Int) (P.length : Int) = some (acc ++ coS R) := by
 intro R
 induction R with
 | nil =>
  intro P acc _ _ _ k hk
  obtain ⟨k, rfl⟩ : ∃ j, k = j + 1 := ⟨k - 1, by omega⟩
  simp only [impl_set.l0]
  rw [if_neg (by simp), coS_nil, List.append_nil]
 | cons s R ih =>
  intro P acc hl hR hw k hk
  rw [List.length_cons] at hl hk
  have hN := NN_eq
  obtain ⟨s0, s1, s2⟩ := hR s List.mem_cons_self
  have hw0 : 0 ≤ wid R := by
   have h1 := sumB_length (coS R)
   rw [coS_sum (fun t ht => hR t (List.mem_cons_of_mem _ ht))] at h1
   omega
  rw [wid_cons] at hw
  obtain ⟨k, rfl⟩ : ∃ j, k = j + 1 := ⟨k - 1, by omega⟩
  have hml : ((P ++ s :: R).map to5).length = P.length + 1 + R.length := by rw [List.length_map, mid_len]
  have hcl := cov_len (a := s.1) (b := s.2) NN (by omega) (by omega)
  simp only [impl_set.l0]
  rw [hml, mid_len, if_pos (by omega), if_pos (by omega), if_pos (by omega), rd5_mid, wnat (by omega)]
  show ((impl_span_blocks.f k s.1 s.2).bind fun t106 => _) = _
  rw [blocks_ev s0 s2 (by omega), Option.bind_some, if_pos (by omega)]
  have h := ih (P ++ [s]) (acc ++ cov NN s.1 s.2) (by rw [snoc_len]; omega) (fun t ht => hR t (List.mem_cons_of_mem _ ht)) (by rw [List.length_append]; push_cast; omega) k (by omega)
  rw [← mid_app, snoc_len, mid_len] at h
  rw [h, coS_cons, List.append_assoc]
theorem set_ev {xs : List Sn} (h : ∀ s ∈ xs, Ok s) (hl : xs.length ≤ 100000000) {k : Nat} (hk : 171900000000 ≤ k) : impl_set.f k (xs.map to5) = some (coS (cn xs)) := by
 have hc := (cn_spec h).1
 have hw := wid_le hc
 have hcl := cn_length xs
 unfold impl_set.f
 rw [union_ev h hl (by omega), Option.bind_some, List.length_map]
 exact set_loop (cn xs) [] [] (by simp; omega) hc.1 (by simp; omega) k (by omega)
theorem index_loop : ∀ (R P : List Bl), P.length + R.length ≤ 1000000000 → ∀ k, R.length + 1 ≤ k → ∃ v, slices_IndexFunc_Block.l0 k (P ++ R) ((P ++ R).length : Int) (P.length : Int) = some v ∧ decide (v ≥ 0) = !okB R := by
 intro R
 induction R with
 | nil =>
  intro P _ k hk
  obtain ⟨k, rfl⟩ : ∃ j, k = j + 1 := ⟨k - 1, by omega⟩
  refine ⟨-1, ?_, by simp [okB]⟩
  simp only [slices_IndexFunc_Block.l0]
  rw [if_neg (by simp)]
 | cons b R ih =>
  intro P hl k hk
  rw [List.length_cons] at hl hk
  obtain ⟨k, rfl⟩ : ∃ j, k = j + 1 := ⟨k - 1, by omega⟩
  simp only [slices_IndexFunc_Block.l0, impl_blocksOk_1.f]
  rw [mid_len, if_pos (by omega), if_pos (by omega), if_pos (by omega), rdB_mid, ok_impl, Option.bind_some, Option.bind_some, wnat (by omega)]
  by_cases hb : bok b.f0 b.f1 = true
  ·obtain ⟨v, hv, he⟩ := ih (P ++ [b]) (by rw [snoc_len]; omega) k (by omega)
   rw [← mid_app, snoc_len, mid_len] at hv
   refine ⟨v, ?_, ?_⟩
   ·rw [if_neg (by simp [hb])]; exact hv
   ·rw [he]; simp [okB, hb]
  ·refine ⟨P.length, ?_, ?_⟩
   ·rw [if_pos (by simp [hb])]
   ·have : okB (b :: R) = false := by simp [okB, hb]
    rw [this]
    simp
theorem blocks_impl (l : List Bl) (hl : l.length ≤ 1000000000) {k : Nat} (hk : 100 ≤ k) : impl_blocksOk.f k l = some (okB l && decide (l.length ≤ 64)) := by
 unfold impl_blocksOk.f slices_ContainsFunc_Block.f slices_IndexFunc_Block.f
 by_cases h : l.length ≤ 64
 ·obtain ⟨v, hv, he⟩ := index_loop l [] (by simpa using hl) k (by omega)
  rw [if_pos (by omega)]
  have hv' : slices_IndexFunc_Block.l0 k l (l.length : Int) 0 = some v := hv
  rw [hv', Option.bind_some, Option.bind_some, he, decide_eq_true h, Bool.not_not, Bool.and_true]
 ·rw [if_neg (by omega), decide_eq_false h, Bool.and_false]
theorem room_impl (l : List Bl) : impl_limited.f l = some (room l) := by
 unfold impl_limited.f room
 by_cases h : l.length ≤ 64
 ·rw [if_neg (by omega), if_pos h]
 ·rw [if_pos (by omega), if_neg h]
theorem equal_ev (a b : List Bl) (hl : a.length ≤ 10000000000) {k : Nat} (hk : a.length + 10 < k) : slices_Equal_Block.f k a b = some (decide (a = b)) := by
 unfold slices_Equal_Block.f
 by_cases h : a.length = b.length
 ·rw [if_pos (by omega), ← all_eq a b h]
  have hs := scan_loop (fun k i => slices_Equal_Block.l0 k a b (a.length : Int) i) a.length 1 (fun i => decide (rd_T44 a (i : Int) = rd_T44 b (i : Int))) false true (fun k i hi _ _ hg => ?_) (fun k i hi _ _ hg => ?_) (fun k _ => ?_) k (by omega)
  ·refine Eq.trans hs ?_
   generalize ((List.range a.length).all fun i => decide (rd_T44 a (i : Int) = rd_T44 b (i : Int))) = q
   cases q <;> rfl
  ·simp only [slices_Equal_Block.l0]
   rw [if_pos (by omega), if_pos (by omega), if_pos (by omega), if_pos (by omega), ne_blk, hg, if_neg (by simp), wnat (by omega)]
  ·simp only [slices_Equal_Block.l0]
   rw [if_pos (by omega), if_pos (by omega), if_pos (by omega), if_pos (by omega), ne_blk, hg, if_pos (by simp)]
  ·simp only [slices_Equal_Block.l0]
   rw [if_neg (by omega)]
 ·rw [if_neg (by omega), decide_eq_false fun e => h (by rw [e])]
theorem setOk_impl (l : List Bl) (hl : l.length ≤ 100000000) {k : Nat} (hk : 171900000000 ≤ k) : impl_SetOk.f k l = some (isSet l) := by
 unfold impl_SetOk.f isSet
 rw [blocks_impl l (by omega) (by omega), Option.bind_some]
 by_cases h : okB l = true
 ·by_cases h2 : l.length ≤ 64
  ·have hcl := coS_length (ca_can h)
   rw [h, if_pos (by simp [h2]), spans_ev h (by omega) (by omega), Option.bind_some, set_ev (spns_ok h) (by rw [List.length_map]; omega) hk, Option.bind_some, equal_ev _ _ (by unfold ca at hcl; omega) (by unfold ca at hcl; omega), Option.bind_some, decide_eq_true h2, Bool.true_and, Bool.true_and]
   rfl
  ·rw [if_neg (by simp [h2]), decide_eq_false h2]
   simp
 ·rw [if_neg (by simp [h])]
  simp [h]
theorem setOf_impl (l : List Bl) (hl : l.length ≤ 100000000) {k : Nat} (hk : 171900000000 ≤ k) : impl_SetOf.f k l = some (ofB l) := by
 unfold impl_SetOf.f ofB
 rw [blocks_impl l (by omega) (by omega), Option.bind_some]
 by_cases h : okB l = true ∧ l.length ≤ 64
 ·have h2 := h.2
  rw [if_pos (by simp [h.1, h.2]), if_pos h, spans_ev h.1 (by omega) (by omega), Option.bind_some, set_ev (spns_ok h.1) (by rw [List.length_map]; omega) hk, Option.bind_some, room_impl, Option.bind_some]
  rfl
 ·rw [if_neg (by simpa using h), if_neg h]
theorem isize_loop : ∀ (R P : List Bl) (n : Int), P.length + R.length ≤ 1000000 → okB R = true → 0 ≤ n → n + sumB R ≤ 4611686018427387904 → ∀ k, R.length + 50 ≤ k →
  impl_SetSize.l0 k n (P ++ R) ((P ++ R).length : Int) (P.length : Int) = some (n + sumB R) := by
 intro R
 induction R with
 | nil =>
  intro P n _ _ _ _ k hk
  obtain ⟨k, rfl⟩ : ∃ j, k = j + 1 := ⟨k - 1, by omega⟩
  simp only [impl_SetSize.l0]
  rw [if_neg (by simp), sumB_nil, Int.add_zero]
 | cons b R ih =>
  intro P n hl hR h0 hn k hk
  rw [List.length_cons] at hl hk
  obtain ⟨k, rfl⟩ : ∃ j, k = j + 1 := ⟨k - 1, by omega⟩
  obtain ⟨b0, b1, b2, b3, _⟩ := bok_iff.1 (okB_iff.1 hR b List.mem_cons_self)
  have hp := sz_pos b.f1
  have hs := sumB_length R
  rw [sumB_cons] at hn
  simp only [impl_SetSize.l0]
  rw [mid_len, if_pos (by omega), if_pos (by omega), if_pos (by omega), rdB_mid, size_impl b2 b3, Option.bind_some, w64 (x := n + sz b.f1) (by omega) (by omega), wnat (by omega)]
  have h := ih (P ++ [b]) (n + sz b.f1) (by rw [snoc_len]; omega) (okB_iff.2 fun x hx => okB_iff.1 hR x (List.mem_cons_of_mem _ hx)) (by omega) (by omega) k (by omega)
  rw [← mid_app, snoc_len, mid_len] at h
  rw [h, sumB_cons]
  congr 1
  omega
theorem setSize_impl (l : List Bl) (hl : l.length ≤ 100000000) {k : Nat} (hk : 171900000000 ≤ k) : impl_SetSize.f k l = some (szB l) := by
 unfold impl_SetSize.f szB
 rw [setOk_impl l hl hk, Option.bind_some]
 by_cases h : isSet l = true
 ·obtain ⟨h1, h2, _⟩ := isSet_iff.1 h
  have hw := wid_le (ca_can h1)
  have e := isize_loop l [] 0 (by simp; omega) h1 (by omega) (by rw [sum_set h]; omega) k (by omega)
  rw [if_pos h, if_pos h]
  refine Eq.trans e ?_
  rw [Int.zero_add]
 ·rw [if_neg h, if_neg h]
theorem ib_in (x1 : List Bl) (x21 : List S5) (x22 x23 : Int) (ys : List Sn) (hy : ys.length ≤ 1000) (a : Sn) : ∀ (R P acc : List Sn), ys = P ++ R → acc.length + R.length ≤ 1000000 → ∀ k,
  impl_SetBoth.l1 (k + (R.length + 1)) x1 (acc.map to5) x21 x22 x23 (ys.map to5) (ys.length : Int) (P.length : Int) a.1 a.2 = impl_SetBoth.l0 k x1 ((acc ++ meets a R).map to5) x21 x22 (wrap64 (x23 + 1)) := by
 intro R
 induction R with
 | nil =>
  intro P acc hb _ k
  have hyl : ys.length = P.length := by rw [hb, List.append_nil]
  rw [show k + (([] : List Sn).length + 1) = k + 1 by simp]
  simp only [impl_SetBoth.l1]
  rw [hyl, if_neg (by omega), show meets a [] = [] from rfl, List.append_nil]
 | cons b R ih =>
  intro P acc hb hl k
  rw [List.length_cons] at hl
  have hyl : ys.length = P.length + 1 + R.length := by rw [hb, mid_len]
  have hrb : rd_T55 (ys.map to5) (P.length : Int) = to5 b := by rw [hb, rd5_mid]
  have hm := meet_length a b
  rw [show k + ((b :: R).length + 1) = (k + (R.length + 1)) + 1 by rw [List.length_cons]; omega]
  have hstep : ∀ k', impl_SetBoth.l1 (k' + 1) x1 (acc.map to5) x21 x22 x23 (ys.map to5) (ys.length : Int) (P.length : Int) a.1 a.2 = impl_SetBoth.l1 k' x1 ((acc ++ meet a b).map to5) x21 x22 x23 (ys.map to5) (ys.length : Int) ((P ++ [b]).length : Int) a.1 a.2 := by
   intro k'
   simp only [impl_SetBoth.l1]
   rw [List.length_map, List.length_map, hyl, if_pos (by omega), if_pos (by omega), if_pos (by omega), hrb, wnat (by omega), snoc_len]
   show (if hi2 a.1 b.1 ≤ lo2 a.2 b.2 then (if acc.length < 8796093022208 then impl_SetBoth.l1 _ x1 (acc.map to5 ++ [to5 (hi2 a.1 b.1, lo2 a.2 b.2)]) _ _ _ _ _ _ _ _ else none) else impl_SetBoth.l1 _ _ _ _ _ _ _ _ _ _ _) = _
   unfold meet
   by_cases hd : hi2 a.1 b.1 ≤ lo2 a.2 b.2
   ·rw [if_pos hd, if_pos hd, if_pos (by omega), snoc5]
   ·rw [if_neg hd, if_neg hd, List.append_nil]
  rw [hstep, ih (P ++ [b]) (acc ++ meet a b) (by rw [hb, mid_app]) (by rw [List.length_append]; omega) k]
  rw [show meets a (b :: R) = meet a b ++ meets a R from List.flatMap_cons .., List.append_assoc]
theorem ib_out {b : List Bl} (hb : okB b = true) (hbl : b.length ≤ 100) (xs : List Sn) (hx : ∀ s ∈ xs, Ok s) : ∀ (R P acc : List Sn), xs = P ++ R → P.length + R.length ≤ 100 → acc.length + 100 * R.length ≤ 100000 → (∀ s ∈ acc, Ok s) → ∀ k, 200 * R.length + 171900000001 ≤ k →
  impl_SetBoth.l0 k b (acc.map to5) (xs.map to5) (xs.length : Int) (P.length : Int) = some (room (coS (cn (acc ++ both R (b.map spn))))) := by
 intro R
 induction R with
 | nil =>
  intro P acc ha _ hc hok k hk
  rw [List.length_nil] at hc
  obtain ⟨k, rfl⟩ : ∃ j, k = j + 1 := ⟨k - 1, by omega⟩
  simp only [impl_SetBoth.l0]
  rw [if_neg (by rw [ha, List.append_nil]; omega), set_ev hok (by omega) (by omega), Option.bind_some, room_impl, Option.bind_some, show both [] (b.map spn) = [] from rfl, List.append_nil]
 | cons a R ih =>
  intro P acc ha hl hc hok k hk
  rw [List.length_cons] at hl hc hk
  have hyl : (b.map spn).length = b.length := List.length_map ..
  obtain ⟨k, rfl⟩ : ∃ j, k = j + ((b.map spn).length + 1) + 1 := ⟨k - ((b.map spn).length + 1) - 1, by omega⟩
  have hxl : xs.length = P.length + 1 + R.length := by rw [ha, mid_len]
  have hm := meets_length a (b.map spn)
  have hra : rd_T55 (xs.map to5) (P.length : Int) = to5 a := by rw [ha, rd5_mid]
  simp only [impl_SetBoth.l0]
  rw [List.length_map, hxl, if_pos (by omega), if_pos (by omega), if_pos (by omega), spans_ev hb (by omega) (by omega), Option.bind_some, hra]
  have e := ib_in b (xs.map to5) ((P.length + 1 + R.length : Nat) : Int) (P.length : Int) (b.map spn) (by omega) a (b.map spn) [] acc rfl (by omega) k
  rw [List.length_map (f := to5)]
  refine Eq.trans e ?_
  rw [wnat (by omega)]
  have hok' : ∀ s ∈ acc ++ meets a (b.map spn), Ok s := by
   intro s hs
   rcases List.mem_append.1 hs with hs | hs
   ·exact hok s hs
   ·refine both_ok (xa := [a]) (bs := b.map spn) (fun t ht => ?_) s ?_
    ·rw [List.mem_singleton.1 ht]
     exact hx a (by rw [ha]; simp)
    ·show s ∈ [a].flatMap _
     simpa using hs
  have h := ih (P ++ [a]) (acc ++ meets a (b.map spn)) (by rw [ha, mid_app]) (by rw [snoc_len]; omega) (by rw [List.length_append]; omega) hok' k (by omega)
  rw [snoc_len, hxl] at h
  rw [h, show both (a :: R) (b.map spn) = meets a (b.map spn) ++ both R (b.map spn) from List.flatMap_cons .., List.append_assoc]
theorem setBoth_impl (a b : List Bl) (ha : a.length ≤ 100000000) (hb : b.length ≤ 100000000) {k : Nat} (hk : 172000000000 ≤ k) : impl_SetBoth.f k a b = some (dual both a b) := by
 obtain ⟨k, rfl⟩ : ∃ j, k = j + 1 := ⟨k - 1, by omega⟩
 unfold impl_SetBoth.f dual
 rw [setOk_impl a ha (by omega), Option.bind_some]
 by_cases h1 : isSet a = true
 ·rw [if_pos h1, setOk_impl b hb (by omega), Option.bind_some]
  simp only [impl_SetBoth.j0]
  by_cases h2 : isSet b = true
  ·obtain ⟨a1, a2, a3⟩ := isSet_iff.1 h1
   obtain ⟨b1, b2, b3⟩ := isSet_iff.1 h2
   rw [if_neg (by simp [h2]), if_pos ⟨h1, h2⟩, spans_ev a1 (by omega) (by omega), Option.bind_some, List.length_map]
   have e := ib_out b1 (by omega) (a.map spn) (spns_ok a1) (a.map spn) [] [] rfl (by simp; omega) (by simp; omega) (fun s hs => absurd hs (by simp)) k (by rw [List.length_map]; omega)
   refine Eq.trans e ?_
   rw [List.nil_append, cn_both (spns_ok a1) (spns_ok b1)]
   rfl
  ·rw [if_pos (by simp [h2]), if_neg (fun h => h2 h.2)]
 ·rw [if_neg h1]
  simp only [impl_SetBoth.j0]
  rw [if_pos trivial, if_neg (fun h => h1 h.1)]
end Go.Proofs.Ytmdhedkgpgoneaa.Se

namespace Go.Proofs.Ytmdhedkgpgoneaa.Pure
set_option linter.unusedSimpArgs false
open Go.RowKit Go.Proofs.Ytmdhedkgpgoneaa.Q Go.Proofs.Ytmdhedkgpgoneaa.Open Go.Proofs.YtmdhedkgpgoneaaW.PrintWords Go.Proofs.YtmdhedkgpgoneaaW.PrintLast Go.Proofs.YtmdhedkgpgoneaaW.PrintMore
/-- Bytes, at most two thousand of them. -/
def rdOk (xs : List Int) : Prop := (∀ y ∈ xs, 0 ≤ y ∧ y ≤ 255) ∧ xs.length ≤ 2000
theorem fits_u8 {y : Int} (h : Fits .u8 y) : 0 ≤ y ∧ y ≤ 255 := by
 have g : (decide (IntKind.u8.min ≤ y) && decide (y ≤ IntKind.u8.max)) = true := h
 rw [Bool.and_eq_true, decide_eq_true_eq, decide_eq_true_eq] at g
 exact g
theorem xor_nn {a b : Int} (ha : 0 ≤ a) (ha' : a < 4611686018427387904) (hb : 0 ≤ b) (hb' : b < 4611686018427387904) : 0 ≤ Go.bits .xor .i64 a b := by
 obtain ⟨m, rfl⟩ := Int.eq_ofNat_of_zero_le ha
 obtain ⟨n, rfl⟩ := Int.eq_ofNat_of_zero_le hb
 have hm : m < 2 ^ 62 := by omega
 have hn : n < 2 ^ 62 := by omega
 have hx : m ^^^ n < 2 ^ 62 := Nat.xor_lt_two_pow hm hn
 simp only [Go.bits, BitVec.ofInt_natCast, BitVec.toNat_xor, BitVec.toNat_ofNat]
 rw [Nat.mod_eq_of_lt (show m < 2 ^ IntKind.i64.bits by show m < 2 ^ 64; omega), Nat.mod_eq_of_lt (show n < 2 ^ IntKind.i64.bits by show n < 2 ^ 64; omega), IntKind.wrap_i64]
 generalize m ^^^ n = z at hx
 omega
theorem rd_byte {xs : List Int} (hx : rdOk xs) (i : Int) : 0 ≤ rd xs i ∧ rd xs i ≤ 255 := by
 show 0 ≤ xs.getD i.toNat 0 ∧ xs.getD i.toNat 0 ≤ 255
 rw [List.getD_eq_getElem?_getD]
 by_cases h : i.toNat < xs.length
 ·rw [List.getElem?_eq_getElem h]
  exact hx.1 _ (List.getElem_mem h)
 ·rw [List.getElem?_eq_none (by omega)]
  decide
theorem tmod_in {a n : Int} (ha : 0 ≤ a) (hn : 1 ≤ n) : 0 ≤ Int.tmod a n ∧ Int.tmod a n < n := ⟨Int.tmod_nonneg _ ha, Int.tmod_lt_of_pos _ (by omega)⟩
theorem pick_ev {xs : List Int} (hx : rdOk xs) {s n : Int} (hs : 0 ≤ s) (hs' : s ≤ 1000000000) (hn : 1 ≤ n) {k : Nat} (hk : 1 ≤ k) : ∃ v, spec_l1Rd_pick.f k xs s n = some (v, s + 1) ∧ 0 ≤ v ∧ v < n := by
 obtain ⟨k, rfl⟩ : ∃ m, k = m + 1 := ⟨k - 1, by omega⟩
 have hl := hx.2
 unfold spec_l1Rd_pick.f
 rw [if_neg (by omega), w64 (x := s + 1) (by omega) (by omega)]
 simp only [spec_l1Rd_pick.j0]
 rw [w64 (x := s + 1 - 1) (by omega) (by omega), show s + 1 - 1 = s by omega]
 by_cases h0 : xs.length = 0
 ·rw [if_pos (by simp [h0])]
  exact ⟨0, rfl, by omega, by omega⟩
 ·rw [if_neg (by simp; intro h; exact h0 (by rw [h]; rfl))]
  by_cases h1 : s < (xs.length : Int)
  ·obtain ⟨g0, g1⟩ := rd_byte hx s
   rw [if_pos h1, if_pos hs, if_neg (by omega), w64 (by omega) (by omega)]
   obtain ⟨t0, t1⟩ := tmod_in g0 hn
   exact ⟨_, rfl, t0, t1⟩
  ·rw [if_neg h1, if_neg (by omega)]
   obtain ⟨i0, i1⟩ := tmod_in (n := (xs.length : Int)) hs (by omega)
   rw [if_pos i0, if_pos i1, w64 (x := s * 7) (by omega) (by omega), w64 (x := s * 7 + 3) (by omega) (by omega)]
   obtain ⟨j0, j1⟩ := tmod_in (a := s * 7 + 3) (n := (xs.length : Int)) (by omega) (by omega)
   rw [if_pos j0, if_pos j1, if_neg (by omega)]
   obtain ⟨g0, g1⟩ := rd_byte hx (Int.tmod s (xs.length : Int))
   obtain ⟨f0, f1⟩ := rd_byte hx (Int.tmod (s * 7 + 3) (xs.length : Int))
   have q0 : 0 ≤ Int.tdiv s (xs.length : Int) := Int.tdiv_nonneg hs (by omega)
   have q1 : Int.tdiv s (xs.length : Int) ≤ s := by
    rw [Int.tdiv_eq_ediv_of_nonneg hs]
    exact Int.ediv_le_self _ hs
   generalize rd xs (Int.tmod s (xs.length : Int)) = g at *
   generalize rd xs (Int.tmod (s * 7 + 3) (xs.length : Int)) = f at *
   generalize Int.tdiv s (xs.length : Int) = q at *
   rw [w64 (x := g) (by omega) (by omega), w64 (x := f) (by omega) (by omega), w64 (x := q) (by omega) (by omega), w64 (x := g * 131) (by omega) (by omega), w64 (x := f * 1117) (by omega) (by omega), w64 (x := s * 29) (by omega) (by omega), w64 (x := q * 53) (by omega) (by omega), w64 (x := g * 131 + f * 1117) (by omega) (by omega), w64 (x := g * 131 + f * 1117 + s * 29) (by omega) (by omega), w64 (x := g * 131 + f * 1117 + s * 29 + q * 53) (by omega) (by omega)]
   have hA : 0 ≤ g * 131 + f * 1117 + s * 29 + q * 53 := by omega
   have hA' : g * 131 + f * 1117 + s * 29 + q * 53 < 4611686018427387904 := by omega
   generalize g * 131 + f * 1117 + s * 29 + q * 53 = A at hA hA'
   rw [Int.tdiv_eq_ediv_of_nonneg hA, w64 (x := A / 64) (by omega) (by omega)]
   obtain ⟨t0, t1⟩ := tmod_in (xor_nn hA hA' (b := A / 64) (by omega) (by omega)) hn
   exact ⟨_, rfl, t0, t1⟩
theorem one_ev {xs : List Int} (hx : rdOk xs) {s : Int} (hs : 0 ≤ s) (hs' : s ≤ 1000000000) (l : List Int) (hl : 1 ≤ l.length) {k : Nat} (hk : 1 ≤ k) : ∃ v, spec_l1Rd_one.f k xs s l = some (v, s + 1) ∧ v ∈ l := by
 unfold spec_l1Rd_one.f
 obtain ⟨v, e, v0, v1⟩ := pick_ev hx hs hs' (n := (l.length : Int)) (by omega) hk
 rw [e, Option.bind_some]
 dsimp only
 rw [if_pos v0, if_pos v1]
 refine ⟨_, rfl, ?_⟩
 show l.getD v.toNat 0 ∈ l
 rw [List.getD_eq_getElem?_getD, List.getElem?_eq_getElem (by omega)]
 exact List.getElem_mem _
theorem drAddr_ev {xs : List Int} (hx : rdOk xs) {s : Int} (hs : 0 ≤ s) (hs' : s ≤ 999999990) {k : Nat} (hk : 1 ≤ k) : ∃ a, spec_l12Addr.f k xs s = some (a, s + 6) ∧ 0 ≤ a ∧ a ≤ 4294967295 := by
 unfold spec_l12Addr.f
 obtain ⟨v0, e0, l0, u0⟩ := pick_ev hx (s := s) (n := 256) (by omega) (by omega) (by omega) hk
 obtain ⟨v1, e1, l1, u1⟩ := pick_ev hx (s := s + 1) (n := 8) (by omega) (by omega) (by omega) hk
 obtain ⟨v2, e2, l2, u2⟩ := pick_ev hx (s := s + 1 + 1) (n := 16) (by omega) (by omega) (by omega) hk
 obtain ⟨v3, e3, l3, u3⟩ := pick_ev hx (s := s + 1 + 1 + 1) (n := 256) (by omega) (by omega) (by omega) hk
 obtain ⟨v4, e4, l4, u4⟩ := pick_ev hx (s := s + 1 + 1 + 1 + 1) (n := 64) (by omega) (by omega) (by omega) hk
 simp only [e0, e1, e2, e3, e4, Option.bind_some]
 rw [w64 (x := 167772160 + v0) (by omega) (by omega), w64 (x := 167772160 + v1) (by omega) (by omega), w64 (x := 167772416 + v2) (by omega) (by omega), w64 (x := 3232235520 + v3) (by omega) (by omega), w64 (x := v4 * 256) (by omega) (by omega), w64 (x := 2886729728 + v4 * 256) (by omega) (by omega)]
 obtain ⟨v, e, hv⟩ := one_ev hx (s := s + 1 + 1 + 1 + 1 + 1) (by omega) (by omega) [167772160 + v0, 167772160 + v1, 167772416 + v2, 3232235520 + v3, 0, 4294967295, 184549375, 2886729728 + v4 * 256] (by simp) hk
 rw [e, Option.bind_some]
 refine ⟨v, by show some (v, s + 1 + 1 + 1 + 1 + 1 + 1) = _; congr 2; omega, ?_⟩
 simp only [List.mem_cons, List.not_mem_nil, or_false] at hv
 omega
theorem over_ev {a b : Int} (h0 : 0 ≤ a) (h1 : a ≤ 4294967295) (h2 : 0 ≤ b) (h3 : b ≤ 32) {k : Nat} (hk : 40 ≤ k) : spec_l1Over.f k a b = some (a / sz b * sz b, b) ∧ bok (a / sz b * sz b) b = true := by
 have hp := sz_pos b
 have hd : sz b * (a / sz b) + a % sz b = a := Int.mul_ediv_add_emod a (sz b)
 have hr := Int.emod_nonneg a (show sz b ≠ 0 by omega)
 have hq : 0 ≤ a / sz b := Int.ediv_nonneg h0 (by omega)
 have hq' : a / sz b ≤ a := Int.ediv_le_self _ h0
 have hm : 0 ≤ a / sz b * sz b := Int.mul_nonneg hq (by omega)
 rw [Int.mul_comm] at hd
 constructor
 ·unfold spec_l1Over.f
  rw [size_spec h2 h3 hk, Option.bind_some, if_neg (by omega), Option.bind_some, Int.tdiv_eq_ediv_of_nonneg h0, w64 (x := a / sz b) (by omega) (by omega), w64 (by omega) (by omega)]
 ·rw [bok_iff]
  exact ⟨hm, by omega, h2, h3, Int.mul_emod_left _ _⟩
theorem drBlock_ev {xs : List Int} (hx : rdOk xs) {s : Int} (hs : 0 ≤ s) (hs' : s ≤ 999999980) {k : Nat} (hk : 40 ≤ k) : ∃ a b, spec_l12Block.f k xs s = some (a, b, s + 7) ∧ bok a b = true := by
 unfold spec_l12Block.f
 obtain ⟨a, ea, a0, a1⟩ := drAddr_ev hx hs (by omega) (show 1 ≤ k by omega)
 obtain ⟨b, eb, hb⟩ := one_ev hx (s := s + 6) (by omega) (by omega) [32, 31, 30, 28, 24, 24, 25, 16, 8, 1, 0, 29] (by simp) (show 1 ≤ k by omega)
 simp only [List.mem_cons, List.not_mem_nil, or_false] at hb
 obtain ⟨eo, ho⟩ := over_ev (b := b) a0 a1 (by omega) (by omega) hk
 rw [ea, Option.bind_some]
 dsimp only
 rw [eb, Option.bind_some]
 dsimp only
 rw [eo, Option.bind_some]
 exact ⟨_, _, by show some (_, _, s + 6 + 1) = _; congr 3; omega, ho⟩
theorem drAnyBlock_ev {xs : List Int} (hx : rdOk xs) {s : Int} (hs : 0 ≤ s) (hs' : s ≤ 999999970) {k : Nat} (hk : 40 ≤ k) : ∃ a b t, spec_l12AnyBlock.f k xs s = some (a, b, t) ∧ s ≤ t ∧ t ≤ s + 10 ∧ -1 ≤ a ∧ a ≤ 8589934592 ∧ -1 ≤ b ∧ b ≤ 33 := by
 unfold spec_l12AnyBlock.f
 obtain ⟨a, b, eb, hb⟩ := drBlock_ev hx hs (by omega) hk
 obtain ⟨h0, h1, h2, h3, _⟩ := bok_iff.1 hb
 obtain ⟨v, ev, v0, v1⟩ := pick_ev hx (s := s + 7) (n := 16) (by omega) (by omega) (by omega) (show 1 ≤ k by omega)
 rw [eb, Option.bind_some]
 dsimp only
 rw [ev, Option.bind_some]
 dsimp only
 by_cases g0 : v = 0
 ·obtain ⟨c, ec, hc⟩ := one_ev hx (s := s + 7 + 1) (by omega) (by omega) [1, -1, 256] (by simp) (show 1 ≤ k by omega)
  simp only [List.mem_cons, List.not_mem_nil, or_false] at hc
  rw [if_pos g0, ec, Option.bind_some]
  exact ⟨_, _, _, rfl, by omega, by omega, by rw [w64 (by dsimp only; omega) (by dsimp only; omega)]; dsimp only; omega, by rw [w64 (by dsimp only; omega) (by dsimp only; omega)]; dsimp only; omega, by omega, by omega⟩
 ·rw [if_neg g0]
  by_cases g1 : v = 1
  ·obtain ⟨c, ec, hc⟩ := one_ev hx (s := s + 7 + 1) (by omega) (by omega) [-1, 33, 0, 32] (by simp) (show 1 ≤ k by omega)
   simp only [List.mem_cons, List.not_mem_nil, or_false] at hc
   rw [if_pos g1, ec, Option.bind_some]
   exact ⟨_, _, _, rfl, by omega, by omega, by omega, by omega, by dsimp only; omega, by dsimp only; omega⟩
  ·rw [if_neg g1]
   exact ⟨_, _, _, rfl, by omega, by omega, by omega, by omega, by omega, by omega⟩
theorem open_ev {xs : List Int} (hx : ∀ y ∈ xs, 0 ≤ y ∧ y ≤ 255) : ∃ ys, spec_l1Open.f xs = some (ys, 0) ∧ rdOk ys := by
 unfold spec_l1Open.f
 by_cases h : (xs.length : Int) > 2000
 ·rw [if_pos h, if_pos (by omega)]
  exact ⟨_, rfl, fun y hy => hx y (List.mem_of_mem_take hy), by rw [List.length_take]; omega⟩
 ·rw [if_neg h]
  exact ⟨_, rfl, hx, by omega⟩
end Go.Proofs.Ytmdhedkgpgoneaa.Pure

namespace Go.Proofs.Ytmdhedkgpgoneaa.Se
set_option linter.unusedSimpArgs false
set_option linter.unusedVariables false
open Go.RowKit Go.Proofs.Ytmdhedkgpgoneaa.Q Go.Proofs.Ytmdhedkgpgoneaa.Pure Go.Proofs.Ytmdhedkgpgoneaa.Si Go.Proofs.YtmdhedkgpgoneaaW.PrintWords Go.Proofs.YtmdhedkgpgoneaaW.PrintLast Go.Proofs.YtmdhedkgpgoneaaW.PrintMore
theorem ov_ev (a b : List Bl) (hl : a.length ≤ 1000000000) {k : Nat} (hk : a.length + 10 < k) : laws_ovBlocks.f k a b = some (decide (a = b)) := by
 unfold laws_ovBlocks.f
 by_cases h : a.length = b.length
 ·rw [if_pos (by omega), ← all_eq a b h]
  have hs := scan_loop (fun k i => laws_ovBlocks.l0 k a b i) a.length 1 (fun i => decide (rd_T44 a (i : Int) = rd_T44 b (i : Int))) false true (fun k i hi _ _ hg => ?_) (fun k i hi _ _ hg => ?_) (fun k _ => ?_) k (by omega)
  ·refine Eq.trans hs ?_
   generalize ((List.range a.length).all fun i => decide (rd_T44 a (i : Int) = rd_T44 b (i : Int))) = q
   cases q <;> rfl
  ·simp only [laws_ovBlocks.l0]
   rw [if_pos (by omega), if_pos (by omega), if_pos (by omega), ne_blk, hg, if_neg (by simp), wnat (by omega)]
  ·simp only [laws_ovBlocks.l0]
   rw [if_pos (by omega), if_pos (by omega), if_pos (by omega), ne_blk, hg, if_pos (by simp)]
  ·simp only [laws_ovBlocks.l0]
   rw [if_neg (by omega)]
 ·rw [if_neg (by omega), decide_eq_false fun e => h (by rw [e])]
theorem ov_same (a : List Bl) (hl : a.length ≤ 1000000000) {k : Nat} (hk : a.length + 10 < k) : laws_ovBlocks.f k a a = some true := by
 rw [ov_ev a a hl hk, decide_eq_true rfl]
theorem room_len (l : List Bl) : (room l).1.length ≤ 64 := by
 unfold room
 split
 ·assumption
 ·simp
theorem dual_len (f : List Sn → List Sn → List Sn) (a b : List Bl) : (dual f a b).1.length ≤ 64 := by
 unfold dual
 split
 ·exact room_len _
 ·simp
theorem of_len (l : List Bl) : (ofB l).1.length ≤ 64 := by
 unfold ofB
 split
 ·exact room_len _
 ·simp
theorem of_true {l : List Bl} (h : (ofB l).2 = true) : okB l = true ∧ l.length ≤ 64 ∧ (coS (ca l)).length ≤ 64 ∧ (ofB l).1 = coS (ca l) := by
 unfold ofB at h ⊢
 split at h
 ·rename_i hc
  rw [if_pos hc]
  unfold room at h ⊢
  split at h
  ·rename_i hl
   rw [if_pos hl]
   exact ⟨hc.1, hc.2, hl, rfl⟩
  ·exact absurd h (by simp)
 ·exact absurd h (by simp)
theorem dual_true {f : List Sn → List Sn → List Sn} {a b : List Bl} (h : (dual f a b).2 = true) : isSet a = true ∧ isSet b = true ∧ (coS (f (ca a) (ca b))).length ≤ 64 ∧ (dual f a b).1 = coS (f (ca a) (ca b)) := by
 unfold dual at h ⊢
 split at h
 ·rename_i hc
  rw [if_pos hc]
  unfold room at h ⊢
  split at h
  ·rename_i hl
   rw [if_pos hl]
   exact ⟨hc.1, hc.2, hl, rfl⟩
  ·exact absurd h (by simp)
 ·exact absurd h (by simp)
theorem set_can {l : List Bl} (h : isSet l = true) : Si.Can (ca l) := ca_can (isSet_iff.1 h).1
theorem szB_set {l : List Bl} (h : isSet l = true) : szB l = wid (ca l) := by
 unfold szB
 rw [if_pos h, sum_set h]
theorem set_coS {C : List Sn} (h : Si.Can C) (hl : (coS C).length ≤ 64) : isSet (coS C) = true := by
 rw [isSet_coS h, decide_eq_true hl]
theorem szB_coS {C : List Sn} (h : Si.Can C) (hl : (coS C).length ≤ 64) : szB (coS C) = wid C := by
 rw [szB_set (set_coS h hl), ca_coS h]
end Go.Proofs.Ytmdhedkgpgoneaa.Se

namespace Go.Proofs.Ytmdhedkgpgoneaa.Se
set_option linter.unusedSimpArgs false
set_option linter.unusedVariables false
open Go.RowKit Go.Proofs.Ytmdhedkgpgoneaa.Q Go.Proofs.Ytmdhedkgpgoneaa.Pure Go.Proofs.Ytmdhedkgpgoneaa.Open Go.Proofs.Ytmdhedkgpgoneaa.Si Go.Proofs.YtmdhedkgpgoneaaW.PrintWords Go.Proofs.YtmdhedkgpgoneaaW.PrintLast Go.Proofs.YtmdhedkgpgoneaaW.PrintMore
theorem blocks_fill {xs : List Int} (hx : rdOk xs) : ∀ (m : Nat) (l : List Bl) (s : Int) (k : Nat), l.length + m = 65 → 0 ≤ s → s + m + 1 ≤ 1000000000 → m + 2 ≤ k → ∃ l' t, spec_l12Blocks.l1 k l xs s = some (l', t) ∧ s ≤ t ∧ t ≤ s + m + 1 ∧ l'.length ≤ 65 := by
 intro m
 induction m with
 | zero =>
  intro l s k hl hs hs' hk
  obtain ⟨k, rfl⟩ : ∃ q, k = q + 1 := ⟨k - 1, by omega⟩
  obtain ⟨v, ev, v0, v1⟩ := pick_ev hx (s := s) (n := 2) hs (by omega) (by omega) (show 1 ≤ k by omega)
  simp only [spec_l12Blocks.l1]
  rw [ev, Option.bind_some]
  dsimp only
  rw [w64 (by omega) (by omega), if_neg (by omega)]
  exact ⟨_, _, rfl, by omega, by omega, by omega⟩
 | succ m ih =>
  intro l s k hl hs hs' hk
  obtain ⟨k, rfl⟩ : ∃ q, k = q + 1 := ⟨k - 1, by omega⟩
  obtain ⟨v, ev, v0, v1⟩ := pick_ev hx (s := s) (n := 2) hs (by omega) (by omega) (show 1 ≤ k by omega)
  simp only [spec_l12Blocks.l1]
  rw [ev, Option.bind_some]
  dsimp only
  rw [w64 (x := 64 + v) (by omega) (by omega)]
  by_cases hc : (l.length : Int) < 64 + v
  ·obtain ⟨l', t, e, t0, t1, g⟩ := ih (l ++ [(⟨wrap64 (2 * (l.length : Int)), 32⟩ : Bl)]) (s + 1) k (by rw [snoc_len]; omega) (by omega) (by omega) (by omega)
   rw [if_pos hc, if_pos (by omega), e]
   exact ⟨_, _, rfl, by omega, by omega, g⟩
  ·rw [if_neg hc]
   exact ⟨_, _, rfl, by omega, by omega, by omega⟩
theorem drBlocks_ev {xs : List Int} (hx : rdOk xs) {s : Int} (hs : 0 ≤ s) (hs' : s ≤ 999990000) {k : Nat} (hk : 500 ≤ k) : ∃ l t, spec_l12Blocks.f k xs s = some (l, t) ∧ s ≤ t ∧ t ≤ s + 200 ∧ l.length ≤ 65 := by
 have key : ∀ (n : Nat) (l : List Bl) (u : Int) (k : Nat), 0 ≤ u → u + 8 * (n : Int) ≤ 999999000 → l.length + n ≤ 6 → 200 + n ≤ k → ∃ l' t, spec_l12Blocks.l0 k l (n : Int) xs u = some (l', t) ∧ u ≤ t ∧ t ≤ u + 8 * (n : Int) + 70 ∧ l'.length ≤ 65 := by
  intro n
  induction n with
  | zero =>
   intro l u k hu hu' hn hk
   obtain ⟨k, rfl⟩ : ∃ q, k = q + 1 := ⟨k - 1, by omega⟩
   simp only [spec_l12Blocks.l0]
   obtain ⟨v, ev, _⟩ := pick_ev hx (s := u) (n := 20) (by omega) (by omega) (by omega) (show 1 ≤ k by omega)
   rw [if_neg (by omega), ev, Option.bind_some]
   dsimp only
   by_cases hv : v = 0
   ·rw [if_pos hv]
    obtain ⟨l', t, e, t0, t1, g⟩ := blocks_fill hx (65 - l.length) l (u + 1) k (by omega) (by omega) (by omega) (by omega)
    exact ⟨l', t, e, by omega, by omega, g⟩
   ·rw [if_neg hv]
    exact ⟨l, _, rfl, by omega, by omega, by omega⟩
  | succ n ih =>
   intro l u k hu hu' hn hk
   obtain ⟨k, rfl⟩ : ∃ q, k = q + 1 := ⟨k - 1, by omega⟩
   simp only [spec_l12Blocks.l0]
   obtain ⟨b0, b1, eb, _⟩ := drBlock_ev hx (s := u) (by omega) (by omega) (show 40 ≤ k by omega)
   rw [if_pos (by omega), eb, Option.bind_some]
   dsimp only
   rw [if_pos (by omega), w64 (by omega) (by omega), show ((n + 1 : Nat) : Int) - 1 = (n : Int) by omega]
   obtain ⟨l', t, e, t0, t1, g⟩ := ih (l ++ [(⟨b0, b1⟩ : Bl)]) (u + 7) k (by omega) (by omega) (by rw [snoc_len]; omega) (by omega)
   exact ⟨l', t, e, by omega, by omega, g⟩
 unfold spec_l12Blocks.f
 obtain ⟨v, ev, v0, v1⟩ := pick_ev hx (s := s) (n := 6) (by omega) (by omega) (by omega) (show 1 ≤ k by omega)
 obtain ⟨n, rfl⟩ := Int.eq_ofNat_of_zero_le v0
 obtain ⟨l, t, e, t0, t1, h⟩ := key n [] (s + 1) k (by omega) (by omega) (by simp; omega) (by omega)
 rw [ev, Option.bind_some]
 exact ⟨l, t, e, by omega, by omega, h⟩
theorem drSet_ev {xs : List Int} (hx : rdOk xs) {s : Int} (hs : 0 ≤ s) (hs' : s ≤ 999990000) {k : Nat} (hk : 5000000000 ≤ k) : ∃ l t, spec_l12Set.f k xs s = some (l, t) ∧ s ≤ t ∧ t ≤ s + 200 ∧ l.length ≤ 64 := by
 obtain ⟨l, t, e, t0, t1, h⟩ := drBlocks_ev hx hs hs' (show 500 ≤ k by omega)
 unfold spec_l12Set.f
 rw [e, Option.bind_some]
 dsimp only
 rw [setOf_spec l (by omega) hk, Option.bind_some]
 by_cases hc : (ofB l).2 = true
 ·rw [if_pos hc]
  exact ⟨_, _, rfl, t0, t1, of_len l⟩
 ·rw [if_neg hc]
  exact ⟨_, _, rfl, t0, t1, by simp⟩
theorem drAnySet_ev {xs : List Int} (hx : rdOk xs) {s : Int} (hs : 0 ≤ s) (hs' : s ≤ 999980000) {k : Nat} (hk : 5000000000 ≤ k) : ∃ l t, spec_l12AnySet.f k xs s = some (l, t) ∧ s ≤ t ∧ t ≤ s + 300 ∧ l.length ≤ 65 := by
 unfold spec_l12AnySet.f
 obtain ⟨v, ev, v0, v1⟩ := pick_ev hx (s := s) (n := 8) (by omega) (by omega) (by omega) (show 1 ≤ k by omega)
 rw [ev, Option.bind_some]
 dsimp only
 by_cases h0 : v = 0
 ·obtain ⟨l, t, e, t0, t1, h⟩ := drBlocks_ev hx (s := s + 1) (by omega) (by omega) (show 500 ≤ k by omega)
  rw [if_pos h0, e, Option.bind_some]
  exact ⟨l, t, rfl, by omega, by omega, h⟩
 ·obtain ⟨l, t, e, t0, t1, h⟩ := drSet_ev hx (s := s + 1) (by omega) (by omega) hk
  rw [if_neg h0]
  by_cases h1 : v = 1
  ·obtain ⟨a, b, u, eb, u0, u1, _⟩ := drAnyBlock_ev hx (s := t) (by omega) (by omega) (show 40 ≤ k by omega)
   rw [if_pos h1, e, Option.bind_some]
   dsimp only
   rw [eb, Option.bind_some]
   dsimp only
   rw [if_pos (by omega)]
   exact ⟨_, u, rfl, by omega, by omega, by rw [snoc_len]; omega⟩
  ·rw [if_neg h1, e, Option.bind_some]
   exact ⟨l, t, rfl, by omega, by omega, by omega⟩
theorem drawSetBoth_ev {ys : List Int} (hf : ∀ y ∈ ys, Fits .u8 y) {k : Nat} (hk : 5000000000 ≤ k) : ∃ a b : List Bl, spec_DrawSetBoth.f k ys = some (a, b) ∧ a.length ≤ 65 ∧ b.length ≤ 65 := by
 obtain ⟨xs, eo, hx⟩ := open_ev (fun y hy => fits_u8 (hf y hy))
 obtain ⟨a, t, ea, t0, t1, ha⟩ := drAnySet_ev hx (s := 0) (by omega) (by omega) hk
 obtain ⟨b, u, eb, u0, u1, hb⟩ := drAnySet_ev hx (s := t) (by omega) (by omega) hk
 unfold spec_DrawSetBoth.f
 simp only [eo, ea, eb, Option.bind_some]
 exact ⟨_, _, rfl, ha, hb⟩
end Go.Proofs.Ytmdhedkgpgoneaa.Se

namespace Go.Proofs.Ytmdhedkgpgoneaa.Se
set_option linter.unusedSimpArgs false
set_option linter.unusedVariables false
open Go.RowKit Go.Proofs.Ytmdhedkgpgoneaa.Q Go.Proofs.Ytmdhedkgpgoneaa.Pure Go.Proofs.Ytmdhedkgpgoneaa.Open Go.Proofs.Ytmdhedkgpgoneaa.Si Go.Proofs.YtmdhedkgpgoneaaW.PrintWords Go.Proofs.YtmdhedkgpgoneaaW.PrintLast Go.Proofs.YtmdhedkgpgoneaaW.PrintMore
theorem FnSetUnion_j0 {a b : List Bl} (ha : a.length ≤ 65) (hb : b.length ≤ 65) {k : Nat} (hk : 200000000000 ≤ k) : laws_FnSetUnion.j0 (k + 1) a b (dual both a b).1 (dual both a b).2 (dual both a b).1 (dual both a b).2 (!(dual both a b).2) = some true := by
 have hd := dual_len both a b
 simp only [laws_FnSetUnion.j0]
 by_cases h : (dual both a b).2 = true
 ·obtain ⟨h1, h2, h3, h4⟩ := dual_true h
  have ca1 := set_can h1
  have ca2 := set_can h2
  have hal := (isSet_iff.1 h1).1
  have hbl := (isSet_iff.1 h2).1
  rw [if_neg (by simp [h]), Option.bind_some, if_pos (by rw [List.length_nil]; omega), Option.bind_some, List.nil_append, if_pos (by omega), setOf_impl _ (by rw [List.length_append]; omega) (by omega), Option.bind_some]
  by_cases hq : (ofB (a ++ b)).2 = true
  ·obtain ⟨q1, q2, q3, q4⟩ := of_true hq
   have cq := ca_can q1
   have w1 := wid_le ca1
   have w2 := wid_le ca2
   have w3 := wid_le cq
   have w4 := wid_le (both_can ca1 ca2)
   have ws := wid_sum hal hbl
   rw [if_pos hq, q4, h4, setOk_impl _ (by omega) (by omega), Option.bind_some, set_coS cq q3, if_pos rfl, setSize_impl _ (by omega) (by omega), Option.bind_some, setSize_impl _ (by omega) (by omega), Option.bind_some, setSize_impl a (by omega) (by omega), Option.bind_some, setSize_impl b (by omega) (by omega), Option.bind_some, szB_coS cq q3, szB_coS (both_can ca1 ca2) h3, szB_set h1, szB_set h2, w64 (by omega) (by omega), w64 (by omega) (by omega)]
   congr 1
   rw [beq_iff_eq]
   omega
  ·rw [if_neg hq]
 ·rw [if_pos (by simp [h]), if_pos (by simp), ov_same _ (by omega) (by omega), Option.bind_some]
theorem FnSetUnion_law : laws_FnSetUnion.Pure := by
 intro xs ⟨_, hf⟩
 obtain ⟨k, hk⟩ : ∃ k : Nat, 200000000000 ≤ k := ⟨200000000000, Nat.le_refl _⟩
 refine ⟨k + 1, ?_⟩
 unfold laws_FnSetUnion.f
 by_cases hl : (xs.length : Int) > 1048576
 ·rw [if_pos hl]
 rw [if_neg hl]
 obtain ⟨a, b, ed, ha, hb⟩ := drawSetBoth_ev hf (k := k + 1) (by omega)
 rw [ed, Option.bind_some]
 dsimp only
 have hd := dual_len both a b
 have i0 := setBoth_impl a b (by omega) (by omega) (k := k + 1) (by omega)
 have s0 := setBoth_spec a b (by omega) (by omega) (k := k + 1) (by omega)
 rw [i0, Option.bind_some, s0, Option.bind_some, if_neg (by simp), ov_same _ (by omega) (by omega), Option.bind_some, if_pos rfl]
 exact FnSetUnion_j0 ha hb hk
end Go.Proofs.Ytmdhedkgpgoneaa.Se
namespace Go.Proofs.Ytmdhedkgpgoneaa.Pure
open Go.Proofs.Ytmdhedkgpgoneaa.Q
theorem FnSetUnion : laws_FnSetUnion.Pure := Se.FnSetUnion_law
end Go.Proofs.Ytmdhedkgpgoneaa.Pure

namespace Go.Proofs.Ytmdhedkgpgoneaa.fnSetUnion
open Go.ChangeShapes Go.WideShapes Go.ChangeAt Go.RowKit Go.Proofs.YtmdhedkgpgoneaaW.PrintWords Go.Proofs.Ytmdhedkgpgoneaa.Open Go.Proofs.Ytmdhedkgpgoneaa.Q
open Go.ChangeMaps (open_string shut_string)
set_option linter.unusedVariables false
theorem own : ownKnob Try.prog.godebug = none := by kernel_rfl
theorem laidOut : laidOutB Try.prog = true := by kernel_rfl
set_option maxRecDepth 100000 in
theorem lifted (os : Os) (started : os.Started) (H : Type) (enc : TypeId × Value → H) :
  ReturnsInHanded {} Try.checked os 9 .any (Rows.fnSetUnionSpec.pre6 enc Try.prog Try.f9 Rows.fnSetUnionRow.domain false) (Rows.fnSetUnionSpec.post enc Try.prog Try.f9 false true false false) := by
 refine returnsInHanded_of_change_sized (C := Try.checked) own started (by kernel_rfl) Try.func9
  (ChangeSpec.witness6 (enc := enc) (C := Try.checked) false ⟨#[], #[.slice none 0 0], []⟩ 8 (by kernel_rfl) (by kernel_rfl) (by kernel_rfl) (by kernel_rfl)) ?_
 intro W base args ds gs before hval0 hW hcnd hsz0 _
 have hval : ∀ (j : Nat) t v, Try.f9.params[j]? = some t → args[j]? = some v → Value.okWide Try.prog W .any base t v := hval0
 have hW' := hW
 obtain ⟨p, q, hA0, hV, rfl, hfz, hnd⟩ := hW
 have hA : DataW.TrodAll enc Try.prog W 0 (fun _ => true) true Try.f9.params.toList args.toList ds p := hA0
 rw [Try.params9] at hA hval
 obtain ⟨v0, vs0, d0, ds0, p0, q0, hargs, rfl, rfl, h0, r0⟩ := trodAll_cons hA
 obtain ⟨rfl, rfl, rfl⟩ := trodAll_nil r0
 obtain rfl : args = #[v0] := by cases args; simp_all
 obtain ⟨rfl, rfl⟩ := trodVars_none hV
 have lt0 : ∀ x ∈ p0, x.block < W.heap.size := by obtain ⟨m, hm⟩ := h0; exact DataW.trod_lt m _ _ _ hm
 have k0 := h0
 obtain ⟨x0, K0, w0⟩ := open_arg (op35 W) h0
 obtain ⟨aa0, len0, cap0, rfl⟩ := okWide_slice Try.underlying35 (hval 0 35 v0 rfl rfl)
 obtain ⟨A0, c0, e0, hc0, hr0⟩ := K0
 obtain ⟨rfl, rfl, rfl⟩ := slice_of_cells e0
 obtain ⟨k, hp⟩ := Pure.FnSetUnion x0 w0
 refine (laws_FnSetUnion.calls k _ _ x0 true W hr0 hc0 hp).mono ?_
 rintro e W' ⟨rfl, bel0⟩
 have bel : Below W.heap.size W W' := bel0
 exact ⟨_, rfl, _, _, _, [], _, [], hW', trodAll_mk1 (shut_bool Try.underlying4 _), (trodAll_cons_mk (Below.trod laidOut (by kernel_rfl) (of_decide_eq_true (by kernel_rfl)) k0 bel lt0) trodAll_mk0), rfl, bel.frame _, fun h => by cases h⟩
theorem over : Rows.fnSetUnionRow.holds Try.pinned (OpenSpec.ofChange Rows.fnSetUnionSpec) :=
 OpenClaim.holds_of_wide 9 Try.f9 rfl rfl rfl rfl rfl rfl rfl ⟨rfl, rfl, rfl, rfl, rfl⟩ rfl rfl rfl rfl rfl (by kernel_rfl) Try.func9 (by kernel_rfl)
  (of_decide_eq_true (by kernel_rfl)) (by unfold Func.isWrapper; first | (rw [if_pos (by decide +kernel)]; kernel_rfl) | (rw [if_neg (by decide +kernel)]; exact ⟨rfl, rfl⟩))
  (fun os started H enc _ => lifted os started H enc)
theorem proved : Rows.FnSetUnionSaid := over
#print axioms proved
end Go.Proofs.Ytmdhedkgpgoneaa.fnSetUnion
namespace Go.Proofs.Ytmdhedkgpgoneaa
/-- The row, under a short name, for the claim. -/
theorem fnSetUnion_holds : Rows.FnSetUnionSaid := fnSetUnion.proved
end Go.Proofs.Ytmdhedkgpgoneaa
