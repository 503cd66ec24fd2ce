/- The law FnExactSetOf (part 6 of 6): for every input the call answers true and its arguments read afterwards as before. No condition beyond the row's own. -/
import Derived.Test.YtmdhedkgpgoneaaRows
import Derived.WalkKit
import Derived.ProofKit
import Derived.OpenShut
import Derived.ShutString
import Derived.ChangeOld
import Derived.Below
import Derived.SizedLaws
import Derived.Test.YtmdhedkgpgoneaaCFnExactSetOf5
namespace Go.Proofs.Ytmdhedkgpgoneaa.Se
set_option linter.unusedSimpArgs false
set_option linter.unusedVariables false
open Go.RowKit Go.Proofs.Ytmdhedkgpgoneaa.Q Go.Proofs.Ytmdhedkgpgoneaa.Pure Go.Proofs.Ytmdhedkgpgoneaa.Si Go.Proofs.YtmdhedkgpgoneaaW.PrintWords Go.Proofs.YtmdhedkgpgoneaaW.PrintLast Go.Proofs.YtmdhedkgpgoneaaW.PrintMore
theorem wnat {n : Nat} (h : n ≤ 1000000000000) : wrap64 ((n : Int) + 1) = ((n + 1 : Nat) : Int) := by
 rw [w64 (by omega) (by omega)]; omega
theorem mid_len {α : Type} (p : List α) (x : α) (r : List α) : (p ++ x :: r).length = p.length + 1 + r.length := by simp; omega
theorem mid_get {α : Type} (p : List α) (x : α) (r : List α) (d : α) : (p ++ x :: r).getD p.length d = x := by
 rw [List.getD_eq_getElem?_getD, List.getElem?_append_right (Nat.le_refl _), Nat.sub_self]; rfl
theorem mid_app {α : Type} (p : List α) (x : α) (r : List α) : p ++ x :: r = (p ++ [x]) ++ r := by simp
theorem snoc_len {α : Type} (p : List α) (x : α) : (p ++ [x]).length = p.length + 1 := by simp
theorem rdB_mid (p r : List Bl) (x : Bl) : rd_T44 (p ++ x :: r) ((p.length : Nat) : Int) = x := mid_get p x r _
/-- A span, as the reference has it. -/
abbrev S6 := S63
def to6 (s : Sn) : S6 := ⟨s.1, s.2⟩
theorem rd6_mid (p r : List Sn) (x : Sn) : rd_T63 ((p ++ x :: r).map to6) ((p.length : Nat) : Int) = to6 x := by
 have h := mid_get (p.map to6) (to6 x) (r.map to6) z63
 rw [List.length_map] at h
 rw [List.map_append, List.map_cons]
 exact h
theorem rd6_last (p : List Sn) (x : Sn) : rd_T63 ((p ++ [x]).map to6) ((p.length : Nat) : Int) = to6 x := rd6_mid p [] x
theorem set6_last (p : List Sn) (x y : Sn) : ((p ++ [x]).map to6).set p.length (to6 y) = (p ++ [y]).map to6 := by
 rw [List.map_append, List.map_append, List.set_append_right _ _ (by rw [List.length_map]; exact Nat.le_refl _), List.length_map, Nat.sub_self]
 rfl
theorem ins_loop (x0 : List Bl) (x4 : Int) (x : Sn) : ∀ (r p : List Sn), p.length + r.length ≤ 100000 → ∃ c, c ≤ r.length + 1 ∧ ∀ k, spec_l2Spans.l1 (k + c) x0 ((p ++ r).map to6) x4 (p.length : Int) x.1 x.2 = spec_l2Spans.l0 k x0 ((p ++ insP x r).map to6) (wrap64 (x4 + 1)) := by
 intro r
 induction r with
 | nil =>
  intro p hl
  refine ⟨1, by simp, fun k => ?_⟩
  have hm : ((p ++ []).map to6) = p.map to6 := by rw [List.append_nil]
  have hml : (p.map to6).length = p.length := List.length_map ..
  have ht : (p.map to6).take p.length = p.map to6 := List.take_of_length_le (by omega)
  have hd : (p.map to6).drop p.length = [] := List.drop_eq_nil_of_le (by omega)
  rw [hm]
  simp only [spec_l2Spans.l1, Option.bind_some, List.nil_append, Int.toNat_natCast, ht, hd, List.append_nil]
  rw [if_neg (by omega), if_pos (by omega), if_pos (by omega), if_pos (by rw [List.length_nil]; omega), if_pos (by simp; simp at hl; omega), if_pos (by simp; simp at hl; omega)]
  show spec_l2Spans.l0 k x0 (p.map to6 ++ [to6 x]) _ = _
  rw [insP, List.map_append]
  rfl
 | cons s r ih =>
  intro p hl
  rw [List.length_cons] at hl
  have hml : ((p ++ s :: r).map to6).length = p.length + 1 + r.length := by rw [List.length_map, mid_len]
  by_cases hc : s.1 < x.1
  ·obtain ⟨c, hc1, hc2⟩ := ih (p ++ [s]) (by rw [snoc_len]; omega)
   refine ⟨c + 1, by rw [List.length_cons]; omega, fun k => ?_⟩
   rw [show k + (c + 1) = (k + c) + 1 by omega]
   simp only [spec_l2Spans.l1]
   rw [if_pos (by omega), if_pos (by omega), rd6_mid, if_pos (show (to6 s).f0 < x.1 from hc), wnat (by omega)]
   have h := hc2 k
   rw [snoc_len, ← mid_app] at h
   rw [h, insP, if_pos hc, ← mid_app]
  ·refine ⟨1, by omega, fun k => ?_⟩
   have hpl : p.length = (p.map to6).length := (List.length_map ..).symm
   have ht : ((p ++ s :: r).map to6).take p.length = p.map to6 := by rw [List.map_append, hpl, List.take_left]
   have hd : ((p ++ s :: r).map to6).drop p.length = (s :: r).map to6 := by rw [List.map_append, hpl, List.drop_left]
   simp only [spec_l2Spans.l1, Option.bind_some, List.nil_append, Int.toNat_natCast, ht, hd]
   rw [if_pos (by omega), if_pos (by omega), rd6_mid, if_neg (show ¬ (to6 s).f0 < x.1 from hc), if_pos (by omega), if_pos (by rw [List.length_nil]; omega), if_pos (by simp; omega), if_pos (by simp; omega)]
   rw [insP, if_neg hc]
   congr 1
   simp [to6]
theorem sort_loop : ∀ (r p : List Bl) (A : List Sn), A.length + r.length ≤ 1000 → p.length + r.length ≤ 1000 → okB r = true → ∃ c, c ≤ 1010 * r.length + 1 ∧ ∀ k, 50 ≤ k → spec_l2Spans.l0 (k + c) (p ++ r) (A.map to6) (p.length : Int) = spec_l2Spans.l2 k ((srt A (r.map spn)).map to6) [] 0 := by
 intro r
 induction r with
 | nil =>
  intro p A _ hl _
  refine ⟨1, by simp, fun k _ => ?_⟩
  simp only [spec_l2Spans.l0]
  rw [List.append_nil, if_neg (by omega)]
  rfl
 | cons b r ih =>
  intro p A h1 h2 hok
  rw [List.length_cons] at h1 h2
  have hb := okB_iff.1 hok b List.mem_cons_self
  obtain ⟨c1, hc1, hc2⟩ := ins_loop (p ++ b :: r) (p.length : Int) (spn b) A [] (by rw [List.length_nil]; omega)
  obtain ⟨c3, hc3, hc4⟩ := ih (p ++ [b]) (insP (spn b) A) (by rw [insP_length]; omega) (by rw [snoc_len]; omega) (okB_iff.2 fun x hx => okB_iff.1 hok x (List.mem_cons_of_mem _ hx))
  refine ⟨c3 + c1 + 1, by rw [List.length_cons]; omega, fun k hk => ?_⟩
  rw [show k + (c3 + c1 + 1) = (k + c3 + c1) + 1 by omega]
  simp only [spec_l2Spans.l0]
  rw [mid_len, if_pos (by omega), if_pos (by omega), rdB_mid, last_spec hb (by omega), Option.bind_some]
  have h := hc2 (k + c3)
  rw [List.nil_append, List.nil_append, List.length_nil] at h
  have h' := hc4 k hk
  rw [← mid_app, snoc_len] at h'
  rw [show (0 : Int) = ((0 : Nat) : Int) from rfl]
  refine Eq.trans h ?_
  rw [wnat (by omega), h']
  rfl
theorem merge_loop : ∀ (R P xa : List Sn) (t : Sn), P.length + R.length ≤ 100000 → xa.length + R.length ≤ 100000 → (∀ s ∈ R, 0 ≤ s.2 ∧ s.2 ≤ 4294967295) → 0 ≤ t.2 → t.2 ≤ 4294967295 → ∀ k, 2 * R.length + 1 ≤ k →
  spec_l2Spans.l2 k ((P ++ R).map to6) ((xa ++ [t]).map to6) (P.length : Int) = some ((mrgG xa t R).map to6) := by
 intro R
 induction R with
 | nil =>
  intro P xa t hp ha _ _ _ k hk
  obtain ⟨k, rfl⟩ : ∃ j, k = j + 1 := ⟨k - 1, by omega⟩
  simp only [spec_l2Spans.l2]
  rw [if_neg (by simp)]
  rfl
 | cons s R ih =>
  intro P xa t hp ha hR t0 t1 k hk
  rw [List.length_cons] at hp ha hk
  obtain ⟨k, rfl⟩ : ∃ j, k = j + 2 := ⟨k - 2, by omega⟩
  obtain ⟨s0, s1⟩ := hR s List.mem_cons_self
  have hml : ((P ++ s :: R).map to6).length = P.length + 1 + R.length := by rw [List.length_map, mid_len]
  have hal : ((xa ++ [t]).map to6).length = xa.length + 1 := by rw [List.length_map, snoc_len]
  have hw : wrap64 (((xa.length + 1 : Nat) : Int) - 1) = (xa.length : Int) := by rw [w64 (by omega) (by omega)]; omega
  simp only [spec_l2Spans.l2]
  rw [hml, hal, hw, if_pos (by omega), if_pos (by omega), if_pos (by omega), if_pos (by omega), if_pos (by omega), rd6_mid, rd6_last]
  show spec_l2Spans.j3 (k + 1) _ _ _ _ (decide (s.1 ≤ wrap64 (t.2 + 1))) = _
  rw [w64 (by omega) (by omega)]
  simp only [spec_l2Spans.j3]
  by_cases hc : s.1 ≤ t.2 + 1
  ·rw [if_pos (decide_eq_true hc), hml, hal, if_pos (by omega), if_pos (by omega), if_pos (by omega), if_pos (by omega), rd6_mid, rd6_last, Int.toNat_natCast, wnat (by omega), mrgG, if_pos hc]
   by_cases hd : t.2 < s.2
   ·rw [if_pos (show (to6 s).f1 > (to6 t).f1 from hd), if_pos hd]
    show spec_l2Spans.l2 k _ (((xa ++ [t]).map to6).set xa.length (to6 (t.1, s.2))) _ = _
    rw [set6_last]
    have h := ih (P ++ [s]) xa (t.1, s.2) (by rw [snoc_len]; omega) (by omega) (fun u hu => hR u (List.mem_cons_of_mem _ hu)) s0 s1 k (by omega)
    rwa [← mid_app, snoc_len] at h
   ·rw [if_neg (show ¬ (to6 s).f1 > (to6 t).f1 from hd), if_neg hd]
    have h := ih (P ++ [s]) xa t (by rw [snoc_len]; omega) (by omega) (fun u hu => hR u (List.mem_cons_of_mem _ hu)) t0 t1 k (by omega)
    rwa [← mid_app, snoc_len] at h
  ·rw [if_neg (by simpa using hc), hml, mrgG, if_neg hc, if_pos (by omega), if_pos (by omega), rd6_mid, Option.bind_some, if_pos (by simp; omega), wnat (by omega)]
   have h := ih (P ++ [s]) (xa ++ [t]) s (by rw [snoc_len]; omega) (by rw [snoc_len]; omega) (fun u hu => hR u (List.mem_cons_of_mem _ hu)) s0 s1 k (by omega)
   rw [← mid_app, snoc_len] at h
   rw [← h, List.map_append (l₁ := xa ++ [t])]
   rfl
theorem merge_all (S : List Sn) (hl : S.length ≤ 100000) (hS : ∀ s ∈ S, 0 ≤ s.2 ∧ s.2 ≤ 4294967295) {k : Nat} (hk : 2 * S.length + 1 ≤ k) : spec_l2Spans.l2 k (S.map to6) [] 0 = some ((mrg S).map to6) := by
 cases S with
 | nil =>
  obtain ⟨k, rfl⟩ : ∃ j, k = j + 1 := ⟨k - 1, by omega⟩
  simp only [spec_l2Spans.l2]
  rfl
 | cons s R =>
  rw [List.length_cons] at hl hk
  obtain ⟨k, rfl⟩ : ∃ j, k = j + 2 := ⟨k - 2, by omega⟩
  obtain ⟨s0, s1⟩ := hS s List.mem_cons_self
  have hml : ((s :: R).map to6).length = 1 + R.length := by rw [List.length_map, List.length_cons]; omega
  have hw : wrap64 ((([] : List S6).length : Int) - 1) = -1 := by rw [List.length_nil, w64 (by omega) (by omega)]; rfl
  have hz : rd_T63 ((s :: R).map to6) 0 = to6 s := rfl
  simp only [spec_l2Spans.l2, spec_l2Spans.j3]
  rw [hml, hw, if_pos (by omega), if_neg (by omega), if_neg (by simp), if_pos (by omega), if_pos (by omega), hz, Option.bind_some, if_pos (by simp), w64 (x := 0 + 1) (by omega) (by omega)]
  have h := merge_loop R [s] [] s (by simp; omega) (by simp; omega) (fun u hu => hS u (List.mem_cons_of_mem _ hu)) s0 s1 k (by omega)
  exact h
theorem l2Spans_ev {l : List Bl} (h : okB l = true) (hl : l.length ≤ 1000) {k : Nat} (hk : 2000000 ≤ k) : spec_l2Spans.f k l = some ((ca l).map to6) := by
 obtain ⟨c, hc1, hc2⟩ := sort_loop l [] [] (by simpa using hl) (by simpa using hl) h
 have e := hc2 (k - c) (by omega)
 rw [show k - c + c = k by omega] at e
 unfold spec_l2Spans.f
 refine Eq.trans e ?_
 have hsl := srt_length (l.map spn) []
 rw [List.length_map, List.length_nil] at hsl
 refine merge_all _ (by omega) (fun s hs => ?_) (by omega)
 rcases (mem_srt s (l.map spn) []).1 hs with hs | hs
 ·exact absurd hs (by simp)
 ·obtain ⟨s0, s1, s2⟩ := spns_ok h s hs
  exact ⟨by omega, s2⟩
theorem cov_any : ∀ (n m : Nat) (a b : Int), (b + 1 - a).toNat ≤ n → (b + 1 - a).toNat ≤ m → cov n a b = cov m a b
 | 0, m, a, b, hn, hm => by rw [cov_nil (n := 0) (by omega), cov_nil (n := m) (by omega)]
 | n + 1, 0, a, b, hn, hm => by rw [cov_nil (n := n + 1) (by omega), cov_nil (n := 0) (by omega)]
 | n + 1, m + 1, a, b, hn, hm => by
  unfold cov
  by_cases hab : a ≤ b
  ·have hp := sz_pos (mb a b)
   rw [if_pos hab, if_pos hab, cov_any n m (a + sz (mb a b)) b (by omega) (by omega)]
  ·rw [if_neg hab, if_neg hab]
theorem cov_len {a b : Int} (n : Nat) (h : a ≤ b + 1) (hn : (b + 1 - a).toNat ≤ n) : ((cov n a b).length : Int) ≤ b + 1 - a := by
 have h1 := sumB_length (cov n a b)
 rwa [cov_sum n a b hn h] at h1
theorem cover_loop : ∀ (R P : List Sn) (acc : List Bl), P.length + R.length ≤ 1000000 → (∀ s ∈ R, Ok s) → (acc.length : Int) + wid R ≤ 5000000000 → ∀ k : Nat, wid R + 2 * R.length + 200 ≤ (k : Int) →
  spec_l2Cover.l0 k ((P ++ R).map to6) acc (P.length : Int) = some (acc ++ coS R) := by
 intro R
 induction R with
 | nil =>
  intro P acc _ _ _ k hk
  rw [wid_nil] at hk
  obtain ⟨k, rfl⟩ : ∃ j, k = j + 1 := ⟨k - 1, by omega⟩
  simp only [spec_l2Cover.l0]
  rw [if_neg (by simp), coS_nil, List.append_nil]
 | cons s R ih =>
  intro P acc hl hR hw k hk
  rw [List.length_cons] at hl hk
  have hN := NN_eq
  obtain ⟨s0, s1, s2⟩ := hR s List.mem_cons_self
  have hw0 : 0 ≤ wid R := by
   have h1 := sumB_length (coS R)
   rw [coS_sum (fun t ht => hR t (List.mem_cons_of_mem _ ht))] at h1
   omega
  rw [wid_cons] at hw hk
  obtain ⟨k, rfl⟩ : ∃ j, k = j + 1 := ⟨k - 1, by omega⟩
  have hml : ((P ++ s :: R).map to6).length = P.length + 1 + R.length := by rw [List.length_map, mid_len]
  simp only [spec_l2Cover.l0]
  rw [hml, if_pos (by omega), if_pos (by omega), rd6_mid]
  have hg : ((P ++ s :: R).map to6).getD P.length z63 = to6 s := by
   have := rd6_mid P R s
   unfold rd_T63 at this
   rwa [Int.toNat_natCast] at this
  obtain ⟨c, hc1, hc2⟩ := cover_l1 ((P ++ s :: R).map to6) P.length (by omega) (by omega) s.2 (by rw [hg]; rfl) s2 (s.2 + 1 - s.1).toNat s.1 acc s0 (Nat.le_refl _) (by omega)
  have e := hc2 (k - c) (by omega)
  rw [show k - c + c = k by omega, cov_any _ NN s.1 s.2 (Nat.le_refl _) (by omega)] at e
  refine Eq.trans e ?_
  have hcl := cov_len (a := s.1) (b := s.2) NN (by omega) (by omega)
  have h := ih (P ++ [s]) (acc ++ cov NN s.1 s.2) (by rw [snoc_len]; omega) (fun t ht => hR t (List.mem_cons_of_mem _ ht)) (by rw [List.length_append]; push_cast; omega) (k - c) (by omega)
  rw [← mid_app, snoc_len] at h
  rw [h, coS_cons, List.append_assoc]
theorem cover_ev' {C : List Sn} (h : Si.Can C) (hl : C.length ≤ 100000) {k : Nat} (hk : 5000000000 ≤ k) : spec_l2Cover.f k (C.map to6) = some (coS C) := by
 have hw := wid_le h
 unfold spec_l2Cover.f
 have e := cover_loop C [] [] (by simp; omega) h.1 (by simp; omega) k (by omega)
 exact e
theorem okB_range (l : List Bl) : ((List.range l.length).all fun i => bok (rd_T44 l (i : Int)).f0 (rd_T44 l (i : Int)).f1) = okB l := by
 rw [Bool.eq_iff_iff, List.all_eq_true, okB_iff]
 have hg : ∀ i (h : i < l.length), rd_T44 l (i : Int) = l[i] := fun i h => by
  unfold rd_T44
  rw [Int.toNat_natCast, List.getD_eq_getElem?_getD, List.getElem?_eq_getElem h]; rfl
 constructor
 ·intro hh b hb
  obtain ⟨i, hi, rfl⟩ := List.mem_iff_getElem.1 hb
  have := hh i (List.mem_range.2 hi)
  rwa [hg i hi] at this
 ·intro hh i hi
  rw [hg i (List.mem_range.1 hi)]
  exact hh _ (List.getElem_mem _)
theorem blocks_spec (l : List Bl) (hl : l.length ≤ 1000000000) {k : Nat} (hk : l.length + 50 < k) : spec_l2Blocks.f k l = some (okB l && decide (l.length ≤ 64)) := by
 unfold spec_l2Blocks.f
 rw [← okB_range l]
 have hs := scan_loop (fun k i => spec_l2Blocks.l0 k l i) l.length 42 (fun i => bok (rd_T44 l (i : Int)).f0 (rd_T44 l (i : Int)).f1) false (decide (l.length ≤ 64)) (fun k i hi hk _ hg => ?_) (fun k i hi hk _ hg => ?_) (fun k _ => ?_) k (by omega)
 ·refine Eq.trans hs ?_
  generalize ((List.range l.length).all fun i => bok (rd_T44 l (i : Int)).f0 (rd_T44 l (i : Int)).f1) = q
  cases q <;> rfl
 ·simp only [spec_l2Blocks.l0]
  rw [if_pos (by omega), if_pos (by omega), ok_spec _ _ (by omega), Option.bind_some, hg, if_pos rfl, wnat (by omega)]
 ·simp only [spec_l2Blocks.l0]
  rw [if_pos (by omega), if_pos (by omega), ok_spec _ _ (by omega), Option.bind_some, hg, if_neg (by simp)]
 ·simp only [spec_l2Blocks.l0]
  rw [if_neg (by omega)]
  congr 1
  rw [Bool.eq_iff_iff, decide_eq_true_iff, decide_eq_true_iff]
  omega
theorem room_spec (l : List Bl) : spec_l2Room.f l = some (room l) := by
 unfold spec_l2Room.f room
 by_cases h : l.length ≤ 64
 ·rw [if_neg (by omega), if_pos h]
 ·rw [if_pos (by omega), if_neg h]
theorem setOf_spec (l : List Bl) (hl : l.length ≤ 100000000) {k : Nat} (hk : 5000000000 ≤ k) : spec_SetOf.f k l = some (ofB l) := by
 unfold spec_SetOf.f ofB
 rw [blocks_spec l (by omega) (by omega), Option.bind_some]
 by_cases h : okB l = true ∧ l.length ≤ 64
 ·have hcl := ca_length l
  have h2 := h.2
  rw [if_pos (by simp [h.1, h.2]), if_pos h, l2Spans_ev h.1 (by omega) (by omega), Option.bind_some, cover_ev' (ca_can h.1) (by omega) hk, Option.bind_some, room_spec, Option.bind_some]
 ·rw [if_neg (by simpa using h), if_neg h]
end Go.Proofs.Ytmdhedkgpgoneaa.Se

namespace Go.Proofs.Ytmdhedkgpgoneaa.Se
set_option linter.unusedSimpArgs false
set_option linter.unusedVariables false
open Go.RowKit Go.Sort Go.Proofs.Ytmdhedkgpgoneaa.Q Go.Proofs.Ytmdhedkgpgoneaa.Pure Go.Proofs.Ytmdhedkgpgoneaa.Si Go.Proofs.YtmdhedkgpgoneaaW.PrintWords Go.Proofs.YtmdhedkgpgoneaaW.PrintLast Go.Proofs.YtmdhedkgpgoneaaW.PrintMore
/-- A span, as the program has it. -/
abbrev S5 := S55
def to5 (s : Sn) : S5 := ⟨s.1, s.2⟩
def of5 (s : S5) : Sn := (s.f0, s.f1)
theorem of5_to5 (s : Sn) : of5 (to5 s) = s := rfl
theorem rd5_mid (p r : List Sn) (x : Sn) : rd_T55 ((p ++ x :: r).map to5) ((p.length : Nat) : Int) = to5 x := by
 have h := mid_get (p.map to5) (to5 x) (r.map to5) z55
 rw [List.length_map] at h
 rw [List.map_append, List.map_cons]
 exact h
theorem rd5_last (p : List Sn) (x : Sn) : rd_T55 ((p ++ [x]).map to5) ((p.length : Nat) : Int) = to5 x := rd5_mid p [] x
theorem set5_last (p : List Sn) (x y : Sn) : ((p ++ [x]).map to5).set p.length (to5 y) = (p ++ [y]).map to5 := by
 rw [List.map_append, List.map_append, List.set_append_right _ _ (by rw [List.length_map]; exact Nat.le_refl _), List.length_map, Nat.sub_self]
 rfl
theorem snoc5 (p : List Sn) (x : Sn) : p.map to5 ++ [to5 x] = (p ++ [x]).map to5 := by rw [List.map_append]; rfl
theorem spans_loop : ∀ (R P : List Bl) (acc : List Sn), okB R = true → P.length + R.length ≤ 100000000 → acc.length + R.length ≤ 100000000 → ∀ k, R.length + 1 ≤ k →
  impl_spans.l0 k (acc.map to5) (P ++ R) ((P ++ R).length : Int) (P.length : Int) = some ((acc ++ R.map spn).map to5) := by
 intro R
 induction R with
 | nil =>
  intro P acc _ _ _ k hk
  obtain ⟨k, rfl⟩ : ∃ j, k = j + 1 := ⟨k - 1, by omega⟩
  simp only [impl_spans.l0]
  rw [if_neg (by simp), List.map_nil, List.append_nil]
 | cons b R ih =>
  intro P acc hok hl ha k hk
  rw [List.length_cons] at hl ha hk
  obtain ⟨k, rfl⟩ : ∃ j, k = j + 1 := ⟨k - 1, by omega⟩
  obtain ⟨b0, b1, b2, b3, _⟩ := bok_iff.1 (okB_iff.1 hok b List.mem_cons_self)
  simp only [impl_spans.l0]
  rw [mid_len, if_pos (by omega), if_pos (by omega), if_pos (by omega), rdB_mid, last_impl b0 (by omega) b2 b3, Option.bind_some, List.length_map, if_pos (by omega), wnat (by omega)]
  have h := ih (P ++ [b]) (acc ++ [spn b]) (okB_iff.2 fun x hx => okB_iff.1 hok x (List.mem_cons_of_mem _ hx)) (by rw [snoc_len]; omega) (by rw [snoc_len]; omega) k (by omega)
  rw [← mid_app, snoc_len, mid_len, ← snoc5] at h
  refine Eq.trans h ?_
  rw [List.map_cons, List.append_assoc]
  rfl
theorem spans_ev {l : List Bl} (h : okB l = true) (hl : l.length ≤ 100000000) {k : Nat} (hk : l.length + 1 ≤ k) : impl_spans.f k l = some ((l.map spn).map to5) := by
 unfold impl_spans.f
 exact spans_loop l [] [] h (by simpa using hl) (by simpa using hl) k hk
theorem union_loop : ∀ (R P xa : List Sn) (t : Sn), P.length + R.length ≤ 100000000 → xa.length + R.length ≤ 100000000 → (∀ s ∈ R, 0 ≤ s.2 ∧ s.2 ≤ 4294967295) → 0 ≤ t.2 → t.2 ≤ 4294967295 → ∀ k, R.length + 1 ≤ k →
  impl_union.l0 k ((xa ++ [t]).map to5) ((P ++ R).map to5) ((P ++ R).length : Int) (P.length : Int) = some ((mrgG xa t R).map to5) := by
 intro R
 induction R with
 | nil =>
  intro P xa t hp ha _ _ _ k hk
  obtain ⟨k, rfl⟩ : ∃ j, k = j + 1 := ⟨k - 1, by omega⟩
  simp only [impl_union.l0]
  rw [if_neg (by simp)]
  rfl
 | cons s R ih =>
  intro P xa t hp ha hR t0 t1 k hk
  rw [List.length_cons] at hp ha hk
  obtain ⟨k, rfl⟩ : ∃ j, k = j + 1 := ⟨k - 1, by omega⟩
  obtain ⟨s0, s1⟩ := hR s List.mem_cons_self
  have hml : ((P ++ s :: R).map to5).length = P.length + 1 + R.length := by rw [List.length_map, mid_len]
  have hal : ((xa ++ [t]).map to5).length = xa.length + 1 := by rw [List.length_map, snoc_len]
  have hw : wrap64 (((xa.length + 1 : Nat) : Int) - 1) = (xa.length : Int) := by rw [w64 (by omega) (by omega)]; omega
  simp only [impl_union.l0]
  rw [hml, mid_len, hal, hw, if_pos (by omega), if_pos (by omega), if_pos (by omega), if_pos (by omega), if_pos (by omega), if_pos (by omega), rd5_mid, rd5_last, Int.toNat_natCast, wnat (by omega)]
  show (if s.1 ≤ wrap64 (t.2 + 1) then impl_union.l0 k (((xa ++ [t]).map to5).set xa.length (to5 (t.1, mx t.2 s.2))) _ _ _ else (if xa.length + 1 < 8796093022208 then impl_union.l0 k ((xa ++ [t]).map to5 ++ [to5 s]) _ _ _ else none)) = _
  rw [w64 (by omega) (by omega), mrgG]
  by_cases hc : s.1 ≤ t.2 + 1
  ·rw [if_pos hc, if_pos hc, set5_last]
   have hm : 0 ≤ mx t.2 s.2 ∧ mx t.2 s.2 ≤ 4294967295 := by unfold mx; split <;> omega
   have h := ih (P ++ [s]) xa (t.1, mx t.2 s.2) (by rw [snoc_len]; omega) (by omega) (fun u hu => hR u (List.mem_cons_of_mem _ hu)) hm.1 hm.2 k (by omega)
   rw [← mid_app, snoc_len, mid_len] at h
   exact h
  ·rw [if_neg hc, if_neg hc, if_pos (by omega), snoc5]
   have h := ih (P ++ [s]) (xa ++ [t]) s (by rw [snoc_len]; omega) (by rw [snoc_len]; omega) (fun u hu => hR u (List.mem_cons_of_mem _ hu)) s0 s1 k (by omega)
   rw [← mid_app P s R, snoc_len P s, mid_len] at h
   exact h
theorem union_all (S : List Sn) (hl : S.length ≤ 100000000) (hS : ∀ s ∈ S, 0 ≤ s.2 ∧ s.2 ≤ 4294967295) {k : Nat} (hk : S.length + 1 ≤ k) : impl_union.l0 k [] (S.map to5) (S.length : Int) 0 = some ((mrg S).map to5) := by
 cases S with
 | nil =>
  obtain ⟨k, rfl⟩ : ∃ j, k = j + 1 := ⟨k - 1, by omega⟩
  simp only [impl_union.l0]
  rfl
 | cons s R =>
  rw [List.length_cons] at hl hk
  obtain ⟨k, rfl⟩ : ∃ j, k = j + 1 := ⟨k - 1, by omega⟩
  obtain ⟨s0, s1⟩ := hS s List.mem_cons_self
  have hml : ((s :: R).map to5).length = 1 + R.length := by rw [List.length_map, List.length_cons]; omega
  have hml' : (s :: R).length = 1 + R.length := by rw [List.length_cons]; omega
  have hz : rd_T55 ((s :: R).map to5) 0 = to5 s := rfl
  simp only [impl_union.l0]
  rw [hml, hml', if_pos (by omega), if_pos (by omega), if_pos (by omega), if_neg (by simp), hz, if_pos (by simp), w64 (x := 0 + 1) (by omega) (by omega)]
  have h := union_loop R [s] [] s (by simp; omega) (by simp; omega) (fun u hu => hS u (List.mem_cons_of_mem _ hu)) s0 s1 k (by omega)
  rw [show ([s] ++ R).length = 1 + R.length by simp; omega] at h
  exact h
theorem sort_perm (xs : List S5) : (Un.sortSp xs).Perm xs := by
 have h := (Un.sortSp_raw xs).1.2.2
 have hl := Un.sortSp_length xs
 have e1 : ((Un.sortSp xs).toArray.extract 0 xs.toArray.size).toList = Un.sortSp xs := by
  rw [List.size_toArray, ← hl]; simp
 have e2 : (xs.toArray.extract 0 xs.toArray.size).toList = xs := by simp
 rwa [e1, e2] at h
theorem sort_sorted (xs : List S5) : (Un.sortSp xs).Pairwise fun s t => s.f0 ≤ t.f0 := by
 have h := (Un.sortSp_raw xs).2
 have hl := Un.sortSp_length xs
 rw [List.pairwise_iff_getElem]
 intro i j hi hj hij
 have h1 := h i j (Nat.zero_le _) hij (by rw [List.size_toArray, ← hl]; exact hj)
 rw [Un.ltSp, getElem!_pos _ j (by simpa using hj), getElem!_pos _ i (by simpa using hi)] at h1
 have h2 := of_decide_eq_false h1
 simp only [List.getElem_toArray] at h2
 omega
theorem union_ev {xs : List Sn} (h : ∀ s ∈ xs, Ok s) (hl : xs.length ≤ 100000000) {k : Nat} (hk : xs.length + 1 ≤ k) : impl_union.f k (xs.map to5) = some ((cn xs).map to5) := by
 unfold impl_union.f slices_SortedFunc_span.f
 rw [if_pos (by rw [List.length_map]; omega), Option.bind_some]
 have hp := sort_perm (xs.map to5)
 have hs := sort_sorted (xs.map to5)
 have hsl := Un.sortSp_length (xs.map to5)
 rw [List.length_map] at hsl
 generalize Un.sortSp (xs.map to5) = ys at hp hs hsl ⊢
 obtain ⟨zs, rfl⟩ : ∃ zs : List Sn, ys = zs.map to5 := ⟨ys.map of5, by rw [List.map_map, show (to5 ∘ of5) = id from rfl, List.map_id]⟩
 have hm : ∀ s, s ∈ zs ↔ s ∈ xs := fun s => by
  have := hp.mem_iff (a := to5 s)
  rw [List.mem_map, List.mem_map] at this
  constructor
  ·intro hz
   obtain ⟨u, hu, e⟩ := this.1 ⟨s, hz, rfl⟩
   rw [← of5_to5 s, ← e]
   exact hu
  ·intro hz
   obtain ⟨u, hu, e⟩ := this.2 ⟨s, hz, rfl⟩
   rw [← of5_to5 s, ← e]
   exact hu
 have hz : zs.Pairwise fun s t => s.1 ≤ t.1 := (List.pairwise_map.1 hs).imp fun h => h
 rw [List.length_map] at hsl ⊢
 rw [union_all zs (by omega) (fun s hs => by obtain ⟨s0, s1, s2⟩ := h s ((hm s).1 hs); exact ⟨by omega, s2⟩) (by omega)]
 obtain ⟨c1, c2⟩ := mrg_spec (xs := zs) (fun s hs => h s ((hm s).1 hs)) hz
 rw [cn_of h c1 fun p => by rw [c2]; exact memB_congr hm p]
theorem set_loop : ∀ (R P : List Sn) (acc : List Bl), P.length + R.length ≤ 100000000 → (∀ s ∈ R, Ok s) → (acc.length : Int) + wid R ≤ 5000000000 → ∀ k : Nat, R.length + 171798691930 ≤ k →
  impl_set.l0 k acc ((P ++ R).map to5) ((P ++ R).length : Int) (P.length : Int) = some (acc ++ coS R) := by
 intro R
 induction R with
 | nil =>
  intro P acc _ _ _ k hk
  obtain ⟨k, rfl⟩ : ∃ j, k = j + 1 := ⟨k - 1, by omega⟩
  simp only [impl_set.l0]
  rw [if_neg (by simp), coS_nil, List.append_nil]
 | cons s R ih =>
  intro P acc hl hR hw k hk
  rw [List.length_cons] at hl hk
  have hN := NN_eq
  obtain ⟨s0, s1, s2⟩ := hR s List.mem_cons_self
  have hw0 : 0 ≤ wid R := by
   have h1 := sumB_length (coS R)
   rw [coS_sum (fun t ht => hR t (List.mem_cons_of_mem _ ht))] at h1
   omega
  rw [wid_cons] at hw
  obtain ⟨k, rfl⟩ : ∃ j, k = j + 1 := ⟨k - 1, by omega⟩
  have hml : ((P ++ s :: R).map to5).length = P.length + 1 + R.length := by rw [List.length_map, mid_len]
  have hcl := cov_len (a := s.1) (b := s.2) NN (by omega) (by omega)
  simp only [impl_set.l0]
  rw [hml, mid_len, if_pos (by omega), if_pos (by omega), if_pos (by omega), rd5_mid, wnat (by omega)]
  show ((impl_span_blocks.f k s.1 s.2).bind fun t106 => _) = _
  rw [blocks_ev s0 s2 (by omega), Option.bind_some, if_pos (by omega)]
  have h := ih (P ++ [s]) (acc ++ cov NN s.1 s.2) (by rw [snoc_len]; omega) (fun t ht => hR t (List.mem_cons_of_mem _ ht)) (by rw [List.length_append]; push_cast; omega) k (by omega)
  rw [← mid_app, snoc_len, mid_len] at h
  rw [h, coS_cons, List.append_assoc]
theorem set_ev {xs : List Sn} (h : ∀ s ∈ xs, Ok s) (hl : xs.length ≤ 100000000) {k : Nat} (hk : 171900000000 ≤ k) : impl_set.f k (xs.map to5) = some (coS (cn xs)) := by
 have hc := (cn_spec h).1
 have hw := wid_le hc
 have hcl := cn_length xs
 unfold impl_set.f
 rw [union_ev h hl (by omega), Option.bind_some, List.length_map]
 exact set_loop (cn xs) [] [] (by simp; omega) hc.1 (by simp; omega) k (by omega)
theorem index_loop : ∀ (R P : List Bl), P.length + R.length ≤ 1000000000 → ∀ k, R.length + 1 ≤ k → ∃ v, slices_IndexFunc_Block.l0 k (P ++ R) ((P ++ R).length : Int) (P.length : Int) = some v ∧ decide (v ≥ 0) = !okB R := by
 intro R
 induction R with
 | nil =>
  intro P _ k hk
  obtain ⟨k, rfl⟩ : ∃ j, k = j + 1 := ⟨k - 1, by omega⟩
  refine ⟨-1, ?_, by simp [okB]⟩
  simp only [slices_IndexFunc_Block.l0]
  rw [if_neg (by simp)]
 | cons b R ih =>
  intro P hl k hk
  rw [List.length_cons] at hl hk
  obtain ⟨k, rfl⟩ : ∃ j, k = j + 1 := ⟨k - 1, by omega⟩
  simp only [slices_IndexFunc_Block.l0, impl_blocksOk_1.f]
  rw [mid_len, if_pos (by omega), if_pos (by omega), if_pos (by omega), rdB_mid, ok_impl, Option.bind_some, Option.bind_some, wnat (by omega)]
  by_cases hb : bok b.f0 b.f1 = true
  ·obtain ⟨v, hv, he⟩ := ih (P ++ [b]) (by rw [snoc_len]; omega) k (by omega)
   rw [← mid_app, snoc_len, mid_len] at hv
   refine ⟨v, ?_, ?_⟩
   ·rw [if_neg (by simp [hb])]; exact hv
   ·rw [he]; simp [okB, hb]
  ·refine ⟨P.length, ?_, ?_⟩
   ·rw [if_pos (by simp [hb])]
   ·have : okB (b :: R) = false := by simp [okB, hb]
    rw [this]
    simp
theorem blocks_impl (l : List Bl) (hl : l.length ≤ 1000000000) {k : Nat} (hk : 100 ≤ k) : impl_blocksOk.f k l = some (okB l && decide (l.length ≤ 64)) := by
 unfold impl_blocksOk.f slices_ContainsFunc_Block.f slices_IndexFunc_Block.f
 by_cases h : l.length ≤ 64
 ·obtain ⟨v, hv, he⟩ := index_loop l [] (by simpa using hl) k (by omega)
  rw [if_pos (by omega)]
  have hv' : slices_IndexFunc_Block.l0 k l (l.length : Int) 0 = some v := hv
  rw [hv', Option.bind_some, Option.bind_some, he, decide_eq_true h, Bool.not_not, Bool.and_true]
 ·rw [if_neg (by omega), decide_eq_false h, Bool.and_false]
theorem room_impl (l : List Bl) : impl_limited.f l = some (room l) := by
 unfold impl_limited.f room
 by_cases h : l.length ≤ 64
 ·rw [if_neg (by omega), if_pos h]
 ·rw [if_pos (by omega), if_neg h]
theorem setOf_impl (l : List Bl) (hl : l.length ≤ 100000000) {k : Nat} (hk : 171900000000 ≤ k) : impl_SetOf.f k l = some (ofB l) := by
 unfold impl_SetOf.f ofB
 rw [blocks_impl l (by omega) (by omega), Option.bind_some]
 by_cases h : okB l = true ∧ l.length ≤ 64
 ·have h2 := h.2
  rw [if_pos (by simp [h.1, h.2]), if_pos h, spans_ev h.1 (by omega) (by omega), Option.bind_some, set_ev (spns_ok h.1) (by rw [List.length_map]; omega) hk, Option.bind_some, room_impl, Option.bind_some]
  rfl
 ·rw [if_neg (by simpa using h), if_neg h]
end Go.Proofs.Ytmdhedkgpgoneaa.Se

namespace Go.Proofs.Ytmdhedkgpgoneaa.Se
set_option linter.unusedSimpArgs false
set_option linter.unusedVariables false
open Go.RowKit Go.Proofs.Ytmdhedkgpgoneaa.Q Go.Proofs.Ytmdhedkgpgoneaa.Pure Go.Proofs.Ytmdhedkgpgoneaa.Si Go.Proofs.YtmdhedkgpgoneaaW.PrintWords Go.Proofs.YtmdhedkgpgoneaaW.PrintLast Go.Proofs.YtmdhedkgpgoneaaW.PrintMore
/-- A block as the program has it. -/
def cvB (x : S46) : Bl := ⟨x.f0, x.f1⟩
theorem toBS_ev {l : List S46} {k : Nat} (hl : l.length ≤ 1048576) (hk : l.length < k) : laws_toBlockS.f k l = some (l.map cvB) := by
 unfold laws_toBlockS.f
 rw [if_pos (by omega), if_pos (by omega)]
 refine fill_loop laws_toBlockS.l0 cvB z46 l ?_ ?_ k _ hk (by simp)
 ·intro k i ys hi hy
  simp only [laws_toBlockS.l0, laws_toBlock.f, Option.bind_some]
  rw [if_pos (by omega), if_pos (by omega), if_pos (by omega), w64 (by omega) (by omega)]
  rfl
 ·intro k ys
  simp only [laws_toBlockS.l0]
  rw [if_neg (by omega)]
theorem szBS_ev (l : List S46) (n : Int) (h0 : 0 ≤ n) (h1 : n ≤ 1048576) (hl : l.length ≤ 9223372036854775807) : laws_szBlockS.f l n = some (if n - (l.length : Int) < 0 then (-1 : Int) else n - (l.length : Int)) := by
 unfold laws_szBlockS.f
 rw [w64 (by omega) (by omega)]
 split <;> rfl
theorem eqBS_ev (l : List Bl) (hl : l.length ≤ 35184372088832) {k : Nat} (hk : l.length + 10 < k) : laws_eqBlockS.f k l l = some true := by
 unfold laws_eqBlockS.f
 rw [if_pos rfl]
 refine true_loop (fun k i => laws_eqBlockS.l0 k l l i) l.length 1 true (fun k i hi _ => ?_) (fun k _ => ?_) k (by omega)
 ·simp only [laws_eqBlockS.l0]
  rw [if_pos (by omega), if_pos (by omega), if_pos (by omega)]
  unfold laws_eqBlock.f
  rw [if_pos rfl, if_pos rfl, Option.bind_some, if_pos rfl, w64 (by omega) (by omega)]
  rfl
 ·simp only [laws_eqBlockS.l0]
  rw [if_neg (by omega)]
/-- A marked block. -/
def mkB (v : Int) : Bl := ⟨v, v + 1⟩
theorem set_again {α : Type} (l : List α) (i : Nat) (a b : α) : (l.set i a).set i b = l.set i b := List.set_set ..
theorem rdB_set {l : List Bl} {i : Nat} (h : i < l.length) (z : Bl) : rd_T44 (l.set i z) (i : Int) = z := by
 show (l.set i z).getD i _ = z
 rw [List.getD_eq_getElem?_getD, List.getElem?_set_self h]; rfl
theorem markBS_ev (l : List Bl) (hl : l.length ≤ 10000000) (v : Int) (v0 : 1 ≤ v) (v1 : v ≤ 10000000) {k : Nat} (hk : l.length < k) : laws_markBlockS.f k l v = some (v + 2 * (l.length : Int), marks mkB 2 v l.length) := by
 unfold laws_markBlockS.f
 refine mark_loop laws_markBlockS.l0 mkB 2 (by omega) (fun k i xs v hi hx h0 h1 => ?_) (fun k xs v => ?_) l (by omega) v v0 (by omega) k hk
 ·simp only [laws_markBlockS.l0]
  rw [if_pos (by omega), if_pos (by omega), Option.bind_some, w64 (x := v + 1) (by omega) (by omega), w64 (x := v + 1 + 1) (by omega) (by omega), w64 (x := (i : Int) + 1) (by omega) (by omega)]
  rw [show ((i : Int)).toNat = i from Int.toNat_natCast i, set_again, rdB_set hi, show v + 1 + 1 = v + 2 by omega]
  rfl
 ·simp only [laws_markBlockS.l0]
  rw [if_neg (by omega)]
theorem heldBS_ev (n : Nat) (hn : n ≤ 10000000) (v : Int) (v0 : 1 ≤ v) (v1 : v ≤ 10000000) {k : Nat} (hk : n < k) : laws_heldBlockS.f k (marks mkB 2 v n) v = some (v + 2 * (n : Int)) := by
 unfold laws_heldBlockS.f
 refine held_loop laws_heldBlockS.l0 mkB 2 (by omega) (fun k i xs v hi hx h0 h1 hm => ?_) (fun k xs v => ?_) n (by omega) v v0 (by omega) k hk
 ·have e : rd_T44 xs (i : Int) = mkB v := by
   show xs.getD i _ = _
   rw [List.getD_eq_getElem?_getD, hm]; rfl
  simp only [laws_heldBlockS.l0]
  rw [if_pos (by omega), if_pos (by omega), e]
  unfold mkB
  rw [if_pos rfl, w64 (x := v + 1) (by omega) (by omega), if_pos rfl, w64 (x := v + 1 + 1) (by omega) (by omega), w64 (x := (i : Int) + 1) (by omega) (by omega), show v + 1 + 1 = v + 2 by omega]
  rfl
 ·simp only [laws_heldBlockS.l0]
  rw [if_neg (by omega)]
theorem room_len (l : List Bl) : (room l).1.length ≤ 64 := by
 unfold room
 split
 ·assumption
 ·simp
theorem of_len (l : List Bl) : (ofB l).1.length ≤ 64 := by
 unfold ofB
 split
 ·exact room_len _
 ·simp
end Go.Proofs.Ytmdhedkgpgoneaa.Se

namespace Go.Proofs.Ytmdhedkgpgoneaa.Se
set_option linter.unusedSimpArgs false
set_option linter.unusedVariables false
open Go.RowKit Go.Proofs.Ytmdhedkgpgoneaa.Q Go.Proofs.Ytmdhedkgpgoneaa.Pure Go.Proofs.Ytmdhedkgpgoneaa.Open Go.Proofs.Ytmdhedkgpgoneaa.Si Go.Proofs.YtmdhedkgpgoneaaW.PrintWords Go.Proofs.YtmdhedkgpgoneaaW.PrintLast Go.Proofs.YtmdhedkgpgoneaaW.PrintMore
theorem FnExactSetOf_law : laws_FnExactSetOf.Pure := by
 intro l hl
 obtain ⟨k, hk⟩ : ∃ k : Nat, 200000000000 ≤ k := ⟨200000000000, Nat.le_refl _⟩
 refine ⟨k + 3, ?_⟩
 unfold laws_FnExactSetOf.f
 rw [szBS_ev l 1048576 (by omega) (by omega) hl.1, Option.bind_some]
 by_cases h : (1048576 : Int) - (l.length : Int) < 0
 ·rw [if_pos (by rw [if_pos h]; omega)]
 ·rw [if_neg (by rw [if_neg h]; exact h)]
  have hm : (l.map cvB).length = l.length := List.length_map ..
  have t := fun j (hj : 1 ≤ j) => toBS_ev (l := l) (k := k + j) (by omega) (by omega)
  have s := setOf_spec (l.map cvB) (by omega) (k := k + 3) (by omega)
  have i := setOf_impl (l.map cvB) (by omega) (k := k + 3) (by omega)
  have i1 := setOf_impl (l.map cvB) (by omega) (k := k + 1) (by omega)
  have ho := of_len (l.map cvB)
  generalize ofB (l.map cvB) = r at s i i1 ho
  obtain ⟨r, o⟩ := r
  dsimp only at ho
  have t3 := t 3 (by omega)
  have t2 := t 2 (by omega)
  have t1 := t 1 (by omega)
  simp only [t3, s, i, Option.bind_some]
  rw [eqBS_ev _ (by omega) (by omega), Option.bind_some, if_pos rfl]
  simp only [laws_FnExactSetOf.j0]
  rw [if_neg (by simp), t2, Option.bind_some, eqBS_ev _ (by omega) (by omega), Option.bind_some, if_pos rfl, markBS_ev _ (by omega) 1 (by omega) (by omega) (by omega), Option.bind_some]
  dsimp only
  rw [if_neg (by omega)]
  rw [eqBS_ev _ (by omega) (by omega), Option.bind_some, if_pos rfl]
  simp only [laws_FnExactSetOf.j1]
  rw [if_neg (by simp), markBS_ev _ (by omega) 1 (by omega) (by omega) (by omega), Option.bind_some]
  dsimp only
  rw [heldBS_ev _ (by omega) 1 (by omega) (by omega) (by omega), Option.bind_some, if_neg (by omega), if_pos rfl]
  simp only [t1, i1, Option.bind_some]
  rw [eqBS_ev _ (by omega) (by omega), Option.bind_some, if_pos rfl]
  simp only [laws_FnExactSetOf.j2]
  rw [if_neg (by simp), heldBS_ev _ (by omega) 1 (by omega) (by omega) (by omega), Option.bind_some, if_neg (by omega), if_pos rfl]
end Go.Proofs.Ytmdhedkgpgoneaa.Se
namespace Go.Proofs.Ytmdhedkgpgoneaa.Pure
open Go.Proofs.Ytmdhedkgpgoneaa.Q
theorem FnExactSetOf : laws_FnExactSetOf.Pure := Se.FnExactSetOf_law
end Go.Proofs.Ytmdhedkgpgoneaa.Pure

namespace Go.Proofs.Ytmdhedkgpgoneaa.fnExactSetOf
open Go.ChangeShapes Go.WideShapes Go.ChangeAt Go.RowKit Go.Proofs.YtmdhedkgpgoneaaW.PrintWords Go.Proofs.Ytmdhedkgpgoneaa.Open Go.Proofs.Ytmdhedkgpgoneaa.Q
open Go.ChangeMaps (open_string shut_string)
set_option linter.unusedVariables false
theorem own : ownKnob Try.prog.godebug = none := by kernel_rfl
theorem laidOut : laidOutB Try.prog = true := by kernel_rfl
set_option maxRecDepth 100000 in
theorem lifted (os : Os) (started : os.Started) (H : Type) (enc : TypeId × Value → H) :
  ReturnsInHanded {} Try.checked os 4 .any (Rows.fnExactSetOfSpec.pre6 enc Try.prog Try.f4 Rows.fnExactSetOfRow.domain false) (Rows.fnExactSetOfSpec.post enc Try.prog Try.f4 false true false false) := by
 refine returnsInHanded_of_change_sized (C := Try.checked) own started (by kernel_rfl) Try.func4
  (ChangeSpec.witness6 (enc := enc) (C := Try.checked) false ⟨#[], #[.slice none 0 0], []⟩ 8 (by kernel_rfl) (by kernel_rfl) (by kernel_rfl) (by kernel_rfl)) ?_
 intro W base args ds gs before hval0 hW hcnd hsz0 _
 have hval : ∀ (j : Nat) t v, Try.f4.params[j]? = some t → args[j]? = some v → Value.okWide Try.prog W .any base t v := hval0
 have hW' := hW
 obtain ⟨p, q, hA0, hV, rfl, hfz, hnd⟩ := hW
 have hA : DataW.TrodAll enc Try.prog W 0 (fun _ => true) true Try.f4.params.toList args.toList ds p := hA0
 rw [Try.params4] at hA hval
 obtain ⟨v0, vs0, d0, ds0, p0, q0, hargs, rfl, rfl, h0, r0⟩ := trodAll_cons hA
 obtain ⟨rfl, rfl, rfl⟩ := trodAll_nil r0
 obtain rfl : args = #[v0] := by cases args; simp_all
 obtain ⟨rfl, rfl⟩ := trodVars_none hV
 have lt0 : ∀ x ∈ p0, x.block < W.heap.size := by obtain ⟨m, hm⟩ := h0; exact DataW.trod_lt m _ _ _ hm
 have k0 := h0
 obtain ⟨x0, K0, w0⟩ := open_arg (op22 W) h0
 obtain ⟨aa0, len0, cap0, rfl⟩ := okWide_slice Try.underlying22 (hval 0 22 v0 rfl rfl)
 obtain ⟨A0, c0, e0, hc0, hr0⟩ := K0
 obtain ⟨rfl, rfl, rfl⟩ := slice_of_cells e0
 obtain ⟨k, hp⟩ := Pure.FnExactSetOf x0 w0
 refine (laws_FnExactSetOf.calls k _ _ x0 true W hr0 hc0 hp).mono ?_
 rintro e W' ⟨rfl, bel0⟩
 have bel : Below W.heap.size W W' := bel0
 exact ⟨_, rfl, _, _, _, [], _, [], hW', trodAll_mk1 (shut_bool Try.underlying4 _), (trodAll_cons_mk (Below.trod laidOut (by kernel_rfl) (of_decide_eq_true (by kernel_rfl)) k0 bel lt0) trodAll_mk0), rfl, bel.frame _, fun h => by cases h⟩
theorem over : Rows.fnExactSetOfRow.holds Try.pinned (OpenSpec.ofChange Rows.fnExactSetOfSpec) :=
 OpenClaim.holds_of_wide 4 Try.f4 rfl rfl rfl rfl rfl rfl rfl ⟨rfl, rfl, rfl, rfl, rfl⟩ rfl rfl rfl rfl rfl (by kernel_rfl) Try.func4 (by kernel_rfl)
  (of_decide_eq_true (by kernel_rfl)) (by unfold Func.isWrapper; first | (rw [if_pos (by decide +kernel)]; kernel_rfl) | (rw [if_neg (by decide +kernel)]; exact ⟨rfl, rfl⟩))
  (fun os started H enc _ => lifted os started H enc)
theorem proved : Rows.FnExactSetOfSaid := over
#print axioms proved
end Go.Proofs.Ytmdhedkgpgoneaa.fnExactSetOf
namespace Go.Proofs.Ytmdhedkgpgoneaa
/-- The row, under a short name, for the claim. -/
theorem fnExactSetOf_holds : Rows.FnExactSetOfSaid := fnExactSetOf.proved
end Go.Proofs.Ytmdhedkgpgoneaa
