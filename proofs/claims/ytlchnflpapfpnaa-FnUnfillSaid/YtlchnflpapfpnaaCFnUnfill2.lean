/- The law FnUnfill (part 2 of 2): for every input the call answers true and its arguments read afterwards as before. No condition beyond the row's own. -/
import Derived.Test.YtlchnflpapfpnaaRows
import Derived.Test.YtlchnflpapfpnaaProg
import Derived.Below
import Derived.Deep.Draws
import Derived.Deep.AppendLies
import Derived.Maps.AppendAt
import Derived.OwnWalk
import Derived.Laws.BytesArg
import Derived.Laws.MakeOwn
import Derived.Laws.OwnMore
import Derived.Deep.OwnRows
import Derived.Tactics
import Derived.Lib.ConvBytes
import Derived.Laws.Slices
import Derived.WalkKit
import Derived.KernelRfl
import Derived.RowKit3
import Derived.Deep.LoopGhost
import Derived.Deep.QuietTactic
import Derived.BigQuiet
import Derived.WideLaws
import Derived.Deep.DeepCutAuto
import Derived.Deep.CutBlock
import Derived.Deep.RegionHeld3
import Derived.Laws.Rows
import Derived.Lib.AppendStr
import Derived.ArgAppend
import Derived.Laws.IdiomCopy
import Derived.OrdersHeld
import Derived.Laws.BitsLemmas
import Derived.RowKit
import Derived.Test.YtlchnflpapfpnaaWWords
import Derived.Test.YtlchnflpapfpnaaWLast
import Derived.Test.YtlchnflpapfpnaaWTab
import Derived.Test.YtlchnflpapfpnaaWFour
import Derived.Test.YtlchnflpapfpnaaWQPut
import Derived.Test.YtlchnflpapfpnaaWApart
import Derived.Test.YtlchnflpapfpnaaWArr
import Derived.Test.YtlchnflpapfpnaaWZeros
import Derived.Test.YtlchnflpapfpnaaWFoot
import Derived.Test.YtlchnflpapfpnaaWKept
import Derived.Test.YtlchnflpapfpnaaWShare
import Derived.Test.YtlchnflpapfpnaaWN
import Derived.Test.YtlchnflpapfpnaaWFootNe
import Derived.Test.YtlchnflpapfpnaaWAt
import Derived.Test.YtlchnflpapfpnaaWEqStruct
import Derived.Test.YtlchnflpapfpnaaWRepsOne
import Derived.Test.YtlchnflpapfpnaaWInv
import Derived.Test.YtlchnflpapfpnaaWInvWords
import Derived.Test.YtlchnflpapfpnaaWGuard
import Derived.Test.YtlchnflpapfpnaaWNEv
import Derived.Test.YtlchnflpapfpnaaWMore
import Derived.Shelf.Strings.Builder1
import Derived.Shelf.Strings.Builder2
import Derived.Shelf.Strings.BuilderF
import Derived.Shelf.Strings.Prefix
import Derived.Shelf.Bits.Mul64
import Derived.Shelf.Strings.Repeat
import Derived.Deep.Slices
import Derived.Deep.Fields
import Derived.ChangeSame
import Derived.ProofKit
import Derived.WideShapes
import Derived.OpenShut
import Derived.ShutString
import Derived.ChangeOld
import Derived.SizedLaws
import Derived.Test.YtlchnflpapfpnaaCFnUnfill1
/- Loops over lists, whatever they do: filling, checking, scanning, marking. Conditions: those in each statement. -/
namespace Go.Proofs.Ytlchnflpapfpnaa.Pure
open Go.RowKit
theorem w64 {x : Int} (h : -9223372036854775808 ≤ x) (h' : x ≤ 9223372036854775807) : wrap64 x = x := by
  unfold wrap64
  omega
/-- A loop that fills a list out of another one, element by element. -/
theorem fill_loop {α β : Type} (l0 : Nat → List α → List β → Int → Option (List β)) (f : α → β) (d : α) (xs : List α)
    (hstep : ∀ (k i : Nat) (ys : List β), i < xs.length → ys.length = xs.length → l0 (k + 1) xs ys (i : Int) = l0 k xs (ys.set i (f (xs.getD i d))) ((i + 1 : Nat) : Int))
    (hend : ∀ (k : Nat) (ys : List β), l0 (k + 1) xs ys (xs.length : Int) = some ys) :
    ∀ (k : Nat) (ys : List β), xs.length < k → ys.length = xs.length → l0 k xs ys 0 = some (xs.map f) := by
  have key : ∀ (e k i : Nat) (ys : List β), xs.length - i = e → e < k → i ≤ xs.length → ys.length = xs.length → (∀ j, j < i → ys[j]? = (xs.map f)[j]?) → l0 k xs ys (i : Int) = some (xs.map f) := by
    intro e
    induction e with
    | zero =>
      intro k i ys he hk hi hl hy
      obtain ⟨k, rfl⟩ : ∃ m, k = m + 1 := ⟨k - 1, by omega⟩
      obtain rfl : i = xs.length := by omega
      rw [hend]
      congr 1
      apply List.ext_getElem?
      intro j
      by_cases h : j < xs.length
      · exact hy j h
      · rw [List.getElem?_eq_none (by omega), List.getElem?_eq_none (by rw [List.length_map]; omega)]
    | succ e ih =>
      intro k i ys he hk hi hl hy
      obtain ⟨k, rfl⟩ : ∃ m, k = m + 1 := ⟨k - 1, by omega⟩
      have hlt : i < xs.length := by omega
      rw [hstep k i ys hlt hl]
      refine ih k (i + 1) _ (by omega) (by omega) (by omega) (by rw [List.length_set, hl]) (fun j hj => ?_)
      rw [List.getElem?_set]
      by_cases h : i = j
      · subst h
        rw [if_pos rfl, if_pos (by omega), List.getElem?_map, List.getElem?_eq_getElem hlt, List.getD_eq_getElem?_getD, List.getElem?_eq_getElem hlt]
        rfl
      · rw [if_neg h]
        exact hy j (by omega)
  intro k ys hk hl
  exact key xs.length k 0 ys (by omega) hk (by omega) hl (fun j hj => by omega)
/-- A loop that goes on at each place. -/
theorem true_loop {β : Type} (l0 : Nat → Int → Option β) (n K : Nat) (r : β) (hstep : ∀ k i : Nat, i < n → K ≤ k → l0 (k + 1) (i : Int) = l0 k ((i + 1 : Nat) : Int)) (hend : ∀ k : Nat, K ≤ k → l0 (k + 1) (n : Int) = some r) :
    ∀ k, n + K < k → l0 k 0 = some r := by
  have key : ∀ (e k i : Nat), n - i = e → e + K < k → i ≤ n → l0 k (i : Int) = some r := by
    intro e
    induction e with
    | zero =>
      intro k i he hk hi
      obtain ⟨k, rfl⟩ : ∃ m, k = m + 1 := ⟨k - 1, by omega⟩
      obtain rfl : i = n := by omega
      exact hend k (by omega)
    | succ e ih =>
      intro k i he hk hi
      obtain ⟨k, rfl⟩ : ∃ m, k = m + 1 := ⟨k - 1, by omega⟩
      rw [hstep k i (by omega) (by omega)]
      exact ih k (i + 1) (by omega) (by omega) (by omega)
  intro k hk
  exact key n k 0 (by omega) (by omega) (by omega)
/-- A loop that leaves at the first place that isn't good. -/
theorem scan_loop {β : Type} (l0 : Nat → Int → Option β) (n K : Nat) (good : Nat → Bool) (bad fin : β)
    (hgood : ∀ k i : Nat, i < n → K ≤ k → (∀ j, j < i → good j = true) → good i = true → l0 (k + 1) (i : Int) = l0 k ((i + 1 : Nat) : Int))
    (hbad : ∀ k i : Nat, i < n → K ≤ k → (∀ j, j < i → good j = true) → good i = false → l0 (k + 1) (i : Int) = some bad)
    (hend : ∀ k : Nat, K ≤ k → l0 (k + 1) (n : Int) = some fin) :
    ∀ k, n + K < k → l0 k 0 = some (if (List.range n).all good then fin else bad) := by
  have key : ∀ (e k i : Nat), n - i = e → e + K < k → i ≤ n → (∀ j, j < i → good j = true) → l0 k (i : Int) = some (if (List.range n).all good then fin else bad) := by
    intro e
    induction e with
    | zero =>
      intro k i he hk hi hg
      obtain ⟨k, rfl⟩ : ∃ m, k = m + 1 := ⟨k - 1, by omega⟩
      obtain rfl : i = n := by omega
      rw [hend k (by omega), if_pos]
      rw [List.all_eq_true]
      exact fun x hx => hg x (List.mem_range.1 hx)
    | succ e ih =>
      intro k i he hk hi hg
      obtain ⟨k, rfl⟩ : ∃ m, k = m + 1 := ⟨k - 1, by omega⟩
      cases hc : good i with
      | true =>
        rw [hgood k i (by omega) (by omega) hg hc]
        refine ih k (i + 1) (by omega) (by omega) (by omega) (fun j hj => ?_)
        by_cases h : j = i
        · rw [h]; exact hc
        · exact hg j (by omega)
      | false =>
        rw [hbad k i (by omega) (by omega) hg hc, if_neg]
        rw [List.all_eq_true]
        intro h
        have := h i (List.mem_range.2 (by omega))
        rw [hc] at this
        exact absurd this (by simp)
  intro k hk
  exact key n k 0 (by omega) (by omega) (by omega) (fun j hj => by omega)
/-- Two loops that go on, or leave with the same answer, at each place. -/
theorem same_loop {β : Type} (l0 l1 : Nat → Int → Option β) (n K : Nat)
    (hs : ∀ i : Nat, i < n → (∀ k, K ≤ k → l0 (k + 1) (i : Int) = l0 k ((i + 1 : Nat) : Int) ∧ l1 (k + 1) (i : Int) = l1 k ((i + 1 : Nat) : Int)) ∨ ∃ r, ∀ k, K ≤ k → l0 (k + 1) (i : Int) = some r ∧ l1 (k + 1) (i : Int) = some r)
    (he : ∃ r, ∀ k : Nat, K ≤ k → l0 (k + 1) (n : Int) = some r ∧ l1 (k + 1) (n : Int) = some r) : ∃ r, ∀ k, n + K < k → l0 k 0 = some r ∧ l1 k 0 = some r := by
  have key : ∀ (e i : Nat), n - i = e → i ≤ n → ∃ r, ∀ k, e + K < k → l0 k (i : Int) = some r ∧ l1 k (i : Int) = some r := by
    intro e
    induction e with
    | zero =>
      intro i hi1 hi
      obtain rfl : i = n := by omega
      obtain ⟨r, hr⟩ := he
      refine ⟨r, fun k hk => ?_⟩
      obtain ⟨k, rfl⟩ : ∃ m, k = m + 1 := ⟨k - 1, by omega⟩
      exact hr k (by omega)
    | succ e ih =>
      intro i hi1 hi
      rcases hs i (by omega) with h | ⟨r, hr⟩
      · obtain ⟨r, hr⟩ := ih (i + 1) (by omega) (by omega)
        refine ⟨r, fun k hk => ?_⟩
        obtain ⟨k, rfl⟩ : ∃ m, k = m + 1 := ⟨k - 1, by omega⟩
        rw [(h k (by omega)).1, (h k (by omega)).2]
        exact hr k (by omega)
      · refine ⟨r, fun k hk => ?_⟩
        obtain ⟨k, rfl⟩ : ∃ m, k = m + 1 := ⟨k - 1, by omega⟩
        exact hr k (by omega)
  obtain ⟨r, hr⟩ := key n 0 (by omega) (by omega)
  exact ⟨r, fun k hk => hr k hk⟩
/-- A list of marks. -/
def marks {α : Type} (m : Int → α) (s v : Int) (n : Nat) : List α := (List.range n).map fun (j : Nat) => m (v + s * (j : Int))
theorem marks_length {α : Type} (m : Int → α) (s v : Int) (n : Nat) : (marks m s v n).length = n := by simp [marks]
theorem marks_get {α : Type} (m : Int → α) (s v : Int) (n i : Nat) (h : i < n) : (marks m s v n)[i]? = some (m (v + s * i)) := by
  simp [marks, h]
/-- A loop that writes marks. -/
theorem mark_loop {α : Type} (l0 : Nat → List α → Int → Int → Option (Int × List α)) (m : Int → α) (s : Int) (hs : 0 ≤ s)
    (hstep : ∀ (k i : Nat) (xs : List α) (v : Int), i < xs.length → xs.length ≤ 35184372088832 → 1 ≤ v → v ≤ 1000000000000000000 → l0 (k + 1) xs v (i : Int) = l0 k (xs.set i (m v)) (v + s) ((i + 1 : Nat) : Int))
    (hend : ∀ (k : Nat) (xs : List α) (v : Int), l0 (k + 1) xs v (xs.length : Int) = some (v, xs)) (xs : List α) (hx : xs.length ≤ 35184372088832) (v : Int) (hv : 1 ≤ v) (hb : v + s * xs.length ≤ 1000000000000000000) :
    ∀ k, xs.length < k → l0 k xs v 0 = some (v + s * xs.length, marks m s v xs.length) := by
  have key : ∀ (e k i : Nat) (ys : List α), xs.length - i = e → e < k → i ≤ xs.length → ys.length = xs.length → (∀ j, j < i → ys[j]? = (marks m s v xs.length)[j]?) →
      l0 k ys (v + s * i) (i : Int) = some (v + s * xs.length, marks m s v xs.length) := by
    intro e
    induction e with
    | zero =>
      intro k i ys he hk hi hl hy
      obtain ⟨k, rfl⟩ : ∃ m, k = m + 1 := ⟨k - 1, by omega⟩
      obtain rfl : i = xs.length := by omega
      have h1 := hend k ys (v + s * (xs.length : Int))
      rw [hl] at h1
      rw [h1]
      congr 2
      apply List.ext_getElem?
      intro j
      by_cases h : j < xs.length
      · exact hy j h
      · rw [List.getElem?_eq_none (by omega), List.getElem?_eq_none (by rw [marks_length]; omega)]
    | succ e ih =>
      intro k i ys he hk hi hl hy
      obtain ⟨k, rfl⟩ : ∃ m, k = m + 1 := ⟨k - 1, by omega⟩
      have hlt : i < xs.length := by omega
      have h1 : s * (i : Int) ≤ s * (xs.length : Int) := Int.mul_le_mul_of_nonneg_left (by omega) hs
      have h2 : 0 ≤ s * (i : Int) := Int.mul_nonneg hs (by omega)
      rw [hstep k i ys (v + s * i) (by omega) (by omega) (by omega) (by omega), show v + s * (i : Int) + s = v + s * ((i + 1 : Nat) : Int) by rw [show ((i + 1 : Nat) : Int) = (i : Int) + 1 by omega, Int.mul_add]; omega]
      refine ih k (i + 1) _ (by omega) (by omega) (by omega) (by rw [List.length_set, hl]) (fun j hj => ?_)
      rw [List.getElem?_set]
      by_cases h : i = j
      · subst h
        rw [if_pos rfl, if_pos (by omega), marks_get _ _ _ _ _ hlt]
      · rw [if_neg h]
        exact hy j (by omega)
  intro k hk
  have := key xs.length k 0 xs (by omega) hk (by omega) rfl (fun j hj => by omega)
  rwa [show v + s * ((0 : Nat) : Int) = v by simp] at this
/-- A loop that reads marks. -/
theorem held_loop {α : Type} (l0 : Nat → List α → Int → Int → Option Int) (m : Int → α) (s : Int) (hs : 0 ≤ s)
    (hstep : ∀ (k i : Nat) (xs : List α) (v : Int), i < xs.length → xs.length ≤ 35184372088832 → 1 ≤ v → v ≤ 1000000000000000000 → xs[i]? = some (m v) → l0 (k + 1) xs v (i : Int) = l0 k xs (v + s) ((i + 1 : Nat) : Int))
    (hend : ∀ (k : Nat) (xs : List α) (v : Int), l0 (k + 1) xs v (xs.length : Int) = some v) (n : Nat) (hx : n ≤ 35184372088832) (v : Int) (hv : 1 ≤ v) (hb : v + s * n ≤ 1000000000000000000) :
    ∀ k, n < k → l0 k (marks m s v n) v 0 = some (v + s * n) := by
  have key : ∀ (e k i : Nat), n - i = e → e < k → i ≤ n → l0 k (marks m s v n) (v + s * i) (i : Int) = some (v + s * n) := by
    intro e
    induction e with
    | zero =>
      intro k i he hk hi
      obtain ⟨k, rfl⟩ : ∃ m, k = m + 1 := ⟨k - 1, by omega⟩
      obtain rfl : i = n := by omega
      have h1 := hend k (marks m s v i) (v + s * (i : Int))
      rw [marks_length] at h1
      exact h1
    | succ e ih =>
      intro k i he hk hi
      obtain ⟨k, rfl⟩ : ∃ m, k = m + 1 := ⟨k - 1, by omega⟩
      have hlt : i < n := by omega
      have h1 : s * (i : Int) ≤ s * (n : Int) := Int.mul_le_mul_of_nonneg_left (by omega) hs
      have h2 : 0 ≤ s * (i : Int) := Int.mul_nonneg hs (by omega)
      rw [hstep k i (marks m s v n) (v + s * i) (by rw [marks_length]; exact hlt) (by rw [marks_length]; exact hx) (by omega) (by omega) (marks_get _ _ _ _ _ hlt), show v + s * (i : Int) + s = v + s * ((i + 1 : Nat) : Int) by rw [show ((i + 1 : Nat) : Int) = (i : Int) + 1 by omega, Int.mul_add]; omega]
      exact ih k (i + 1) (by omega) (by omega) (by omega)
  intro k hk
  have := key n k 0 (by omega) hk (by omega)
  rwa [show v + s * ((0 : Nat) : Int) = v by simp] at this
end Go.Proofs.Ytlchnflpapfpnaa.Pure

/- What the functions of address blocks compute, in plain words: sizes, validity, last addresses, membership. Conditions: those in each statement. -/
namespace Go.Proofs.Ytlchnflpapfpnaa.Pure
open Go.RowKit Go.Proofs.Ytlchnflpapfpnaa.Q Go.Proofs.YtlchnflpapfpnaaW.PrintWords Go.Proofs.YtlchnflpapfpnaaW.PrintLast Go.Proofs.YtlchnflpapfpnaaW.PrintMore
/-- How many addresses a block of b bits has. -/
def sz (b : Int) : Int := 2 ^ (32 - b).toNat
theorem sz_pos (b : Int) : 0 < sz b := Int.pow_pos (by omega)
theorem sz_le {b : Int} (h : 0 ≤ b) : sz b ≤ 4294967296 := by
  have h1 : (32 - b).toNat ≤ 32 := by omega
  have h2 : (2 : Nat) ^ (32 - b).toNat ≤ 2 ^ 32 := Nat.pow_le_pow_right (by omega) h1
  have h3 : ((2 : Nat) ^ (32 - b).toNat : Nat) ≤ 4294967296 := by simpa using h2
  unfold sz
  have h4 : ((2 ^ (32 - b).toNat : Nat) : Int) = (2 : Int) ^ (32 - b).toNat := by norm_cast
  omega
theorem in_spec (a lo hi : Int) : spec_l1In.f a lo hi = some (decide (lo ≤ a ∧ a ≤ hi)) := by
  unfold spec_l1In.f
  by_cases h : a ≥ lo
  · rw [if_pos h]; simp [show lo ≤ a from h]
  · rw [if_neg h]; simp [show ¬ lo ≤ a from h]
theorem in_impl (a lo hi : Int) : impl_in.f a lo hi = some (decide (lo ≤ a ∧ a ≤ hi)) := by
  unfold impl_in.f
  by_cases h : a ≥ lo
  · rw [if_pos h]; simp [show lo ≤ a from h]
  · rw [if_neg h]; simp [show ¬ lo ≤ a from h]
/-- A block is valid. -/
def bok (a b : Int) : Bool := decide (0 ≤ a ∧ a ≤ 4294967295 ∧ 0 ≤ b ∧ b ≤ 32 ∧ a % sz b = 0)
theorem bok_iff {a b : Int} : bok a b = true ↔ 0 ≤ a ∧ a ≤ 4294967295 ∧ 0 ≤ b ∧ b ≤ 32 ∧ a % sz b = 0 := by
  unfold bok
  rw [decide_eq_true_iff]
theorem tmod_of {a b : Int} (h : 0 ≤ a) : Int.tmod a (sz b) = a % sz b := Int.tmod_eq_emod_of_nonneg h
/-- A valid block lies in another one. -/
def bin (a b c d : Int) : Bool := bok a b && (bok c d && (decide (b ≤ d) && decide (a ≤ c ∧ c ≤ a + sz b - 1)))
end Go.Proofs.Ytlchnflpapfpnaa.Pure

/- Filling up to whole pieces: the program's way and the reference's give the same text. Conditions: those in each statement. -/
namespace Go.Proofs.Ytlchnflpapfpnaa.Pure
set_option linter.unusedSimpArgs false
open Go.RowKit Go.Proofs.Ytlchnflpapfpnaa.Q Go.Proofs.YtlchnflpapfpnaaW.PrintWords Go.Proofs.YtlchnflpapfpnaaW.PrintLast Go.Proofs.YtlchnflpapfpnaaW.PrintMore
theorem fl_inj {a b : ByteArray} (h : a.data.toList = b.data.toList) : a = b := ByteArray.ext (Array.ext' h)
theorem fl_app (a b : ByteArray) : (a ++ b).data.toList = a.data.toList ++ b.data.toList := by rw [ByteArray.data_append, Array.toList_append]
theorem fl_len (s : ByteArray) : s.data.toList.length = s.size := by rw [data_length]
/-- Copies of a string. -/
def rep (x : ByteArray) (n : Nat) : ByteArray := ⟨(Lib.repeatL x.data.toList n).toArray⟩
theorem rep_list (x : ByteArray) (n : Nat) : (rep x n).data.toList = Lib.repeatL x.data.toList n := rfl
theorem repeatL_two (l : List UInt8) : ∀ m, Lib.repeatL (l ++ l) m = Lib.repeatL l (2 * m) := by
  intro m
  induction m with
  | zero => rfl
  | succ m ih =>
    rw [show 2 * (m + 1) = 2 * m + 1 + 1 by omega]
    show (l ++ l) ++ Lib.repeatL (l ++ l) m = l ++ (l ++ Lib.repeatL l (2 * m))
    rw [ih, List.append_assoc]
theorem rep_size (x : ByteArray) (n : Nat) : (rep x n).size = n * x.size := by
  rw [← fl_len, rep_list, Lib.repeatL_length, fl_len]
theorem many_ev : ∀ (N n : Nat), N ≤ 1000000 → n ≤ N → ∀ (x acc : ByteArray) (k : Nat), acc.size + x.size * n ≤ 1000000000 → N + 1 ≤ k → spec_l1Many.l0 k x (n : Int) acc = some (acc ++ rep x n) := by
  intro N
  induction N with
  | zero =>
    intro n hN hn x acc k hx hk
    obtain ⟨k, rfl⟩ : ∃ m, k = m + 1 := ⟨k - 1, by omega⟩
    obtain rfl : n = 0 := by omega
    simp only [spec_l1Many.l0]
    rw [if_neg (by omega)]
    congr 1
    apply fl_inj
    rw [fl_app, rep_list]
    show _ = _ ++ []
    rw [List.append_nil]
  | succ N ih =>
    intro n hN hn x acc k hx hk
    by_cases h0 : n = 0
    · exact ih n (by omega) (by omega) x acc k hx (by omega)
    obtain ⟨k, rfl⟩ : ∃ m, k = m + 1 := ⟨k - 1, by omega⟩
    have hx1 : x.size ≤ x.size * n := Nat.le_mul_of_pos_right _ (by omega)
    have er : ∀ q, rep (x ++ x) q = rep x (2 * q) := by
      intro q
      apply fl_inj
      rw [rep_list, fl_app, repeatL_two, rep_list]
    have e2 : wrap64 (Int.tdiv (n : Int) 2) = ((n / 2 : Nat) : Int) := by
      rw [Int.tdiv_eq_ediv_of_nonneg (by omega), w64 (by omega) (by omega)]
      omega
    simp only [spec_l1Many.l0]
    rw [if_pos (by omega), Int.tmod_eq_emod_of_nonneg (show (0 : Int) ≤ (n : Int) by omega), e2]
    obtain ⟨q, hq⟩ : ∃ q, q = n / 2 := ⟨_, rfl⟩
    rw [← hq]
    have hs : (x ++ x).size * q = 2 * (x.size * q) := by rw [ByteArray.size_append, ← Nat.two_mul, Nat.mul_assoc]
    by_cases hodd : n % 2 = 1
    · have hn2 : n = 2 * q + 1 := by omega
      have e : x.size * n = 2 * (x.size * q) + x.size := by rw [hn2, Nat.mul_add, Nat.mul_one, Nat.mul_left_comm]
      rw [if_pos (by omega), if_pos (by omega), if_pos (by omega), ih q (by omega) (by omega) (x ++ x) (acc ++ x) k (by rw [hs, ByteArray.size_append]; omega) (by omega), er]
      congr 1
      apply fl_inj
      rw [fl_app, fl_app, fl_app, rep_list, rep_list, hn2, List.append_assoc]
      rfl
    · have hn2 : n = 2 * q := by omega
      have e : x.size * n = 2 * (x.size * q) := by rw [hn2, Nat.mul_left_comm]
      rw [if_neg (by omega), if_pos (by omega), ih q (by omega) (by omega) (x ++ x) acc k (by rw [hs]; omega) (by omega), er, ← hn2]
/-- The byte that is filled with, and how often. -/
def fill_n (s : ByteArray) : Int := 16 - (s.size : Int) % 16
theorem fill_n_range (s : ByteArray) : 1 ≤ fill_n s ∧ fill_n s ≤ 16 := by unfold fill_n; omega
/-- A text filled up to whole pieces. -/
def fill (s : ByteArray) : ByteArray := s ++ rep (strOfNums [fill_n s]) (fill_n s).toNat
theorem fill_size (s : ByteArray) : ((fill s).size : Int) = (s.size : Int) + fill_n s := by
  have := fill_n_range s
  unfold fill
  rw [ByteArray.size_append, rep_size, strOfNums_size]
  simp only [List.length_cons, List.length_nil]
  omega
theorem fl_by0 {a : Int} (h0 : 0 ≤ a) (h1 : a ≤ 255) : (shr .i64 a 0) % 256 = a := by
  unfold shr
  rw [show (2 : Int) ^ min (0 : Int).toNat IntKind.i64.bits = 1 from by decide, Int.ediv_one]
  omega
theorem fl_num {a : Int} (h0 : 0 ≤ a) (h1 : a ≤ 255) (k : Nat) : impl_numbered.f (k + 6) a 1 = some (strOfNums [a]) := by
  simp [impl_numbered.f, impl_numbered.l0, wrap64, List.replicate, fl_by0 h0 h1]
theorem fl_byt {a : Int} (h0 : 0 ≤ a) (h1 : a ≤ 255) (k : Nat) : spec_l8Bytes.f (k + 6) a 1 = some (strOfNums [a]) := by
  simp [spec_l8Bytes.f, spec_l8Bytes.l0, wrap64, fl_by0 h0 h1]
theorem fill_spec {s : ByteArray} (hs : s.size ≤ 2000000) {k : Nat} (hk : 100 ≤ k) : spec_Fill.f k s = some (fill s) := by
  obtain ⟨n0, n1⟩ := fill_n_range s
  obtain ⟨k, rfl⟩ : ∃ m, k = m + 6 := ⟨k - 6, by omega⟩
  unfold spec_Fill.f
  show (spec_l8Bytes.f (k + 6) (fill_n s) 1).bind (fun t101 => (spec_l1Many.f (k + 6) t101 (fill_n s)).bind _) = _
  rw [fl_byt (by omega) (by omega), Option.bind_some]
  have e : spec_l1Many.f (k + 6) (strOfNums [fill_n s]) (fill_n s) = some (rep (strOfNums [fill_n s]) (fill_n s).toNat) := by
    unfold spec_l1Many.f
    have := many_ev 16 (fill_n s).toNat (by omega) (by omega) (strOfNums [fill_n s]) ⟨#[]⟩ (k + 6) (by rw [strOfNums_size]; show 0 + 1 * (fill_n s).toNat ≤ 1000000000; omega) (by omega)
    rw [show (((fill_n s).toNat : Nat) : Int) = fill_n s by omega] at this
    rw [this]
    congr 1
  rw [e, Option.bind_some, if_pos (by rw [rep_size, strOfNums_size]; show s.size + (fill_n s).toNat * 1 ≤ _; omega)]
  rfl
theorem fill_impl {s : ByteArray} (hs : s.size ≤ 2000000) {k : Nat} (hk : 100 ≤ k) : impl_Fill.f k s = some (fill s) := by
  obtain ⟨n0, n1⟩ := fill_n_range s
  obtain ⟨k, rfl⟩ : ∃ m, k = m + 6 := ⟨k - 6, by omega⟩
  unfold impl_Fill.f
  show (impl_numbered.f (k + 6) (fill_n s) 1).bind (fun t101 => (strings_Repeat.f t101 (fill_n s)).bind _) = _
  rw [fl_num (by omega) (by omega), Option.bind_some]
  have e : strings_Repeat.f (strOfNums [fill_n s]) (fill_n s) = some (rep (strOfNums [fill_n s]) (fill_n s).toNat) := by
    unfold strings_Repeat.f
    rw [if_pos ⟨⟨by omega, by omega⟩, by rw [strOfNums_size]; show 1 ≤ 1000000; omega⟩]
    rfl
  rw [e, Option.bind_some, if_pos (by rw [rep_size, strOfNums_size]; show s.size + (fill_n s).toNat * 1 ≤ _; omega)]
  rfl
/-- A filled text taken back. -/
def unfill (s : ByteArray) : ByteArray × Bool :=
  if s.size = 0 then (⟨#[]⟩, false)
  else if (1 ≤ bt s ((s.size : Int) - 1) ∧ bt s ((s.size : Int) - 1) ≤ (s.size : Int)) ∧ (fill (s.extract 0 ((s.size : Int) - bt s ((s.size : Int) - 1)).toNat)).toList = s.toList then (s.extract 0 ((s.size : Int) - bt s ((s.size : Int) - 1)).toNat, true)
  else (⟨#[]⟩, false)
theorem toList_size {a b : ByteArray} (h : a.toList = b.toList) : a.size = b.size := by
  rw [ByteArray.toList_eq, ByteArray.toList_eq] at h
  rw [← fl_len, ← fl_len, h]
theorem toList_same {a b : ByteArray} (h : a.toList = b.toList) : a = b := by
  rw [ByteArray.toList_eq, ByteArray.toList_eq] at h
  exact fl_inj h
theorem toList_nil (a : ByteArray) : a.toList = [] ↔ a.size = 0 := by
  rw [ByteArray.toList_eq, ← fl_len]
  exact List.length_eq_zero_iff.symm
theorem unfill_spec {s : ByteArray} (hs : s.size ≤ 2000000) {k : Nat} (hk : 100 ≤ k) : spec_Unfill.f k s = some (unfill s) := by
  unfold spec_Unfill.f unfill
  by_cases h0 : s.size = 0
  · rw [if_pos (by omega), if_pos h0]
  have hb := bt_range s ((s.size : Int) - 1)
  rw [if_neg (by omega), if_neg h0, w64 (x := (s.size : Int) - 1) (by omega) (by omega), if_pos (by omega), if_pos (by omega)]
  generalize bt s ((s.size : Int) - 1) = m at hb
  rw [w64 (x := m) (by omega) (by omega), in_spec, Option.bind_some]
  by_cases h1 : 1 ≤ m ∧ m ≤ (s.size : Int)
  · have hz : (s.extract 0 ((s.size : Int) - m).toNat).size ≤ 2000000 := by rw [ByteArray.size_extract]; omega
    rw [if_pos (decide_eq_true h1), w64 (x := (s.size : Int) - m) (by omega) (by omega), if_pos (by omega), if_pos (by omega), fill_spec hz hk, Option.bind_some]
    by_cases h2 : (fill (s.extract 0 ((s.size : Int) - m).toNat)).toList = s.toList
    · rw [if_pos h2, if_pos ⟨h1, h2⟩]
    · rw [if_neg h2, if_neg (fun h => h2 h.2)]
  · rw [if_neg (by simpa using h1), if_neg (fun h => h1 h.1)]
theorem unfill_impl {s : ByteArray} (hs : s.size ≤ 2000000) {k : Nat} (hk : 100 ≤ k) : impl_Unfill.f k s = some (unfill s) := by
  unfold impl_Unfill.f unfill
  by_cases h0 : s.size = 0
  · rw [if_pos ((toList_nil s).2 h0), if_pos h0]
  have hb := bt_range s ((s.size : Int) - 1)
  rw [if_neg (fun h => h0 ((toList_nil s).1 h)), if_neg h0, w64 (x := (s.size : Int) - 1) (by omega) (by omega), if_pos (by omega), if_pos (by omega)]
  generalize bt s ((s.size : Int) - 1) = m at hb
  have em : mn (s.size : Int) 16 = if (16 : Int) < (s.size : Int) then 16 else (s.size : Int) := rfl
  have em1 : mn (s.size : Int) 16 ≤ 16 ∧ mn (s.size : Int) 16 ≤ (s.size : Int) ∧ ∀ x : Int, x ≤ 16 → x ≤ (s.size : Int) → x ≤ mn (s.size : Int) 16 := by
    rw [em]
    refine ⟨?_, ?_, fun x => ?_⟩ <;> split <;> omega
  rw [w64 (x := m) (by omega) (by omega), in_impl, Option.bind_some]
  by_cases h1 : 1 ≤ m ∧ m ≤ mn (s.size : Int) 16
  · have hz : (s.extract 0 ((s.size : Int) - m).toNat).size ≤ 2000000 := by rw [ByteArray.size_extract]; omega
    rw [if_pos (decide_eq_true h1), w64 (x := (s.size : Int) - m) (by omega) (by omega), if_pos (by omega), if_pos (by omega), fill_impl hz hk, Option.bind_some]
    by_cases h2 : (fill (s.extract 0 ((s.size : Int) - m).toNat)).toList = s.toList
    · rw [if_pos h2, if_pos ⟨⟨h1.1, by omega⟩, h2⟩]
    · rw [if_neg h2, if_neg (fun h => h2 h.2)]
  · rw [if_neg (by simpa using h1), if_neg ?_]
    rintro ⟨⟨g0, g1⟩, g2⟩
    have z := toList_size g2
    have z2 := fill_size (s.extract 0 ((s.size : Int) - m).toNat)
    have n2 := fill_n_range (s.extract 0 ((s.size : Int) - m).toNat)
    have z3 : (s.extract 0 ((s.size : Int) - m).toNat).size = ((s.size : Int) - m).toNat := by rw [ByteArray.size_extract]; omega
    exact h1 ⟨g0, em1.2.2 m (by omega) g1⟩
end Go.Proofs.Ytlchnflpapfpnaa.Pure

/- The reference's draws: each answers, and within the ranges it names. Conditions: those in each statement. -/
namespace Go.Proofs.Ytlchnflpapfpnaa.Pure
set_option linter.unusedSimpArgs false
open Go.RowKit Go.Proofs.Ytlchnflpapfpnaa.Q Go.Proofs.Ytlchnflpapfpnaa.Open Go.Proofs.YtlchnflpapfpnaaW.PrintWords Go.Proofs.YtlchnflpapfpnaaW.PrintLast Go.Proofs.YtlchnflpapfpnaaW.PrintMore
/-- Bytes, at most two thousand of them. -/
def rdOk (xs : List Int) : Prop := (∀ y ∈ xs, 0 ≤ y ∧ y ≤ 255) ∧ xs.length ≤ 2000
theorem fits_u8 {y : Int} (h : Fits .u8 y) : 0 ≤ y ∧ y ≤ 255 := by
  have g : (decide (IntKind.u8.min ≤ y) && decide (y ≤ IntKind.u8.max)) = true := h
  rw [Bool.and_eq_true, decide_eq_true_eq, decide_eq_true_eq] at g
  exact g
theorem xor_nn {a b : Int} (ha : 0 ≤ a) (ha' : a < 4611686018427387904) (hb : 0 ≤ b) (hb' : b < 4611686018427387904) : 0 ≤ Go.bits .xor .i64 a b := by
  obtain ⟨m, rfl⟩ := Int.eq_ofNat_of_zero_le ha
  obtain ⟨n, rfl⟩ := Int.eq_ofNat_of_zero_le hb
  have hm : m < 2 ^ 62 := by omega
  have hn : n < 2 ^ 62 := by omega
  have hx : m ^^^ n < 2 ^ 62 := Nat.xor_lt_two_pow hm hn
  simp only [Go.bits, BitVec.ofInt_natCast, BitVec.toNat_xor, BitVec.toNat_ofNat]
  rw [Nat.mod_eq_of_lt (show m < 2 ^ IntKind.i64.bits by show m < 2 ^ 64; omega), Nat.mod_eq_of_lt (show n < 2 ^ IntKind.i64.bits by show n < 2 ^ 64; omega), IntKind.wrap_i64]
  generalize m ^^^ n = z at hx
  omega
theorem rd_byte {xs : List Int} (hx : rdOk xs) (i : Int) : 0 ≤ rd xs i ∧ rd xs i ≤ 255 := by
  show 0 ≤ xs.getD i.toNat 0 ∧ xs.getD i.toNat 0 ≤ 255
  rw [List.getD_eq_getElem?_getD]
  by_cases h : i.toNat < xs.length
  · rw [List.getElem?_eq_getElem h]
    exact hx.1 _ (List.getElem_mem h)
  · rw [List.getElem?_eq_none (by omega)]
    decide
theorem last_le {a b : Int} (h : bok a b = true) : a + sz b - 1 ≤ 4294967295 := by
  obtain ⟨h0, h1, h2, h3, h4⟩ := bok_iff.1 h
  have hp := sz_pos b
  have e : (4294967296 : Int) = sz b * 2 ^ b.toNat := by
    unfold sz
    rw [← Int.pow_add, show (32 - b).toNat + b.toNat = 32 by omega]
    decide
  have d1 : sz b ∣ a := Int.dvd_of_emod_eq_zero h4
  have d2 : sz b ∣ 4294967296 := ⟨_, e⟩
  have d3 : sz b ∣ 4294967296 - a := Int.dvd_sub d2 d1
  have := Int.le_of_dvd (by omega) d3
  omega
theorem tmod_in {a n : Int} (ha : 0 ≤ a) (hn : 1 ≤ n) : 0 ≤ Int.tmod a n ∧ Int.tmod a n < n := ⟨Int.tmod_nonneg _ ha, Int.tmod_lt_of_pos _ (by omega)⟩
theorem pick_ev {xs : List Int} (hx : rdOk xs) {s n : Int} (hs : 0 ≤ s) (hs' : s ≤ 1000000000) (hn : 1 ≤ n) {k : Nat} (hk : 1 ≤ k) : ∃ v, spec_l1Rd_pick.f k xs s n = some (v, s + 1) ∧ 0 ≤ v ∧ v < n := by
  obtain ⟨k, rfl⟩ : ∃ m, k = m + 1 := ⟨k - 1, by omega⟩
  have hl := hx.2
  unfold spec_l1Rd_pick.f
  rw [if_neg (by omega), w64 (x := s + 1) (by omega) (by omega)]
  simp only [spec_l1Rd_pick.j0]
  rw [w64 (x := s + 1 - 1) (by omega) (by omega), show s + 1 - 1 = s by omega]
  by_cases h0 : xs.length = 0
  · rw [if_pos (by simp [h0])]
    exact ⟨0, rfl, by omega, by omega⟩
  · rw [if_neg (by simp; intro h; exact h0 (by rw [h]; rfl))]
    by_cases h1 : s < (xs.length : Int)
    · obtain ⟨g0, g1⟩ := rd_byte hx s
      rw [if_pos h1, if_pos hs, if_neg (by omega), w64 (by omega) (by omega)]
      obtain ⟨t0, t1⟩ := tmod_in g0 hn
      exact ⟨_, rfl, t0, t1⟩
    · rw [if_neg h1, if_neg (by omega)]
      obtain ⟨i0, i1⟩ := tmod_in (n := (xs.length : Int)) hs (by omega)
      rw [if_pos i0, if_pos i1, w64 (x := s * 7) (by omega) (by omega), w64 (x := s * 7 + 3) (by omega) (by omega)]
      obtain ⟨j0, j1⟩ := tmod_in (a := s * 7 + 3) (n := (xs.length : Int)) (by omega) (by omega)
      rw [if_pos j0, if_pos j1, if_neg (by omega)]
      obtain ⟨g0, g1⟩ := rd_byte hx (Int.tmod s (xs.length : Int))
      obtain ⟨f0, f1⟩ := rd_byte hx (Int.tmod (s * 7 + 3) (xs.length : Int))
      have q0 : 0 ≤ Int.tdiv s (xs.length : Int) := Int.tdiv_nonneg hs (by omega)
      have q1 : Int.tdiv s (xs.length : Int) ≤ s := by
        rw [Int.tdiv_eq_ediv_of_nonneg hs]
        exact Int.ediv_le_self _ hs
      generalize rd xs (Int.tmod s (xs.length : Int)) = g at *
      generalize rd xs (Int.tmod (s * 7 + 3) (xs.length : Int)) = f at *
      generalize Int.tdiv s (xs.length : Int) = q at *
      rw [w64 (x := g) (by omega) (by omega), w64 (x := f) (by omega) (by omega), w64 (x := q) (by omega) (by omega), w64 (x := g * 131) (by omega) (by omega), w64 (x := f * 1117) (by omega) (by omega), w64 (x := s * 29) (by omega) (by omega), w64 (x := q * 53) (by omega) (by omega), w64 (x := g * 131 + f * 1117) (by omega) (by omega), w64 (x := g * 131 + f * 1117 + s * 29) (by omega) (by omega), w64 (x := g * 131 + f * 1117 + s * 29 + q * 53) (by omega) (by omega)]
      have hA : 0 ≤ g * 131 + f * 1117 + s * 29 + q * 53 := by omega
      have hA' : g * 131 + f * 1117 + s * 29 + q * 53 < 4611686018427387904 := by omega
      generalize g * 131 + f * 1117 + s * 29 + q * 53 = A at hA hA'
      rw [Int.tdiv_eq_ediv_of_nonneg hA, w64 (x := A / 64) (by omega) (by omega)]
      obtain ⟨t0, t1⟩ := tmod_in (xor_nn hA hA' (b := A / 64) (by omega) (by omega)) hn
      exact ⟨_, rfl, t0, t1⟩
theorem one_ev {xs : List Int} (hx : rdOk xs) {s : Int} (hs : 0 ≤ s) (hs' : s ≤ 1000000000) (l : List Int) (hl : 1 ≤ l.length) {k : Nat} (hk : 1 ≤ k) : ∃ v, spec_l1Rd_one.f k xs s l = some (v, s + 1) ∧ v ∈ l := by
  unfold spec_l1Rd_one.f
  obtain ⟨v, e, v0, v1⟩ := pick_ev hx hs hs' (n := (l.length : Int)) (by omega) hk
  rw [e, Option.bind_some]
  dsimp only
  rw [if_pos v0, if_pos v1]
  refine ⟨_, rfl, ?_⟩
  show l.getD v.toNat 0 ∈ l
  rw [List.getD_eq_getElem?_getD, List.getElem?_eq_getElem (by omega)]
  exact List.getElem_mem _
theorem rdof_ev {xs : List Int} (hx : rdOk xs) {s : Int} (hs : 0 ≤ s) (hs' : s ≤ 1000000000) (l : List ByteArray) (hl : 1 ≤ l.length) {k : Nat} (hk : 1 ≤ k) : ∃ v, spec_l1Rd_of.f k xs s l = some (v, s + 1) ∧ v ∈ l := by
  unfold spec_l1Rd_of.f
  obtain ⟨v, e, v0, v1⟩ := pick_ev hx hs hs' (n := (l.length : Int)) (by omega) hk
  rw [e, Option.bind_some]
  dsimp only
  rw [if_pos v0, if_pos v1]
  refine ⟨_, rfl, ?_⟩
  show l.getD v.toNat ByteArray.empty ∈ l
  rw [List.getD_eq_getElem?_getD, List.getElem?_eq_getElem (by omega)]
  exact List.getElem_mem _
theorem drBytes_ev2 {xs : List Int} (hx : rdOk xs) : ∀ (n : Nat) (s : Int) (acc : List Int), 0 ≤ s → s + 3 * n ≤ 999999000 → acc.length + n ≤ 1000 → ∀ k, n + 2 ≤ k → ∃ t v, spec_l12Bytes.l0 k (n : Int) acc xs s = some (strOfNums v, t) ∧ v.length = acc.length + n ∧ s ≤ t ∧ t ≤ s + 3 * n := by
  intro n
  induction n with
  | zero =>
    intro s acc hs hs' ha k hk
    obtain ⟨k, rfl⟩ : ∃ m, k = m + 1 := ⟨k - 1, by omega⟩
    simp only [spec_l12Bytes.l0]
    rw [if_neg (by omega)]
    exact ⟨_, acc, rfl, by omega, by omega, by omega⟩
  | succ n ih =>
    intro s acc hs hs' ha k hk
    obtain ⟨k, rfl⟩ : ∃ m, k = m + 1 := ⟨k - 1, by omega⟩
    obtain ⟨v0, e0, l0, u0⟩ := pick_ev hx (s := s) (n := 256) (by omega) (by omega) (by omega) (show 1 ≤ k by omega)
    obtain ⟨v1, e1, l1, u1⟩ := pick_ev hx (s := s + 1) (n := 256) (by omega) (by omega) (by omega) (show 1 ≤ k by omega)
    obtain ⟨v2, e2, _⟩ := one_ev hx (s := s + 1 + 1) (by omega) (by omega) [0, 255, v0, v1] (by simp) (show 1 ≤ k by omega)
    simp only [spec_l12Bytes.l0]
    rw [if_pos (by omega), e0, Option.bind_some]
    dsimp only
    rw [e1, Option.bind_some]
    dsimp only
    rw [e2, Option.bind_some]
    dsimp only
    rw [if_pos (by omega), w64 (by omega) (by omega), show ((n + 1 : Nat) : Int) - 1 = (n : Int) by omega]
    obtain ⟨t, v, e, hv, t0, t1⟩ := ih (s + 1 + 1 + 1) (acc ++ [v2 % 256]) (by omega) (by omega) (by rw [List.length_append, List.length_singleton]; omega) k (by omega)
    exact ⟨t, v, e, by rw [hv, List.length_append, List.length_singleton]; omega, by omega, by omega⟩
theorem drBytes_ev {xs : List Int} (hx : rdOk xs) (n : Nat) (s : Int) (acc : List Int) (hs : 0 ≤ s) (hs' : s + 3 * n ≤ 999999000) (ha : acc.length + n ≤ 1000) (k : Nat) (hk : n + 2 ≤ k) : ∃ t v, spec_l12Bytes.l0 k (n : Int) acc xs s = some (strOfNums v, t) ∧ v.length = acc.length + n := by
  obtain ⟨t, v, e, hv, _⟩ := drBytes_ev2 hx n s acc hs hs' ha k hk
  exact ⟨t, v, e, hv⟩
theorem drCut_ev {xs : List Int} (hx : rdOk xs) {s : Int} (hs : 0 ≤ s) (hs' : s ≤ 999999900) (a : ByteArray) (ha : a.size ≤ 100000) {k : Nat} (hk : 1 ≤ k) : ∃ v t, spec_l12Cut.f k xs s a = some (v, t) ∧ v.size ≤ a.size + 3 := by
  unfold spec_l12Cut.f
  obtain ⟨p, ep, p0, p1⟩ := pick_ev hx hs (by omega) (n := (a.size : Int) + 1) (by omega) hk
  obtain ⟨q, eq, q0, q1⟩ := pick_ev hx (s := s + 1) (n := 5) (by omega) (by omega) (by omega) hk
  rw [w64 (x := (a.size : Int) + 1) (by omega) (by omega), ep, Option.bind_some]
  dsimp only
  rw [eq, Option.bind_some]
  dsimp only
  have z1 : (a.extract 0 p.toNat).size = p.toNat := by rw [ByteArray.size_extract]; omega
  have z2 : (a.extract p.toNat a.size).size = a.size - p.toNat := by rw [ByteArray.size_extract]; omega
  by_cases h0 : q = 0
  · rw [if_pos h0, if_pos p0, if_pos (by omega)]
    obtain ⟨v, ev, hv⟩ := rdof_ev hx (s := s + 1 + 1) (by omega) (by omega) [⟨#[48]⟩, ⟨#[46]⟩, ⟨#[47]⟩, ⟨#[32]⟩, ⟨#[49]⟩, ⟨#[50, 53, 54]⟩, ⟨#[10]⟩, ⟨#[45]⟩, ⟨#[120]⟩] (by simp) hk
    have hv3 : v.size ≤ 3 := by
      simp only [List.mem_cons, List.not_mem_nil, or_false] at hv
      rcases hv with h | h | h | h | h | h | h | h | h <;> (subst h; decide)
    rw [ev, Option.bind_some]
    dsimp only
    rw [if_pos (by omega), if_pos (by rw [ByteArray.size_append]; omega)]
    exact ⟨_, _, rfl, by rw [ByteArray.size_append, ByteArray.size_append]; omega⟩
  · rw [if_neg h0]
    by_cases h1 : q = 1
    · rw [if_pos h1, if_pos p0, if_pos (by omega)]
      exact ⟨_, _, rfl, by omega⟩
    · rw [if_neg h1]
      exact ⟨_, _, rfl, by omega⟩
theorem open_ev {xs : List Int} (hx : ∀ y ∈ xs, 0 ≤ y ∧ y ≤ 255) : ∃ ys, spec_l1Open.f xs = some (ys, 0) ∧ rdOk ys := by
  unfold spec_l1Open.f
  by_cases h : (xs.length : Int) > 2000
  · rw [if_pos h, if_pos (by omega)]
    exact ⟨_, rfl, fun y hy => hx y (List.mem_of_mem_take hy), by rw [List.length_take]; omega⟩
  · rw [if_neg h]
    exact ⟨_, rfl, hx, by omega⟩
end Go.Proofs.Ytlchnflpapfpnaa.Pure

/- The pure law behind FnUnfill: what comes back from a drawn text, filled up, is that text. No condition beyond the ranges of the lengths. -/
namespace Go.Proofs.Ytlchnflpapfpnaa.Pure
set_option linter.unusedSimpArgs false
open Go.RowKit Go.Proofs.Ytlchnflpapfpnaa.Q Go.Proofs.Ytlchnflpapfpnaa.Open Go.Proofs.YtlchnflpapfpnaaW.PrintWords Go.Proofs.YtlchnflpapfpnaaW.PrintLast Go.Proofs.YtlchnflpapfpnaaW.PrintMore
theorem unfill_cases (s : ByteArray) : ((unfill s).2 = true ∧ (unfill s).1.size ≤ s.size ∧ (fill (unfill s).1).toList = s.toList) ∨ ((unfill s).2 = false ∧ (unfill s).1 = ⟨#[]⟩) := by
  unfold unfill
  by_cases h0 : s.size = 0
  · rw [if_pos h0]
    exact Or.inr ⟨rfl, rfl⟩
  rw [if_neg h0]
  split
  · next h => exact Or.inl ⟨rfl, by dsimp only; rw [ByteArray.size_extract]; omega, h.2⟩
  · exact Or.inr ⟨rfl, rfl⟩
theorem FnUnfill : laws_FnUnfill.Pure := by
  intro xs ⟨_, hf⟩
  refine ⟨3000, ?_⟩
  unfold laws_FnUnfill.f
  by_cases hl : (xs.length : Int) > 1048576
  · rw [if_pos hl]
  rw [if_neg hl]
  obtain ⟨ys, eo, ho⟩ := open_ev (fun y hy => fits_u8 (hf y hy))
  obtain ⟨n, en, n0, n1⟩ := pick_ev ho (s := 0) (n := 20) (by omega) (by omega) (by omega) (show 1 ≤ 3000 by omega)
  obtain ⟨t, v, ev, hv, t0, t1⟩ := drBytes_ev2 ho n.toNat (0 + 1) [] (by omega) (by omega) (by simp only [List.length_nil]; omega) 3000 (by omega)
  have hsz : (strOfNums v).size ≤ 20 := by rw [strOfNums_size, hv, List.length_nil]; omega
  have z := fill_size (strOfNums v)
  have nr := fill_n_range (strOfNums v)
  obtain ⟨c, t2, ec, hc⟩ := drCut_ev ho (s := t) (by omega) (by omega) (fill (strOfNums v)) (by omega) (show 1 ≤ 3000 by omega)
  have e : spec_DrawUnfill.f 3000 xs = some c := by
    unfold spec_DrawUnfill.f spec_l12Bytes.f
    rw [eo, Option.bind_some]
    dsimp only
    rw [en, Option.bind_some]
    dsimp only
    rw [show ((n.toNat : Nat) : Int) = n by omega] at ev
    rw [ev, Option.bind_some]
    dsimp only
    rw [fill_spec (by omega) (by omega), Option.bind_some, ec, Option.bind_some]
  rw [e, Option.bind_some, unfill_impl (by omega) (by omega), Option.bind_some, unfill_spec (by omega) (by omega), Option.bind_some, if_pos rfl, if_pos (by simp)]
  rcases unfill_cases c with ⟨h1, h2, h3⟩ | ⟨h1, h2⟩
  · rw [if_pos h1, fill_impl (by omega) (by omega), Option.bind_some, if_pos h3]
  · rw [if_neg (by rw [h1]; simp), h2]
    congr 1
    rw [ByteArray.toList_eq]
    rfl
end Go.Proofs.Ytlchnflpapfpnaa.Pure

/- The law FnUnfill answers true for every input, and its arguments read afterwards as before. No condition beyond the row's own. -/
namespace Go.Proofs.Ytlchnflpapfpnaa.fnUnfill
open Go.ChangeShapes Go.WideShapes Go.ChangeAt Go.RowKit Go.Proofs.YtlchnflpapfpnaaW.PrintWords Go.Proofs.Ytlchnflpapfpnaa.Open Go.Proofs.Ytlchnflpapfpnaa.Q
open Go.ChangeMaps (open_string shut_string)
set_option linter.unusedVariables false
theorem own : ownKnob Try.prog.godebug = none := by kernel_rfl
theorem laidOut : laidOutB Try.prog = true := by kernel_rfl
set_option maxRecDepth 100000 in
theorem lifted (os : Os) (started : os.Started) (H : Type) (enc : TypeId × Value → H) :
    ReturnsInHanded {} Try.checked os 12 .any (Rows.fnUnfillSpec.pre6 enc Try.prog Try.f12 Rows.fnUnfillRow.domain false) (Rows.fnUnfillSpec.post enc Try.prog Try.f12 false true false false) := by
  refine returnsInHanded_of_change_sized (C := Try.checked) own started (by kernel_rfl) Try.func12
    (ChangeSpec.witness6 (enc := enc) (C := Try.checked) false ⟨#[], #[.slice none 0 0], []⟩ 8 (by kernel_rfl) (by kernel_rfl) (by kernel_rfl) (by kernel_rfl)) ?_
  intro W base args ds gs before hval0 hW hcnd hsz0 _
  have hval : ∀ (j : Nat) t v, Try.f12.params[j]? = some t → args[j]? = some v → Value.okWide Try.prog W .any base t v := hval0
  have hW' := hW
  obtain ⟨p, q, hA0, hV, rfl, hfz, hnd⟩ := hW
  have hA : DataW.TrodAll enc Try.prog W 0 (fun _ => true) true Try.f12.params.toList args.toList ds p := hA0
  rw [Try.params12] at hA hval
  obtain ⟨v0, vs0, d0, ds0, p0, q0, hargs, rfl, rfl, h0, r0⟩ := trodAll_cons hA
  obtain ⟨rfl, rfl, rfl⟩ := trodAll_nil r0
  obtain rfl : args = #[v0] := by cases args; simp_all
  obtain ⟨rfl, rfl⟩ := trodVars_none hV
  have lt0 : ∀ x ∈ p0, x.block < W.heap.size := by obtain ⟨m, hm⟩ := h0; exact DataW.trod_lt m _ _ _ hm
  have k0 := h0
  obtain ⟨x0, K0, w0⟩ := open_arg (op51 W) h0
  obtain ⟨aa0, len0, cap0, rfl⟩ := okWide_slice Try.underlying51 (hval 0 51 v0 rfl rfl)
  obtain ⟨A0, c0, e0, hc0, hr0⟩ := K0
  obtain ⟨rfl, rfl, rfl⟩ := slice_of_cells e0
  obtain ⟨k, hp⟩ := Pure.FnUnfill x0 w0
  refine (laws_FnUnfill.calls k _ _ x0 true W hr0 hc0 hp).mono ?_
  rintro e W' ⟨rfl, bel0⟩
  have bel : Below W.heap.size W W' := bel0
  exact ⟨_, rfl, _, _, _, [], _, [], hW', trodAll_mk1 (shut_bool Try.underlying4 _), (trodAll_cons_mk (Below.trod laidOut (by kernel_rfl) (of_decide_eq_true (by kernel_rfl)) k0 bel lt0) trodAll_mk0), rfl, bel.frame _, fun h => by cases h⟩
theorem over : Rows.fnUnfillRow.holds Try.pinned (OpenSpec.ofChange Rows.fnUnfillSpec) :=
  OpenClaim.holds_of_wide 12 Try.f12 rfl rfl rfl rfl rfl rfl rfl ⟨rfl, rfl, rfl, rfl, rfl⟩ rfl rfl rfl rfl rfl (by kernel_rfl) Try.func12 (by kernel_rfl)
    (of_decide_eq_true (by kernel_rfl)) (by unfold Func.isWrapper; first | (rw [if_pos (by decide +kernel)]; kernel_rfl) | (rw [if_neg (by decide +kernel)]; exact ⟨rfl, rfl⟩))
    (fun os started H enc _ => lifted os started H enc)
theorem proved : Rows.FnUnfillSaid := over
#print axioms proved
end Go.Proofs.Ytlchnflpapfpnaa.fnUnfill
namespace Go.Proofs.Ytlchnflpapfpnaa
/-- The row, under a short name, for the claim. -/
theorem fnUnfill_holds : Rows.FnUnfillSaid := fnUnfill.proved
end Go.Proofs.Ytlchnflpapfpnaa
