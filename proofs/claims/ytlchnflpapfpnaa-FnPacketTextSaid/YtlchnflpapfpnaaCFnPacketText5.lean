/- The law FnPacketText (part 5 of 5): for every input the call answers true and its arguments read afterwards as before. No condition beyond the row's own. -/
import Derived.Test.YtlchnflpapfpnaaRows
import Derived.Test.YtlchnflpapfpnaaProg
import Derived.Below
import Derived.Deep.Draws
import Derived.Deep.AppendLies
import Derived.Maps.AppendAt
import Derived.OwnWalk
import Derived.Laws.BytesArg
import Derived.Laws.MakeOwn
import Derived.Laws.OwnMore
import Derived.Deep.OwnRows
import Derived.Tactics
import Derived.Lib.ConvBytes
import Derived.Laws.Slices
import Derived.WalkKit
import Derived.KernelRfl
import Derived.RowKit3
import Derived.Deep.LoopGhost
import Derived.Deep.QuietTactic
import Derived.BigQuiet
import Derived.WideLaws
import Derived.Deep.DeepCutAuto
import Derived.Deep.CutBlock
import Derived.Deep.RegionHeld3
import Derived.Laws.Rows
import Derived.Lib.AppendStr
import Derived.ArgAppend
import Derived.Laws.IdiomCopy
import Derived.OrdersHeld
import Derived.Laws.BitsLemmas
import Derived.RowKit
import Derived.Test.YtlchnflpapfpnaaWWords
import Derived.Test.YtlchnflpapfpnaaWLast
import Derived.Test.YtlchnflpapfpnaaWTab
import Derived.Test.YtlchnflpapfpnaaWFour
import Derived.Test.YtlchnflpapfpnaaWQPut
import Derived.Test.YtlchnflpapfpnaaWApart
import Derived.Test.YtlchnflpapfpnaaWArr
import Derived.Test.YtlchnflpapfpnaaWZeros
import Derived.Test.YtlchnflpapfpnaaWFoot
import Derived.Test.YtlchnflpapfpnaaWKept
import Derived.Test.YtlchnflpapfpnaaWShare
import Derived.Test.YtlchnflpapfpnaaWN
import Derived.Test.YtlchnflpapfpnaaWFootNe
import Derived.Test.YtlchnflpapfpnaaWAt
import Derived.Test.YtlchnflpapfpnaaWEqStruct
import Derived.Test.YtlchnflpapfpnaaWRepsOne
import Derived.Test.YtlchnflpapfpnaaWInv
import Derived.Test.YtlchnflpapfpnaaWInvWords
import Derived.Test.YtlchnflpapfpnaaWGuard
import Derived.Test.YtlchnflpapfpnaaWNEv
import Derived.Test.YtlchnflpapfpnaaWMore
import Derived.Deep.Slices
import Derived.Deep.Fields
import Derived.ChangeSame
import Derived.ProofKit
import Derived.WideShapes
import Derived.Lib.SmallJoins
import Derived.Lib.Repeat
import Derived.OpenShut
import Derived.ShutString
import Derived.ChangeOld
import Derived.SizedLaws
import Derived.Test.YtlchnflpapfpnaaCFnPacketText4
/- How data that can be read lies in cells: for whole numbers, bools, strings, slices and structs, what a type's cells say. Conditions: those in each statement. -/
namespace Go.Proofs.Ytlchnflpapfpnaa.Open
open Go.RowKit Go.ChangeShapes Go.WideShapes Go.Deep Go.Proofs.YtlchnflpapfpnaaW.PrintWords
/-- A number fits its kind. -/
def Fits (k : IntKind) (n : Int) : Prop := (Lit.int k n).wf = true
/-- A number is an int of 64 bits. -/
def I64 (n : Int) : Prop := -9223372036854775808 ≤ n ∧ n ≤ 9223372036854775807
/-- What the cells of a type say. -/
def Opens (P : Program) (w : World) (t : TypeId) {α : Type} (d : Kd α) (p : α → Prop) : Prop :=
 ∀ (H : Type) (enc : TypeId × Value → H) (base : Nat) (spare : Nat → Bool) (held : Bool) (fuel : Nat) (cs : List Value) (x : DataW H × List MemPlace),
  DataW.trod enc P w base spare held fuel t cs = some x → ∃ a, d.K w a cs ∧ p a
theorem opens_int {P : Program} {w : World} {t : TypeId} {k : IntKind} (ht : P.underlying t = some (.int k)) : Opens P w t (Kd.int k) (fun n => Fits k n) := by
 intro H enc base spare held fuel cs x h
 obtain ⟨n, rfl, _, hw⟩ := DataW.trod_int ht h
 exact ⟨n, rfl, hw⟩
theorem i64_of {n : Int} (h : (Lit.int .i64 n).wf = true) : I64 n := by
 simp only [Lit.wf, Bool.and_eq_true, decide_eq_true_eq] at h
 exact ⟨h.1, h.2⟩
theorem opens_i64 {P : Program} {w : World} {t : TypeId} (ht : P.underlying t = some (.int .i64)) : Opens P w t (Kd.int .i64) (fun n => I64 n) := by
 intro H enc base spare held fuel cs x h
 obtain ⟨n, rfl, _, hw⟩ := DataW.trod_int ht h
 exact ⟨n, rfl, i64_of hw⟩
theorem opens_bool {P : Program} {w : World} {t : TypeId} (ht : P.underlying t = some .bool) : Opens P w t Kd.bool (fun _ => True) := by
 intro H enc base spare held fuel cs x h
 obtain ⟨n, rfl, _⟩ := DataW.trod_bool ht h
 exact ⟨n, rfl, trivial⟩
theorem opens_string {P : Program} {w : World} {t : TypeId} (ht : P.underlying t = some .string) : Opens P w t Kd.string (fun s => s.size ≤ 9223372036854775807) := by
 intro H enc base spare held fuel cs x h
 obtain ⟨s, rfl, _, hs⟩ := DataW.trod_string ht h
 exact ⟨s, rfl, hs⟩
theorem pick {α : Type} (n : Nat) (R : Nat → α → Prop) (h : ∀ i, i < n → ∃ a, R i a) : ∃ xs : List α, xs.length = n ∧ ∀ i a, xs[i]? = some a → R i a := by
 induction n with
 | zero => exact ⟨[], rfl, fun i a e => by simp at e⟩
 | succ n ih =>
  obtain ⟨xs, hl, hx⟩ := ih (fun i hi => h i (by omega))
  obtain ⟨a, ha⟩ := h n (by omega)
  refine ⟨xs ++ [a], by simp [hl], fun i b e => ?_⟩
  rcases Nat.lt_or_ge i xs.length with hi | hi
  ·rw [List.getElem?_append_left hi] at e
   exact hx i b e
  ·have hlt := (List.getElem?_eq_some_iff.1 e).1
   rw [List.length_append, List.length_singleton] at hlt
   obtain rfl : i = xs.length := by omega
   simp at e
   subst e
   rw [hl]
   exact ha
theorem opens_slice {P : Program} {w : World} {t e : TypeId} {α : Type} {d : Kd α} {p : α → Prop} (ht : P.underlying t = some (.slice e)) (hc : P.cellsOf e = d.sz) (he : Opens P w e d p) :
  Opens P w t (Kd.slice e d) (fun xs => xs.length ≤ 9223372036854775807 ∧ ∀ y ∈ xs, p y) := by
 intro H enc base spare held fuel cs x h
 rcases open_slice ht h with ⟨rfl, _⟩ | ⟨a, len, cap, m, n, D, Pl, rfl, _, hl, hm, hmm, _, hi⟩
 ·exact ⟨[], ⟨none, 0, rfl, by simp, by simp, by simp, fun hn => by simp at hn⟩, by simp, by simp⟩
 ·have hle : len ≤ m := by rw [hmm]; split <;> omega
  obtain ⟨xs, hxl, hx⟩ := pick len (fun i y => p y ∧ ∃ c, c.length = d.sz ∧ d.K w y c ∧ ∀ j u, c[j]? = some u → w.cell? (a.add (i * d.sz + j)) = some u) (fun i hil => by
   obtain ⟨cs', h1, h2⟩ := hi i (by omega)
   obtain ⟨y, hK, hp⟩ := he _ _ _ _ _ _ _ _ h2
   obtain ⟨_, hcl, hat⟩ := World.cells?_some h1
   rw [hc] at hcl hat
   refine ⟨y, hp, cs', hcl, hK, fun j u hu => ?_⟩
   have hj := (List.getElem?_eq_some_iff.1 hu).1
   rw [← Go.Deep.add_add, hat j (by omega), hu])
  have hmx : maxLen = 9223372036854775807 := rfl
  refine ⟨xs, ⟨some a, cap, by rw [hxl], by omega, ?_⟩, by omega, fun y hy => ?_⟩
  ·refine ⟨rfl, by omega, fun _ => ⟨a, rfl, fun j q hj => ?_⟩⟩
   obtain ⟨_, c, h1, h2, h3⟩ := hx j q hj
   exact ⟨c, h1, h2, h3⟩
  ·obtain ⟨i, hi2⟩ := List.getElem?_of_mem hy
   exact (hx i y hi2).1
theorem open_fields {H : Type} {enc : TypeId × Value → H} {P : Program} {w : World} {base : Nat} {spare : Nat → Bool} {held : Bool} {t : TypeId} {fs : Array Field} {fuel m : Nat} {cs : List Value} {x : DataW H × List MemPlace}
  (ht : P.underlying t = some (.struct fs)) (hm : P.cellsOf t = m) (h : DataW.trod enc P w base spare held fuel t cs = some x) :
  ∃ (n : Nat), cs.length = m ∧ ∀ (i : Nat) (f : Field), fs[i]? = some f → ∃ y, DataW.trod enc P w base spare held n f.type ((cs.drop f.offset).take (P.cellsOf f.type)) = some y := by
 obtain ⟨xs, n, _, _, hl, hlen, hf⟩ := DataW.trod_struct ht h
 refine ⟨n, by rw [hl, hm], fun i f hi => ?_⟩
 have hlt : i < xs.length := by rw [hlen]; exact (Array.getElem?_eq_some_iff.1 hi).1
 exact ⟨xs[i], by rw [hf i f hi, List.getElem?_eq_getElem hlt]⟩
theorem field_opens {H : Type} {enc : TypeId × Value → H} {P : Program} {w : World} {base : Nat} {spare : Nat → Bool} {held : Bool} {t : TypeId} {α : Type} {d : Kd α} {p : α → Prop} {n o s i : Nat} {cs : List Value} {fs : Array Field} {f : Field} (he : Opens P w t d p)
  (hf : ∀ (i : Nat) (f : Field), fs[i]? = some f → ∃ y, DataW.trod enc P w base spare held n f.type ((cs.drop f.offset).take (P.cellsOf f.type)) = some y)
  (hi : fs[i]? = some f) (ht : f.type = t) (ho : f.offset = o) (hs : P.cellsOf t = s) : ∃ a, d.K w a ((cs.drop o).take s) ∧ p a := by
 obtain ⟨y, hy⟩ := hf i f hi
 subst ht ho hs
 exact he _ _ _ _ _ _ _ _ hy
theorem split_piece (cs : List Value) (o s : Nat) : cs.drop o = (cs.drop o).take s ++ cs.drop (o + s) := by
 rw [← List.drop_drop]
 exact (List.take_append_drop s _).symm
theorem last_piece {α : Type} {d : Kd α} {w : World} {x : α} {cs : List Value} {o s : Nat} (hl : cs.length = o + s) (h : d.K w x ((cs.drop o).take s)) : d.K w x (cs.drop o) := by
 rwa [List.take_of_length_le (by rw [List.length_drop]; omega)] at h
theorem last_piece0 {α : Type} {d : Kd α} {w : World} {x : α} {cs : List Value} {s : Nat} (hl : cs.length = s) (h : d.K w x ((cs.drop 0).take s)) : d.K w x cs := by
 rwa [List.take_of_length_le (by rw [List.length_drop]; omega)] at h
theorem open_arg {H : Type} {enc : TypeId × Value → H} {P : Program} {w : World} {base : Nat} {spare : Nat → Bool} {held : Bool} {t : TypeId} {α : Type} {d : Kd α} {p : α → Prop} {v : Value} {dt : DataW H} {ps : List MemPlace} (he : Opens P w t d p)
  (h : DataW.Trod enc P w base spare held t v dt ps) : ∃ a, d.K w a v.cells.toList ∧ p a := by
 obtain ⟨fuel, hf⟩ := h
 exact he _ _ _ _ _ _ _ _ hf
theorem agg_of_cells {cs : Array Value} {l : List Value} (h : (Value.agg cs).cells.toList = l) : cs = l.toArray := by
 simp only [Value.cells] at h
 exact Array.ext' (by simpa using h)
theorem slice_of_cells {a A : Option Addr} {len cap n c : Nat} (h : (Value.slice a len cap).cells.toList = [.slice A n c]) : A = a ∧ len = n ∧ c = cap := by
 simp only [Value.cells, List.cons.injEq, Value.slice.injEq, and_true] at h
 exact ⟨h.1.symm, h.2.1, h.2.2.symm⟩
theorem int_of_cells {k : IntKind} {w : World} {v : Value} {x : Int} (h : ∃ n, v = .int k n) (K : (Kd.int k).K w x v.cells.toList) : v = .int k x := by
 obtain ⟨n, rfl⟩ := h
 have K' : (Value.int k n).cells.toList = [.int k x] := K
 simp only [Value.cells, List.cons.injEq, and_true] at K'
 exact K'
theorem bool_of_cells {w : World} {v : Value} {x : Bool} (h : ∃ n, v = .bool n) (K : Kd.bool.K w x v.cells.toList) : v = .bool x := by
 obtain ⟨n, rfl⟩ := h
 have K' : (Value.bool n).cells.toList = [.bool x] := K
 simp only [Value.cells, List.cons.injEq, and_true] at K'
 exact K'
theorem string_of_cells {w : World} {v : Value} {x : ByteArray} (h : ∃ n, v = .string n) (K : Kd.string.K w x v.cells.toList) : v = .string x := by
 obtain ⟨n, rfl⟩ := h
 have K' : (Value.string n).cells.toList = [.string x] := K
 simp only [Value.cells, List.cons.injEq, and_true] at K'
 exact K'
end Go.Proofs.Ytlchnflpapfpnaa.Open
/- How values of the seat's types are read out of memory: a value that can be read is one of its kind, and its numbers are in their ranges. No condition. -/
namespace Go.Proofs.Ytlchnflpapfpnaa.Q
open Go.RowKit Go.Proofs.YtlchnflpapfpnaaW.PrintWords Go.Proofs.Ytlchnflpapfpnaa.Open
theorem op3 (w : World) : Opens Try.prog w 3 (Kd.int .i64) (fun x => Open.I64 x) := opens_i64 Try.underlying3
theorem op9 (w : World) : Opens Try.prog w 9 Kd.string (fun x => x.size ≤ 9223372036854775807) := opens_string Try.underlying9
def wf23 (x : S23) : Prop := Open.I64 x.f0 ∧ Open.I64 x.f1 ∧ Open.I64 x.f2 ∧ x.f3.size ≤ 9223372036854775807
theorem op23 (w : World) : Opens Try.prog w 23 k23 wf23 := by
 intro H enc base spare held fuel cs x h
 obtain ⟨n, hlen, hf⟩ := open_fields Try.underlying23 (m := 4) (by kernel_rfl) h
 obtain ⟨a0, K0, p0⟩ := field_opens (i := 0) (o := 0) (s := 1) (op3 w) hf rfl rfl rfl (by kernel_rfl)
 obtain ⟨a1, K1, p1⟩ := field_opens (i := 1) (o := 1) (s := 1) (op3 w) hf rfl rfl rfl (by kernel_rfl)
 obtain ⟨a2, K2, p2⟩ := field_opens (i := 2) (o := 2) (s := 1) (op3 w) hf rfl rfl rfl (by kernel_rfl)
 obtain ⟨a3, K3, p3⟩ := field_opens (i := 3) (o := 3) (s := 1) (op9 w) hf rfl rfl rfl (by kernel_rfl)
 refine ⟨⟨a0, a1, a2, a3⟩, ?_, p0, p1, p2, p3⟩
 exact ⟨_, _, split_piece cs 0 1, K0, ⟨_, _, split_piece cs 1 1, K1, ⟨_, _, split_piece cs 2 1, K2, (last_piece (o := 3) (s := 1) (by rw [hlen]) K3)⟩⟩⟩
theorem op33 (w : World) : Opens Try.prog w 33 (Kd.slice 3 (Kd.int .i64)) (fun x => (x.length ≤ 9223372036854775807 ∧ ∀ y ∈ x, Open.I64 y)) := opens_slice Try.underlying33 (by kernel_rfl) (op3 w)
def wf35 (x : S35) : Prop := Open.I64 x.f0 ∧ (x.f1.length ≤ 9223372036854775807 ∧ ∀ y ∈ x.f1, Open.I64 y)
theorem op35 (w : World) : Opens Try.prog w 35 k35 wf35 := by
 intro H enc base spare held fuel cs x h
 obtain ⟨n, hlen, hf⟩ := open_fields Try.underlying35 (m := 2) (by kernel_rfl) h
 obtain ⟨a0, K0, p0⟩ := field_opens (i := 0) (o := 0) (s := 1) (op3 w) hf rfl rfl rfl (by kernel_rfl)
 obtain ⟨a1, K1, p1⟩ := field_opens (i := 1) (o := 1) (s := 1) (op33 w) hf rfl rfl rfl (by kernel_rfl)
 refine ⟨⟨a0, a1⟩, ?_, p0, p1⟩
 exact ⟨_, _, split_piece cs 0 1, K0, (last_piece (o := 1) (s := 1) (by rw [hlen]) K1)⟩
def wf43 (x : S43) : Prop := Open.I64 x.f0 ∧ Open.I64 x.f1 ∧ x.f2.size ≤ 9223372036854775807 ∧ x.f3.size ≤ 9223372036854775807 ∧ Open.I64 x.f4 ∧ Open.I64 x.f5 ∧ Open.I64 x.f6 ∧ Open.I64 x.f7 ∧ Open.I64 x.f8 ∧ wf35 x.f9
theorem op43 (w : World) : Opens Try.prog w 43 k43 wf43 := by
 intro H enc base spare held fuel cs x h
 obtain ⟨n, hlen, hf⟩ := open_fields Try.underlying43 (m := 11) (by kernel_rfl) h
 obtain ⟨a0, K0, p0⟩ := field_opens (i := 0) (o := 0) (s := 1) (op3 w) hf rfl rfl rfl (by kernel_rfl)
 obtain ⟨a1, K1, p1⟩ := field_opens (i := 1) (o := 1) (s := 1) (op3 w) hf rfl rfl rfl (by kernel_rfl)
 obtain ⟨a2, K2, p2⟩ := field_opens (i := 2) (o := 2) (s := 1) (op9 w) hf rfl rfl rfl (by kernel_rfl)
 obtain ⟨a3, K3, p3⟩ := field_opens (i := 3) (o := 3) (s := 1) (op9 w) hf rfl rfl rfl (by kernel_rfl)
 obtain ⟨a4, K4, p4⟩ := field_opens (i := 4) (o := 4) (s := 1) (op3 w) hf rfl rfl rfl (by kernel_rfl)
 obtain ⟨a5, K5, p5⟩ := field_opens (i := 5) (o := 5) (s := 1) (op3 w) hf rfl rfl rfl (by kernel_rfl)
 obtain ⟨a6, K6, p6⟩ := field_opens (i := 6) (o := 6) (s := 1) (op3 w) hf rfl rfl rfl (by kernel_rfl)
 obtain ⟨a7, K7, p7⟩ := field_opens (i := 7) (o := 7) (s := 1) (op3 w) hf rfl rfl rfl (by kernel_rfl)
 obtain ⟨a8, K8, p8⟩ := field_opens (i := 8) (o := 8) (s := 1) (op3 w) hf rfl rfl rfl (by kernel_rfl)
 obtain ⟨a9, K9, p9⟩ := field_opens (i := 9) (o := 9) (s := 2) (op35 w) hf rfl rfl rfl (by kernel_rfl)
 refine ⟨⟨a0, a1, a2, a3, a4, a5, a6, a7, a8, a9⟩, ?_, p0, p1, p2, p3, p4, p5, p6, p7, p8, p9⟩
 exact ⟨_, _, split_piece cs 0 1, K0, ⟨_, _, split_piece cs 1 1, K1, ⟨_, _, split_piece cs 2 1, K2, ⟨_, _, split_piece cs 3 1, K3, ⟨_, _, split_piece cs 4 1, K4, ⟨_, _, split_piece cs 5 1, K5, ⟨_, _, split_piece cs 6 1, K6, ⟨_, _, split_piece cs 7 1, K7, ⟨_, _, split_piece cs 8 1, K8, (last_piece (o := 9) (s := 2) (by rw [hlen]) K9)⟩⟩⟩⟩⟩⟩⟩⟩⟩
theorem op5 (w : World) : Opens Try.prog w 5 (Kd.int .u8) (fun x => Open.Fits .u8 x) := opens_int Try.underlying5
theorem op51 (w : World) : Opens Try.prog w 51 (Kd.slice 5 (Kd.int .u8)) (fun x => (x.length ≤ 9223372036854775807 ∧ ∀ y ∈ x, Open.Fits .u8 y)) := opens_slice Try.underlying51 (by kernel_rfl) (op5 w)
end Go.Proofs.Ytlchnflpapfpnaa.Q
/- The pure statement of the law FnPacketText, over numbers and lists. A definition; no condition. -/
namespace Go.Proofs.Ytlchnflpapfpnaa.Q
open Go.Proofs.Ytlchnflpapfpnaa.Open
/-- The pure statement of laws_FnPacketText. -/
def laws_FnPacketText.Pure : Prop := ∀ (x0 : List Int) (x1 : List Int), ((x0.length ≤ 9223372036854775807 ∧ ∀ y ∈ x0, Open.Fits .u8 y)) → ((x1.length ≤ 9223372036854775807 ∧ ∀ y ∈ x1, Open.Fits .u8 y)) → ∃ k, laws_FnPacketText.f k x0 x1 = some true
end Go.Proofs.Ytlchnflpapfpnaa.Q
/- Loops over lists, whatever they do: filling, checking, scanning, marking. Conditions: those in each statement. -/
namespace Go.Proofs.Ytlchnflpapfpnaa.Pure
open Go.RowKit
theorem w64 {x : Int} (h : -9223372036854775808 ≤ x) (h' : x ≤ 9223372036854775807) : wrap64 x = x := by
 unfold wrap64
 omega
/-- A loop that fills a list out of another one, element by element. -/
theorem fill_loop {α β : Type} (l0 : Nat → List α → List β → Int → Option (List β)) (f : α → β) (d : α) (xs : List α)
  (hstep : ∀ (k i : Nat) (ys : List β), i < xs.length → ys.length = xs.length → l0 (k + 1) xs ys (i : Int) = l0 k xs (ys.set i (f (xs.getD i d))) ((i + 1 : Nat) : Int))
  (hend : ∀ (k : Nat) (ys : List β), l0 (k + 1) xs ys (xs.length : Int) = some ys) :
  ∀ (k : Nat) (ys : List β), xs.length < k → ys.length = xs.length → l0 k xs ys 0 = some (xs.map f) := by
 have key : ∀ (e k i : Nat) (ys : List β), xs.length - i = e → e < k → i ≤ xs.length → ys.length = xs.length → (∀ j, j < i → ys[j]? = (xs.map f)[j]?) → l0 k xs ys (i : Int) = some (xs.map f) := by
  intro e
  induction e with
  | zero =>
   intro k i ys he hk hi hl hy
   obtain ⟨k, rfl⟩ : ∃ m, k = m + 1 := ⟨k - 1, by omega⟩
   obtain rfl : i = xs.length := by omega
   rw [hend]
   congr 1
   apply List.ext_getElem?
   intro j
   by_cases h : j < xs.length
   ·exact hy j h
   ·rw [List.getElem?_eq_none (by omega), List.getElem?_eq_none (by rw [List.length_map]; omega)]
  | succ e ih =>
   intro k i ys he hk hi hl hy
   obtain ⟨k, rfl⟩ : ∃ m, k = m + 1 := ⟨k - 1, by omega⟩
   have hlt : i < xs.length := by omega
   rw [hstep k i ys hlt hl]
   refine ih k (i + 1) _ (by omega) (by omega) (by omega) (by rw [List.length_set, hl]) (fun j hj => ?_)
   rw [List.getElem?_set]
   by_cases h : i = j
   ·subst h
    rw [if_pos rfl, if_pos (by omega), List.getElem?_map, List.getElem?_eq_getElem hlt, List.getD_eq_getElem?_getD, List.getElem?_eq_getElem hlt]
    rfl
   ·rw [if_neg h]
    exact hy j (by omega)
 intro k ys hk hl
 exact key xs.length k 0 ys (by omega) hk (by omega) hl (fun j hj => by omega)
/-- A loop that goes on at each place. -/
theorem true_loop {β : Type} (l0 : Nat → Int → Option β) (n K : Nat) (r : β) (hstep : ∀ k i : Nat, i < n → K ≤ k → l0 (k + 1) (i : Int) = l0 k ((i + 1 : Nat) : Int)) (hend : ∀ k : Nat, K ≤ k → l0 (k + 1) (n : Int) = some r) :
  ∀ k, n + K < k → l0 k 0 = some r := by
 have key : ∀ (e k i : Nat), n - i = e → e + K < k → i ≤ n → l0 k (i : Int) = some r := by
  intro e
  induction e with
  | zero =>
   intro k i he hk hi
   obtain ⟨k, rfl⟩ : ∃ m, k = m + 1 := ⟨k - 1, by omega⟩
   obtain rfl : i = n := by omega
   exact hend k (by omega)
  | succ e ih =>
   intro k i he hk hi
   obtain ⟨k, rfl⟩ : ∃ m, k = m + 1 := ⟨k - 1, by omega⟩
   rw [hstep k i (by omega) (by omega)]
   exact ih k (i + 1) (by omega) (by omega) (by omega)
 intro k hk
 exact key n k 0 (by omega) (by omega) (by omega)
/-- A loop that leaves at the first place that isn't good. -/
theorem scan_loop {β : Type} (l0 : Nat → Int → Option β) (n K : Nat) (good : Nat → Bool) (bad fin : β)
  (hgood : ∀ k i : Nat, i < n → K ≤ k → (∀ j, j < i → good j = true) → good i = true → l0 (k + 1) (i : Int) = l0 k ((i + 1 : Nat) : Int))
  (hbad : ∀ k i : Nat, i < n → K ≤ k → (∀ j, j < i → good j = true) → good i = false → l0 (k + 1) (i : Int) = some bad)
  (hend : ∀ k : Nat, K ≤ k → l0 (k + 1) (n : Int) = some fin) :
  ∀ k, n + K < k → l0 k 0 = some (if (List.range n).all good then fin else bad) := by
 have key : ∀ (e k i : Nat), n - i = e → e + K < k → i ≤ n → (∀ j, j < i → good j = true) → l0 k (i : Int) = some (if (List.range n).all good then fin else bad) := by
  intro e
  induction e with
  | zero =>
   intro k i he hk hi hg
   obtain ⟨k, rfl⟩ : ∃ m, k = m + 1 := ⟨k - 1, by omega⟩
   obtain rfl : i = n := by omega
   rw [hend k (by omega), if_pos]
   rw [List.all_eq_true]
   exact fun x hx => hg x (List.mem_range.1 hx)
  | succ e ih =>
   intro k i he hk hi hg
   obtain ⟨k, rfl⟩ : ∃ m, k = m + 1 := ⟨k - 1, by omega⟩
   cases hc : good i with
   | true =>
    rw [hgood k i (by omega) (by omega) hg hc]
    refine ih k (i + 1) (by omega) (by omega) (by omega) (fun j hj => ?_)
    by_cases h : j = i
    ·rw [h]; exact hc
    ·exact hg j (by omega)
   | false =>
    rw [hbad k i (by omega) (by omega) hg hc, if_neg]
    rw [List.all_eq_true]
    intro h
    have := h i (List.mem_range.2 (by omega))
    rw [hc] at this
    exact absurd this (by simp)
 intro k hk
 exact key n k 0 (by omega) (by omega) (by omega) (fun j hj => by omega)
/-- Two loops that go on, or leave with the same answer, at each place. -/
theorem same_loop {β : Type} (l0 l1 : Nat → Int → Option β) (n K : Nat)
  (hs : ∀ i : Nat, i < n → (∀ k, K ≤ k → l0 (k + 1) (i : Int) = l0 k ((i + 1 : Nat) : Int) ∧ l1 (k + 1) (i : Int) = l1 k ((i + 1 : Nat) : Int)) ∨ ∃ r, ∀ k, K ≤ k → l0 (k + 1) (i : Int) = some r ∧ l1 (k + 1) (i : Int) = some r)
  (he : ∃ r, ∀ k : Nat, K ≤ k → l0 (k + 1) (n : Int) = some r ∧ l1 (k + 1) (n : Int) = some r) : ∃ r, ∀ k, n + K < k → l0 k 0 = some r ∧ l1 k 0 = some r := by
 have key : ∀ (e i : Nat), n - i = e → i ≤ n → ∃ r, ∀ k, e + K < k → l0 k (i : Int) = some r ∧ l1 k (i : Int) = some r := by
  intro e
  induction e with
  | zero =>
   intro i hi1 hi
   obtain rfl : i = n := by omega
   obtain ⟨r, hr⟩ := he
   refine ⟨r, fun k hk => ?_⟩
   obtain ⟨k, rfl⟩ : ∃ m, k = m + 1 := ⟨k - 1, by omega⟩
   exact hr k (by omega)
  | succ e ih =>
   intro i hi1 hi
   rcases hs i (by omega) with h | ⟨r, hr⟩
   ·obtain ⟨r, hr⟩ := ih (i + 1) (by omega) (by omega)
    refine ⟨r, fun k hk => ?_⟩
    obtain ⟨k, rfl⟩ : ∃ m, k = m + 1 := ⟨k - 1, by omega⟩
    rw [(h k (by omega)).1, (h k (by omega)).2]
    exact hr k (by omega)
   ·refine ⟨r, fun k hk => ?_⟩
    obtain ⟨k, rfl⟩ : ∃ m, k = m + 1 := ⟨k - 1, by omega⟩
    exact hr k (by omega)
 obtain ⟨r, hr⟩ := key n 0 (by omega) (by omega)
 exact ⟨r, fun k hk => hr k hk⟩
/-- A list of marks. -/
def marks {α : Type} (m : Int → α) (s v : Int) (n : Nat) : List α := (List.range n).map fun (j : Nat) => m (v + s * (j : Int))
theorem marks_length {α : Type} (m : Int → α) (s v : Int) (n : Nat) : (marks m s v n).length = n := by simp [marks]
theorem marks_get {α : Type} (m : Int → α) (s v : Int) (n i : Nat) (h : i < n) : (marks m s v n)[i]? = some (m (v + s * i)) := by
 simp [marks, h]
/-- A loop that writes marks. -/
theorem mark_loop {α : Type} (l0 : Nat → List α → Int → Int → Option (Int × List α)) (m : Int → α) (s : Int) (hs : 0 ≤ s)
  (hstep : ∀ (k i : Nat) (xs : List α) (v : Int), i < xs.length → xs.length ≤ 35184372088832 → 1 ≤ v → v ≤ 1000000000000000000 → l0 (k + 1) xs v (i : Int) = l0 k (xs.set i (m v)) (v + s) ((i + 1 : Nat) : Int))
  (hend : ∀ (k : Nat) (xs : List α) (v : Int), l0 (k + 1) xs v (xs.length : Int) = some (v, xs)) (xs : List α) (hx : xs.length ≤ 35184372088832) (v : Int) (hv : 1 ≤ v) (hb : v + s * xs.length ≤ 1000000000000000000) :
  ∀ k, xs.length < k → l0 k xs v 0 = some (v + s * xs.length, marks m s v xs.length) := by
 have key : ∀ (e k i : Nat) (ys : List α), xs.length - i = e → e < k → i ≤ xs.length → ys.length = xs.length → (∀ j, j < i → ys[j]? = (marks m s v xs.length)[j]?) →
   l0 k ys (v + s * i) (i : Int) = some (v + s * xs.length, marks m s v xs.length) := by
  intro e
  induction e with
  | zero =>
   intro k i ys he hk hi hl hy
   obtain ⟨k, rfl⟩ : ∃ m, k = m + 1 := ⟨k - 1, by omega⟩
   obtain rfl : i = xs.length := by omega
   have h1 := hend k ys (v + s * (xs.length : Int))
   rw [hl] at h1
   rw [h1]
   congr 2
   apply List.ext_getElem?
   intro j
   by_cases h : j < xs.length
   ·exact hy j h
   ·rw [List.getElem?_eq_none (by omega), List.getElem?_eq_none (by rw [marks_length]; omega)]
  | succ e ih =>
   intro k i ys he hk hi hl hy
   obtain ⟨k, rfl⟩ : ∃ m, k = m + 1 := ⟨k - 1, by omega⟩
   have hlt : i < xs.length := by omega
   have h1 : s * (i : Int) ≤ s * (xs.length : Int) := Int.mul_le_mul_of_nonneg_left (by omega) hs
   have h2 : 0 ≤ s * (i : Int) := Int.mul_nonneg hs (by omega)
   rw [hstep k i ys (v + s * i) (by omega) (by omega) (by omega) (by omega), show v + s * (i : Int) + s = v + s * ((i + 1 : Nat) : Int) by rw [show ((i + 1 : Nat) : Int) = (i : Int) + 1 by omega, Int.mul_add]; omega]
   refine ih k (i + 1) _ (by omega) (by omega) (by omega) (by rw [List.length_set, hl]) (fun j hj => ?_)
   rw [List.getElem?_set]
   by_cases h : i = j
   ·subst h
    rw [if_pos rfl, if_pos (by omega), marks_get _ _ _ _ _ hlt]
   ·rw [if_neg h]
    exact hy j (by omega)
 intro k hk
 have := key xs.length k 0 xs (by omega) hk (by omega) rfl (fun j hj => by omega)
 rwa [show v + s * ((0 : Nat) : Int) = v by simp] at this
/-- A loop that reads marks. -/
theorem held_loop {α : Type} (l0 : Nat → List α → Int → Int → Option Int) (m : Int → α) (s : Int) (hs : 0 ≤ s)
  (hstep : ∀ (k i : Nat) (xs : List α) (v : Int), i < xs.length → xs.length ≤ 35184372088832 → 1 ≤ v → v ≤ 1000000000000000000 → xs[i]? = some (m v) → l0 (k + 1) xs v (i : Int) = l0 k xs (v + s) ((i + 1 : Nat) : Int))
  (hend : ∀ (k : Nat) (xs : List α) (v : Int), l0 (k + 1) xs v (xs.length : Int) = some v) (n : Nat) (hx : n ≤ 35184372088832) (v : Int) (hv : 1 ≤ v) (hb : v + s * n ≤ 1000000000000000000) :
  ∀ k, n < k → l0 k (marks m s v n) v 0 = some (v + s * n) := by
 have key : ∀ (e k i : Nat), n - i = e → e < k → i ≤ n → l0 k (marks m s v n) (v + s * i) (i : Int) = some (v + s * n) := by
  intro e
  induction e with
  | zero =>
   intro k i he hk hi
   obtain ⟨k, rfl⟩ : ∃ m, k = m + 1 := ⟨k - 1, by omega⟩
   obtain rfl : i = n := by omega
   have h1 := hend k (marks m s v i) (v + s * (i : Int))
   rw [marks_length] at h1
   exact h1
  | succ e ih =>
   intro k i he hk hi
   obtain ⟨k, rfl⟩ : ∃ m, k = m + 1 := ⟨k - 1, by omega⟩
   have hlt : i < n := by omega
   have h1 : s * (i : Int) ≤ s * (n : Int) := Int.mul_le_mul_of_nonneg_left (by omega) hs
   have h2 : 0 ≤ s * (i : Int) := Int.mul_nonneg hs (by omega)
   rw [hstep k i (marks m s v n) (v + s * i) (by rw [marks_length]; exact hlt) (by rw [marks_length]; exact hx) (by omega) (by omega) (marks_get _ _ _ _ _ hlt), show v + s * (i : Int) + s = v + s * ((i + 1 : Nat) : Int) by rw [show ((i + 1 : Nat) : Int) = (i : Int) + 1 by omega, Int.mul_add]; omega]
   exact ih k (i + 1) (by omega) (by omega) (by omega)
 intro k hk
 have := key n k 0 (by omega) hk (by omega)
 rwa [show v + s * ((0 : Nat) : Int) = v by simp] at this
end Go.Proofs.Ytlchnflpapfpnaa.Pure
/- Numbers read out of a few bytes, most significant first: the program's way and the reference's. Conditions: those in each statement. -/
namespace Go.Proofs.Ytlchnflpapfpnaa.Pure
set_option linter.unusedSimpArgs false
open Go.RowKit Go.Proofs.Ytlchnflpapfpnaa.Q Go.Proofs.YtlchnflpapfpnaaW.PrintWords Go.Proofs.YtlchnflpapfpnaaW.PrintLast Go.Proofs.YtlchnflpapfpnaaW.PrintMore
theorem bt_getD (s : ByteArray) (i : Nat) : bt s (i : Int) = ((s.data.toList.getD i 0).toNat : Int) := by
 rw [← rd_bytesOf]
 show (bytesOf s).getD i 0 = _
 unfold bytesOf
 rw [List.getD_eq_getElem?_getD, List.getElem?_map, List.getD_eq_getElem?_getD]
 cases s.data.toList[i]? with
 | none => rfl
 | some b => rfl
theorem or_byte {x b : Int} (h0 : 0 ≤ x) (h1 : x < 1152921504606846976) (hx : x % 256 = 0) (b0 : 0 ≤ b) (b1 : b ≤ 255) : Go.bits .or .i64 x b = x + b :=
 bits_join .i64 60 (by decide) (fun n g0 g1 => by rw [IntKind.wrap_i64]; omega) 8 x b h0 (by omega) (by omega) b0 (by omega) (by omega)
theorem p256 : ∀ i : Nat, i < 7 → (256 : Int) ^ i ≤ 281474976710656 := by decide
theorem num_step (s : ByteArray) (hs : s.size ≤ 6) : ∀ i : Nat, i ≤ s.size → 0 ≤ impl_numberOf.g (s.data.toList.take i) ∧ impl_numberOf.g (s.data.toList.take i) < 256 ^ i ∧ (i < s.size → impl_numberOf.g (s.data.toList.take (i + 1)) = impl_numberOf.g (s.data.toList.take i) * 256 + bt s i) := by
 have step : ∀ i : Nat, i < s.size → 0 ≤ impl_numberOf.g (s.data.toList.take i) → impl_numberOf.g (s.data.toList.take i) < 256 ^ i → impl_numberOf.g (s.data.toList.take (i + 1)) = impl_numberOf.g (s.data.toList.take i) * 256 + bt s i := by
  intro i hi h0 h1
  have hp := p256 i (by omega)
  have hb := bt_range s (i : Int)
  rw [impl_numberOf.take_snoc s i hi, impl_numberOf.g_snoc, ← bt_getD, w64 (by omega) (by omega)]
  exact or_byte (by omega) (by omega) (by omega) hb.1 hb.2
 intro i
 induction i with
 | zero =>
  intro _
  have e : impl_numberOf.g (s.data.toList.take 0) = 0 := by rw [List.take_zero]; rfl
  have h0 : 0 ≤ impl_numberOf.g (s.data.toList.take 0) := by rw [e]; decide
  have h1 : impl_numberOf.g (s.data.toList.take 0) < 256 ^ 0 := by rw [e]; decide
  exact ⟨h0, h1, fun h => step 0 h h0 h1⟩
 | succ i ih =>
  intro hi
  obtain ⟨h0, h1, h2⟩ := ih (by omega)
  have e := h2 (by omega)
  have hb := bt_range s (i : Int)
  have h0' : 0 ≤ impl_numberOf.g (s.data.toList.take (i + 1)) := by rw [e]; omega
  have h1' : impl_numberOf.g (s.data.toList.take (i + 1)) < 256 ^ (i + 1) := by rw [e, Int.pow_succ]; omega
  exact ⟨h0', h1', fun h => step (i + 1) h h0' h1'⟩
theorem num_spec {s : ByteArray} (hs : s.size ≤ 6) {k : Nat} (hk : 10 ≤ k) : spec_l8Num.f k s = some (impl_numberOf.g s.data.toList) := by
 have key : ∀ (e i : Nat), s.size - i = e → i ≤ s.size → ∀ k, e + 1 ≤ k → spec_l8Num.l0 k s (impl_numberOf.g (s.data.toList.take i)) (i : Int) = some (impl_numberOf.g s.data.toList) := by
  intro e
  induction e with
  | zero =>
   intro i he hi k hk
   obtain ⟨k, rfl⟩ : ∃ m, k = m + 1 := ⟨k - 1, by omega⟩
   simp only [spec_l8Num.l0]
   rw [if_neg (by omega), List.take_of_length_le (by rw [data_length]; omega)]
  | succ e ih =>
   intro i he hi k hk
   obtain ⟨k, rfl⟩ : ∃ m, k = m + 1 := ⟨k - 1, by omega⟩
   obtain ⟨h0, h1, h2⟩ := num_step s hs i hi
   have e' := h2 (by omega)
   have hb := bt_range s (i : Int)
   have hp := p256 i (by omega)
   have := ih (i + 1) (by omega) (by omega) k (by omega)
   rw [e'] at this
   simp only [spec_l8Num.l0]
   rw [if_pos (by omega), if_pos (by omega), w64 (x := bt s i) (by omega) (by omega), w64 (x := impl_numberOf.g (s.data.toList.take i) * 256) (by omega) (by omega), w64 (x := impl_numberOf.g (s.data.toList.take i) * 256 + bt s i) (by omega) (by omega), w64 (x := (i : Int) + 1) (by omega) (by omega)]
   exact this
 have := key s.size 0 (by omega) (by omega) k (by omega)
 rw [List.take_zero] at this
 exact this
theorem num_impl {s : ByteArray} (hs : s.size ≤ 6) : impl_numberOf.f s = some (impl_numberOf.g s.data.toList) := by
 unfold impl_numberOf.f
 rw [if_pos (by omega)]
end Go.Proofs.Ytlchnflpapfpnaa.Pure
/- What the functions of address blocks compute, in plain words: sizes, validity, last addresses, membership. Conditions: those in each statement. -/
namespace Go.Proofs.Ytlchnflpapfpnaa.Pure
open Go.RowKit Go.Proofs.Ytlchnflpapfpnaa.Q Go.Proofs.YtlchnflpapfpnaaW.PrintWords Go.Proofs.YtlchnflpapfpnaaW.PrintLast Go.Proofs.YtlchnflpapfpnaaW.PrintMore
/-- How many addresses a block of b bits has. -/
def sz (b : Int) : Int := 2 ^ (32 - b).toNat
theorem sz_pos (b : Int) : 0 < sz b := Int.pow_pos (by omega)
theorem sz_le {b : Int} (h : 0 ≤ b) : sz b ≤ 4294967296 := by
 have h1 : (32 - b).toNat ≤ 32 := by omega
 have h2 : (2 : Nat) ^ (32 - b).toNat ≤ 2 ^ 32 := Nat.pow_le_pow_right (by omega) h1
 have h3 : ((2 : Nat) ^ (32 - b).toNat : Nat) ≤ 4294967296 := by simpa using h2
 unfold sz
 have h4 : ((2 ^ (32 - b).toNat : Nat) : Int) = (2 : Int) ^ (32 - b).toNat := by norm_cast
 omega
theorem in_spec (a lo hi : Int) : spec_l1In.f a lo hi = some (decide (lo ≤ a ∧ a ≤ hi)) := by
 unfold spec_l1In.f
 by_cases h : a ≥ lo
 ·rw [if_pos h]; simp [show lo ≤ a from h]
 ·rw [if_neg h]; simp [show ¬ lo ≤ a from h]
theorem in_impl (a lo hi : Int) : impl_in.f a lo hi = some (decide (lo ≤ a ∧ a ≤ hi)) := by
 unfold impl_in.f
 by_cases h : a ≥ lo
 ·rw [if_pos h]; simp [show lo ≤ a from h]
 ·rw [if_neg h]; simp [show ¬ lo ≤ a from h]
theorem addr_spec (a : Int) : spec_l1Addr.f a = some (decide (0 ≤ a ∧ a ≤ 4294967295)) := by
 unfold spec_l1Addr.f
 rw [in_spec]
 rfl
theorem addr_impl (a : Int) : impl_isAddr.f a = some (decide (0 ≤ a ∧ a ≤ 4294967295)) := by
 unfold impl_isAddr.f
 rw [in_impl]
 rfl
/-- A block is valid. -/
def bok (a b : Int) : Bool := decide (0 ≤ a ∧ a ≤ 4294967295 ∧ 0 ≤ b ∧ b ≤ 32 ∧ a % sz b = 0)
theorem bok_iff {a b : Int} : bok a b = true ↔ 0 ≤ a ∧ a ≤ 4294967295 ∧ 0 ≤ b ∧ b ≤ 32 ∧ a % sz b = 0 := by
 unfold bok
 rw [decide_eq_true_iff]
theorem tmod_of {a b : Int} (h : 0 ≤ a) : Int.tmod a (sz b) = a % sz b := Int.tmod_eq_emod_of_nonneg h
/-- A valid block lies in another one. -/
def bin (a b c d : Int) : Bool := bok a b && (bok c d && (decide (b ≤ d) && decide (a ≤ c ∧ c ≤ a + sz b - 1)))
end Go.Proofs.Ytlchnflpapfpnaa.Pure
/- Packets: the program and the reference say the same. Conditions: those in each statement. -/
namespace Go.Proofs.Ytlchnflpapfpnaa.Pure
set_option linter.unusedSimpArgs false
open Go.RowKit Go.Proofs.Ytlchnflpapfpnaa.Q Go.Proofs.YtlchnflpapfpnaaW.PrintWords Go.Proofs.YtlchnflpapfpnaaW.PrintLast Go.Proofs.YtlchnflpapfpnaaW.PrintMore
/-- A number's byte, some places from the right. -/
def by_ (a : Int) (n : Int) : Int := (shr .i64 a n) % 256
theorem num4 (a : Int) (k : Nat) : impl_numbered.f (k + 6) a 4 = some (strOfNums [by_ a 24, by_ a 16, by_ a 8, by_ a 0]) := by
 simp [impl_numbered.f, impl_numbered.l0, wrap64, by_, List.replicate]
theorem num2 (a : Int) (k : Nat) : impl_numbered.f (k + 6) a 2 = some (strOfNums [by_ a 8, by_ a 0]) := by
 simp [impl_numbered.f, impl_numbered.l0, wrap64, by_, List.replicate]
theorem num1 (a : Int) (k : Nat) : impl_numbered.f (k + 6) a 1 = some (strOfNums [by_ a 0]) := by
 simp [impl_numbered.f, impl_numbered.l0, wrap64, by_, List.replicate]
theorem byt4 (a : Int) (k : Nat) : spec_l8Bytes.f (k + 6) a 4 = some (strOfNums [by_ a 24, by_ a 16, by_ a 8, by_ a 0]) := by
 simp [spec_l8Bytes.f, spec_l8Bytes.l0, wrap64, by_]
theorem byt2 (a : Int) (k : Nat) : spec_l8Bytes.f (k + 6) a 2 = some (strOfNums [by_ a 8, by_ a 0]) := by
 simp [spec_l8Bytes.f, spec_l8Bytes.l0, wrap64, by_]
theorem byt1 (a : Int) (k : Nat) : spec_l8Bytes.f (k + 6) a 1 = some (strOfNums [by_ a 0]) := by
 simp [spec_l8Bytes.f, spec_l8Bytes.l0, wrap64, by_]
/-- A packet is valid. -/
def pok (a b c : Int) (s : ByteArray) : Bool := decide (0 ≤ a ∧ a ≤ 4294967295) && (decide (0 ≤ b ∧ b ≤ 4294967295) && (decide (0 ≤ c ∧ c ≤ 65535) && decide ((s.size : Int) ≤ 40)))
theorem pok_spec (a b c : Int) (s : ByteArray) : spec_PacketOk.f a b c s = some (pok a b c s) := by
 unfold spec_PacketOk.f spec_l4Call.f pok
 simp only [addr_spec, in_spec, Option.bind_some]
 generalize decide (0 ≤ a ∧ a ≤ 4294967295) = b0
 generalize decide (0 ≤ b ∧ b ≤ 4294967295) = b1
 generalize decide (0 ≤ c ∧ c ≤ 65535) = b2
 cases b0 <;> cases b1 <;> cases b2 <;> rfl
theorem pok_impl (a b c : Int) (s : ByteArray) : impl_PacketOk.f a b c s = some (pok a b c s) := by
 unfold impl_PacketOk.f impl_isCall.f impl_Packet_call.f pok
 simp only [addr_impl, in_impl, Option.bind_some]
 generalize decide (0 ≤ a ∧ a ≤ 4294967295) = b0
 generalize decide (0 ≤ b ∧ b ≤ 4294967295) = b1
 generalize decide (0 ≤ c ∧ c ≤ 65535) = b2
 cases b0 <;> cases b1 <;> cases b2 <;> rfl
/-- A packet's bytes. -/
def pput (a b c : Int) (s : ByteArray) : ByteArray := strOfNums [by_ a 24, by_ a 16, by_ a 8, by_ a 0] ++ strOfNums [by_ b 24, by_ b 16, by_ b 8, by_ b 0] ++ strOfNums [by_ c 8, by_ c 0] ++ strOfNums [by_ s.size 0] ++ s
theorem put_spec (a b c : Int) (s : ByteArray) (k : Nat) (hk : 6 ≤ k) : spec_PacketPut.f k a b c s = some (if pok a b c s = true then pput a b c s else ⟨#[]⟩) := by
 obtain ⟨k, rfl⟩ : ∃ m, k = m + 6 := ⟨k - 6, by omega⟩
 unfold spec_PacketPut.f spec_l8Put.f
 rw [pok_spec]
 simp only [Option.bind_some, byt4, byt2, byt1]
 by_cases h : pok a b c s = true
 ·have hs : s.size ≤ 40 := by
   unfold pok at h
   simp only [Bool.and_eq_true, decide_eq_true_eq] at h
   omega
  rw [if_pos h, if_pos h]
  simp only [ByteArray.size_append, strOfNums_size, List.length_cons, List.length_nil]
  simp only [Nat.reduceAdd, Nat.reduceLeDiff, if_true]
  rw [if_pos (by omega)]
  rfl
 ·rw [if_neg h, if_neg h]
theorem put_impl (a b c : Int) (s : ByteArray) (k : Nat) (hk : 6 ≤ k) : impl_PacketPut.f k a b c s = some (if pok a b c s = true then pput a b c s else ⟨#[]⟩) := by
 obtain ⟨k, rfl⟩ : ∃ m, k = m + 6 := ⟨k - 6, by omega⟩
 unfold impl_PacketPut.f
 rw [pok_impl]
 simp only [Option.bind_some, num4, num2, num1]
 by_cases h : pok a b c s = true
 ·have hs : s.size ≤ 40 := by
   unfold pok at h
   simp only [Bool.and_eq_true, decide_eq_true_eq] at h
   omega
  rw [if_pos h, if_pos h]
  simp only [ByteArray.size_append, strOfNums_size, List.length_cons, List.length_nil]
  simp only [Nat.reduceAdd, Nat.reduceLeDiff, if_true]
  rw [if_pos (by omega)]
  rfl
 ·rw [if_neg h, if_neg h]
theorem packetPut_ev (a b c : Int) (s : ByteArray) (k : Nat) (hk : 6 ≤ k) : ∃ r, spec_PacketPut.f k a b c s = some r ∧ impl_PacketPut.f k a b c s = some r ∧ r = (if pok a b c s = true then pput a b c s else ⟨#[]⟩) :=
 ⟨_, put_spec a b c s k hk, put_impl a b c s k hk, rfl⟩
end Go.Proofs.Ytlchnflpapfpnaa.Pure
/- Packets read back: the program, which puts what it read, and the reference, which looks at the length, say the same. Conditions: those in each statement. -/
namespace Go.Proofs.Ytlchnflpapfpnaa.Pure
set_option linter.unusedSimpArgs false
open Go.RowKit Go.Proofs.Ytlchnflpapfpnaa.Q Go.Proofs.YtlchnflpapfpnaaW.PrintWords Go.Proofs.YtlchnflpapfpnaaW.PrintLast Go.Proofs.YtlchnflpapfpnaaW.PrintMore
theorem num_all (s : ByteArray) (n : Nat) (h : s.size = n) : s.data.toList.take n = s.data.toList := List.take_of_length_le (by rw [data_length]; omega)
theorem num_nil (s : ByteArray) : impl_numberOf.g (s.data.toList.take 0) = 0 := by rw [List.take_zero]; rfl
theorem g4 {s : ByteArray} (h : s.size = 4) : impl_numberOf.g s.data.toList = bt s 0 * 16777216 + bt s 1 * 65536 + bt s 2 * 256 + bt s 3 := by
 have e0 := (num_step s (by omega) 0 (by omega)).2.2 (by omega)
 have e1 := (num_step s (by omega) 1 (by omega)).2.2 (by omega)
 have e2 := (num_step s (by omega) 2 (by omega)).2.2 (by omega)
 have e3 := (num_step s (by omega) 3 (by omega)).2.2 (by omega)
 rw [num_nil] at e0
 rw [num_all s (3 + 1) h] at e3
 rw [e3, e2, e1, e0]
 show (((0 * 256 + bt s 0) * 256 + bt s 1) * 256 + bt s 2) * 256 + bt s 3 = _
 omega
theorem g2 {s : ByteArray} (h : s.size = 2) : impl_numberOf.g s.data.toList = bt s 0 * 256 + bt s 1 := by
 have e0 := (num_step s (by omega) 0 (by omega)).2.2 (by omega)
 have e1 := (num_step s (by omega) 1 (by omega)).2.2 (by omega)
 rw [num_nil] at e0
 rw [num_all s (1 + 1) h] at e1
 rw [e1, e0]
 show (0 * 256 + bt s 0) * 256 + bt s 1 = _
 omega
theorem g1 {s : ByteArray} (h : s.size = 1) : impl_numberOf.g s.data.toList = bt s 0 := by
 have e0 := (num_step s (by omega) 0 (by omega)).2.2 (by omega)
 rw [num_nil] at e0
 rw [num_all s (0 + 1) h] at e0
 rw [e0]
 show 0 * 256 + bt s 0 = _
 omega
theorem by24 (a : Int) : by_ a 24 = a / 16777216 % 256 := by
 unfold by_ shr
 rw [show (2 : Int) ^ min (24 : Int).toNat IntKind.i64.bits = 16777216 from by decide]
theorem by16 (a : Int) : by_ a 16 = a / 65536 % 256 := by
 unfold by_ shr
 rw [show (2 : Int) ^ min (16 : Int).toNat IntKind.i64.bits = 65536 from by decide]
theorem by8 (a : Int) : by_ a 8 = a / 256 % 256 := by
 unfold by_ shr
 rw [show (2 : Int) ^ min (8 : Int).toNat IntKind.i64.bits = 256 from by decide]
theorem by0 (a : Int) : by_ a 0 = a % 256 := by
 unfold by_ shr
 rw [show (2 : Int) ^ min (0 : Int).toNat IntKind.i64.bits = 1 from by decide, Int.ediv_one]
theorem one_byte (b : UInt8) : UInt8.ofNat (((b.toNat : Nat) : Int)).toNat = b := by simp
theorem ba_inj {a b : ByteArray} (h : a.data.toList = b.data.toList) : a = b := ByteArray.ext (Array.ext' h)
theorem bytesOf_inj {s t : ByteArray} (h : bytesOf s = bytesOf t) : s = t := by
 have e : ∀ u : ByteArray, strOfNums (bytesOf u) = u := by
  intro u
  apply ba_inj
  rw [strOfNums_data]
  unfold bytesOf
  rw [List.map_map]
  conv => rhs; rw [← List.map_id u.data.toList]
  exact List.map_congr_left fun b _ => one_byte b
 rw [← e s, ← e t, h]
theorem bytesOf_strOfNums (l : List Int) (h : ∀ y ∈ l, 0 ≤ y ∧ y ≤ 255) : bytesOf (strOfNums l) = l := by
 unfold bytesOf
 rw [strOfNums_data, List.map_map]
 conv => rhs; rw [← List.map_id l]
 refine List.map_congr_left fun y hy => ?_
 obtain ⟨y0, y1⟩ := h y hy
 show ((UInt8.ofNat y.toNat).toNat : Int) = y
 rw [UInt8.toNat_ofNat', Nat.mod_eq_of_lt (by omega)]
 omega
theorem bytesOf_append (s t : ByteArray) : bytesOf (s ++ t) = bytesOf s ++ bytesOf t := by
 unfold bytesOf
 rw [ByteArray.data_append, Array.toList_append, List.map_append]
theorem bytesOf_cut (s : ByteArray) (i j : Nat) : bytesOf (s.extract i j) = ((bytesOf s).take j).drop i := by
 unfold bytesOf
 rw [ByteArray.data_extract, Array.toList_extract, List.extract_eq_take_drop, List.map_take, List.map_drop, List.drop_take]
theorem list_of (l : List Int) : ∀ n : Nat, l.length = n → l = (List.range n).map fun j => l.getD j 0 := by
 intro n hn
 apply List.ext_getElem?
 intro i
 rw [List.getElem?_map]
 by_cases h : i < n
 ·rw [List.getElem?_range h]
  show l[i]? = some (l.getD i 0)
  rw [List.getD_eq_getElem?_getD, List.getElem?_eq_getElem (by omega)]
  rfl
 ·rw [List.getElem?_eq_none (by omega), List.getElem?_eq_none (by simp; omega)]
  rfl
theorem bt_get (s : ByteArray) (i : Nat) : (bytesOf s).getD i 0 = bt s (i : Int) := by
 rw [← rd_bytesOf]
 rfl
theorem bytes4 {s : ByteArray} (h : s.size = 4) : bytesOf s = [bt s 0, bt s 1, bt s 2, bt s 3] := by
 rw [list_of (bytesOf s) 4 (by rw [bytesOf_length]; exact h)]
 show [(bytesOf s).getD 0 0, (bytesOf s).getD 1 0, (bytesOf s).getD 2 0, (bytesOf s).getD 3 0] = _
 simp only [bt_get]
 rfl
theorem bytes2 {s : ByteArray} (h : s.size = 2) : bytesOf s = [bt s 0, bt s 1] := by
 rw [list_of (bytesOf s) 2 (by rw [bytesOf_length]; exact h)]
 show [(bytesOf s).getD 0 0, (bytesOf s).getD 1 0] = _
 simp only [bt_get]
 rfl
theorem bytes1 {s : ByteArray} (h : s.size = 1) : bytesOf s = [bt s 0] := by
 rw [list_of (bytesOf s) 1 (by rw [bytesOf_length]; exact h)]
 show [(bytesOf s).getD 0 0] = _
 simp only [bt_get]
 rfl
theorem put4 {s : ByteArray} (h : s.size = 4) : [by_ (impl_numberOf.g s.data.toList) 24, by_ (impl_numberOf.g s.data.toList) 16, by_ (impl_numberOf.g s.data.toList) 8, by_ (impl_numberOf.g s.data.toList) 0] = bytesOf s := by
 have b0 := bt_range s 0
 have b1 := bt_range s 1
 have b2 := bt_range s 2
 have b3 := bt_range s 3
 rw [bytes4 h, g4 h, by24, by16, by8, by0]
 congr 1
 ·omega
 congr 1
 ·omega
 congr 1
 ·omega
 congr 1
 omega
theorem put2 {s : ByteArray} (h : s.size = 2) : [by_ (impl_numberOf.g s.data.toList) 8, by_ (impl_numberOf.g s.data.toList) 0] = bytesOf s := by
 have b0 := bt_range s 0
 have b1 := bt_range s 1
 rw [bytes2 h, g2 h, by8, by0]
 congr 1
 ·omega
 congr 1
 omega
theorem strOfNums_bytesOf (s : ByteArray) : strOfNums (bytesOf s) = s := by
 apply bytesOf_inj
 refine bytesOf_strOfNums _ fun y hy => ?_
 unfold bytesOf at hy
 obtain ⟨b, _, rfl⟩ := List.mem_map.1 hy
 have := b.toNat_lt
 omega
theorem cuts (l : List Int) : l = l.take 4 ++ (l.take 8).drop 4 ++ (l.take 10).drop 8 ++ (l.take 11).drop 10 ++ l.drop 11 := by
 have c : ∀ i j : Nat, i ≤ j → l.take i ++ (l.take j).drop i = l.take j := by
  intro i j hij
  have := List.take_append_drop i (l.take j)
  rwa [List.take_take, Nat.min_eq_left hij] at this
 rw [c 4 8 (by omega), c 8 10 (by omega), c 10 11 (by omega), List.take_append_drop]
/-- A text that is long enough is what is put for what it says, but for the length byte. -/
theorem cut_same (s : ByteArray) : s = s.extract 0 4 ++ s.extract 4 8 ++ s.extract 8 10 ++ s.extract 10 11 ++ s.extract 11 s.size := by
 apply bytesOf_inj
 simp only [bytesOf_append, bytesOf_cut]
 rw [List.drop_zero, show (bytesOf s).take s.size = bytesOf s from List.take_of_length_le (by rw [bytesOf_length]; omega)]
 exact cuts (bytesOf s)
theorem app_inj {a x y c : ByteArray} (h : (a ++ x ++ c).toList = (a ++ y ++ c).toList) : x = y := by
 rw [ByteArray.toList_eq, ByteArray.toList_eq] at h
 have h2 := ba_inj h
 have h3 : bytesOf (a ++ x ++ c) = bytesOf (a ++ y ++ c) := by rw [h2]
 simp only [bytesOf_append, List.append_left_inj, List.append_right_inj] at h3
 exact bytesOf_inj h3
theorem put_back (s : ByteArray) (h : 11 ≤ s.size) (h2 : s.size ≤ 51) :
  pok (impl_numberOf.g (s.extract 0 4).data.toList) (impl_numberOf.g (s.extract 4 8).data.toList) (impl_numberOf.g (s.extract 8 10).data.toList) (s.extract 11 s.size) = true ∧
  ((pput (impl_numberOf.g (s.extract 0 4).data.toList) (impl_numberOf.g (s.extract 4 8).data.toList) (impl_numberOf.g (s.extract 8 10).data.toList) (s.extract 11 s.size)).toList = s.toList ↔ impl_numberOf.g (s.extract 10 11).data.toList = (s.size : Int) - 11) := by
 have z1 : (s.extract 0 4).size = 4 := by rw [ByteArray.size_extract]; omega
 have z2 : (s.extract 4 8).size = 4 := by rw [ByteArray.size_extract]; omega
 have z3 : (s.extract 8 10).size = 2 := by rw [ByteArray.size_extract]; omega
 have z4 : (s.extract 10 11).size = 1 := by rw [ByteArray.size_extract]; omega
 have z5 : (s.extract 11 s.size).size = s.size - 11 := by rw [ByteArray.size_extract]; omega
 constructor
 ·rw [g4 z1, g4 z2, g2 z3]
  have b0 := bt_range (s.extract 0 4) 0
  have b1 := bt_range (s.extract 0 4) 1
  have b2 := bt_range (s.extract 0 4) 2
  have b3 := bt_range (s.extract 0 4) 3
  have c0 := bt_range (s.extract 4 8) 0
  have c1 := bt_range (s.extract 4 8) 1
  have c2 := bt_range (s.extract 4 8) 2
  have c3 := bt_range (s.extract 4 8) 3
  have d0 := bt_range (s.extract 8 10) 0
  have d1 := bt_range (s.extract 8 10) 1
  unfold pok
  simp only [Bool.and_eq_true, decide_eq_true_eq]
  omega
 ·unfold pput
  rw [put4 z1, put4 z2, put2 z3, strOfNums_bytesOf, strOfNums_bytesOf, strOfNums_bytesOf, g1 z4, z5, by0]
  have hn : (((s.size - 11 : Nat) : Int)) % 256 = (s.size : Int) - 11 := by omega
  rw [hn]
  have key : bytesOf (strOfNums [(s.size : Int) - 11]) = [(s.size : Int) - 11] := bytesOf_strOfNums _ (fun y hy => by rw [List.mem_singleton] at hy; omega)
  constructor
  ·intro e
   have e' : (s.extract 0 4 ++ s.extract 4 8 ++ s.extract 8 10 ++ strOfNums [(s.size : Int) - 11] ++ s.extract 11 s.size).toList = (s.extract 0 4 ++ s.extract 4 8 ++ s.extract 8 10 ++ s.extract 10 11 ++ s.extract 11 s.size).toList := by
    rw [← cut_same s]; exact e
   have e2 := app_inj e'
   rw [e2, bytes1 z4] at key
   injection key
  ·intro e
   have e2 : strOfNums [(s.size : Int) - 11] = s.extract 10 11 := by
    apply bytesOf_inj
    rw [key, bytes1 z4, e]
   rw [e2, ← cut_same s]
/-- What both read. -/
def pgot (s : ByteArray) : Option (Int × Int × Int × ByteArray × Bool) :=
 if 11 ≤ s.size ∧ s.size ≤ 51 ∧ impl_numberOf.g (s.extract 10 11).data.toList = (s.size : Int) - 11 then some (impl_numberOf.g (s.extract 0 4).data.toList, impl_numberOf.g (s.extract 4 8).data.toList, impl_numberOf.g (s.extract 8 10).data.toList, s.extract 11 s.size, true)
 else some (0, 0, 0, ⟨#[]⟩, false)
theorem nums_ev {s : ByteArray} {i j : Nat} (h : j ≤ i + 4) {k : Nat} (hk : 10 ≤ k) : spec_l8Num.f k (s.extract i j) = some (impl_numberOf.g (s.extract i j).data.toList) ∧ impl_numberOf.f (s.extract i j) = some (impl_numberOf.g (s.extract i j).data.toList) := by
 have e : (s.extract i j).size ≤ 6 := by rw [ByteArray.size_extract]; omega
 exact ⟨num_spec e hk, num_impl e⟩
theorem get_spec (s : ByteArray) (hs : s.size ≤ 2000000) {k : Nat} (hk : 30 ≤ k) : spec_PacketGet.f k s = pgot s := by
 obtain ⟨k, rfl⟩ : ∃ m, k = m + 1 := ⟨k - 1, by omega⟩
 have no : spec_PacketGet.j0 (k + 1) s true = some (0, 0, 0, ⟨#[]⟩, false) := by simp only [spec_PacketGet.j0, if_true]
 unfold spec_PacketGet.f pgot
 by_cases h1 : (s.size : Int) < 11
 ·rw [if_pos h1, no, if_neg (by omega)]
 rw [if_neg h1]
 by_cases h2 : (s.size : Int) > 51
 ·rw [if_pos h2, no, if_neg (by omega)]
 rw [if_neg h2, if_pos (by omega), if_pos (by omega), (nums_ev (by omega) (by omega)).1, Option.bind_some, w64 (by omega) (by omega)]
 by_cases h3 : impl_numberOf.g (s.extract 10 11).data.toList = (s.size : Int) - 11
 ·rw [if_pos ⟨by omega, by omega, h3⟩, show (impl_numberOf.g (s.extract 10 11).data.toList != (s.size : Int) - 11) = false from bne_eq_false_iff_eq.2 h3]
  simp only [spec_PacketGet.j0]
  rw [if_neg (by simp), if_pos (by omega), if_pos (by omega), (nums_ev (by omega) (by omega)).1, Option.bind_some, if_pos (by omega), if_pos (by omega), (nums_ev (by omega) (by omega)).1, Option.bind_some, if_pos (by omega), if_pos (by omega), (nums_ev (by omega) (by omega)).1, Option.bind_some, if_pos (by omega)]
 ·rw [if_neg (fun h => h3 h.2.2), show (impl_numberOf.g (s.extract 10 11).data.toList != (s.size : Int) - 11) = true from bne_iff_ne.2 h3, no]
theorem get_impl (s : ByteArray) (hs : s.size ≤ 2000000) {k : Nat} (hk : 30 ≤ k) : impl_PacketGet.f k s = pgot s := by
 unfold impl_PacketGet.f pgot
 by_cases h1 : (s.size : Int) < 11
 ·rw [if_pos h1, if_neg (by omega)]
 rw [if_neg h1, if_pos (by omega), if_pos (by omega), (nums_ev (by omega) (show 10 ≤ 10 by omega)).2, Option.bind_some, if_pos (by omega), if_pos (by omega), (nums_ev (by omega) (show 10 ≤ 10 by omega)).2, Option.bind_some, if_pos (by omega), if_pos (by omega), (nums_ev (by omega) (show 10 ≤ 10 by omega)).2, Option.bind_some, if_pos (by omega)]
 have e2 := put_impl (impl_numberOf.g (s.extract 0 4).data.toList) (impl_numberOf.g (s.extract 4 8).data.toList) (impl_numberOf.g (s.extract 8 10).data.toList) (s.extract 11 s.size) k (by omega)
 obtain ⟨r, e3⟩ : ∃ r, r = (if pok (impl_numberOf.g (s.extract 0 4).data.toList) (impl_numberOf.g (s.extract 4 8).data.toList) (impl_numberOf.g (s.extract 8 10).data.toList) (s.extract 11 s.size) = true then pput (impl_numberOf.g (s.extract 0 4).data.toList) (impl_numberOf.g (s.extract 4 8).data.toList) (impl_numberOf.g (s.extract 8 10).data.toList) (s.extract 11 s.size) else ⟨#[]⟩) := ⟨_, rfl⟩
 rw [← e3] at e2
 rw [e2, Option.bind_some]
 by_cases h2 : s.size ≤ 51
 ·obtain ⟨p, q⟩ := put_back s (by omega) h2
  rw [if_pos p] at e3
  rw [e3]
  by_cases h3 : impl_numberOf.g (s.extract 10 11).data.toList = (s.size : Int) - 11
  ·rw [if_pos (q.2 h3), if_pos ⟨by omega, h2, h3⟩]
  ·rw [if_neg (fun h => h3 (q.1 h)), if_neg (fun h => h3 h.2.2)]
 ·have z5 : (s.extract 11 s.size).size = s.size - 11 := by rw [ByteArray.size_extract]; omega
  have np : ¬ pok (impl_numberOf.g (s.extract 0 4).data.toList) (impl_numberOf.g (s.extract 4 8).data.toList) (impl_numberOf.g (s.extract 8 10).data.toList) (s.extract 11 s.size) = true := by
   unfold pok
   simp only [Bool.and_eq_true, decide_eq_true_eq]
   omega
  rw [if_neg np] at e3
  rw [e3, if_neg ?_, if_neg (fun h => h2 h.2.1)]
  intro h
  rw [ByteArray.toList_eq, ByteArray.toList_eq] at h
  have := ba_inj h
  rw [← this] at h1
  exact h1 (by decide)
end Go.Proofs.Ytlchnflpapfpnaa.Pure
/- The reference's draws: each answers, and within the ranges it names. Conditions: those in each statement. -/
namespace Go.Proofs.Ytlchnflpapfpnaa.Pure
set_option linter.unusedSimpArgs false
open Go.RowKit Go.Proofs.Ytlchnflpapfpnaa.Q Go.Proofs.Ytlchnflpapfpnaa.Open Go.Proofs.YtlchnflpapfpnaaW.PrintWords Go.Proofs.YtlchnflpapfpnaaW.PrintLast Go.Proofs.YtlchnflpapfpnaaW.PrintMore
/-- Bytes, at most two thousand of them. -/
def rdOk (xs : List Int) : Prop := (∀ y ∈ xs, 0 ≤ y ∧ y ≤ 255) ∧ xs.length ≤ 2000
theorem fits_u8 {y : Int} (h : Fits .u8 y) : 0 ≤ y ∧ y ≤ 255 := by
 have g : (decide (IntKind.u8.min ≤ y) && decide (y ≤ IntKind.u8.max)) = true := h
 rw [Bool.and_eq_true, decide_eq_true_eq, decide_eq_true_eq] at g
 exact g
theorem xor_nn {a b : Int} (ha : 0 ≤ a) (ha' : a < 4611686018427387904) (hb : 0 ≤ b) (hb' : b < 4611686018427387904) : 0 ≤ Go.bits .xor .i64 a b := by
 obtain ⟨m, rfl⟩ := Int.eq_ofNat_of_zero_le ha
 obtain ⟨n, rfl⟩ := Int.eq_ofNat_of_zero_le hb
 have hm : m < 2 ^ 62 := by omega
 have hn : n < 2 ^ 62 := by omega
 have hx : m ^^^ n < 2 ^ 62 := Nat.xor_lt_two_pow hm hn
 simp only [Go.bits, BitVec.ofInt_natCast, BitVec.toNat_xor, BitVec.toNat_ofNat]
 rw [Nat.mod_eq_of_lt (show m < 2 ^ IntKind.i64.bits by show m < 2 ^ 64; omega), Nat.mod_eq_of_lt (show n < 2 ^ IntKind.i64.bits by show n < 2 ^ 64; omega), IntKind.wrap_i64]
 generalize m ^^^ n = z at hx
 omega
theorem rd_byte {xs : List Int} (hx : rdOk xs) (i : Int) : 0 ≤ rd xs i ∧ rd xs i ≤ 255 := by
 show 0 ≤ xs.getD i.toNat 0 ∧ xs.getD i.toNat 0 ≤ 255
 rw [List.getD_eq_getElem?_getD]
 by_cases h : i.toNat < xs.length
 ·rw [List.getElem?_eq_getElem h]
  exact hx.1 _ (List.getElem_mem h)
 ·rw [List.getElem?_eq_none (by omega)]
  decide
theorem last_le {a b : Int} (h : bok a b = true) : a + sz b - 1 ≤ 4294967295 := by
 obtain ⟨h0, h1, h2, h3, h4⟩ := bok_iff.1 h
 have hp := sz_pos b
 have e : (4294967296 : Int) = sz b * 2 ^ b.toNat := by
  unfold sz
  rw [← Int.pow_add, show (32 - b).toNat + b.toNat = 32 by omega]
  decide
 have d1 : sz b ∣ a := Int.dvd_of_emod_eq_zero h4
 have d2 : sz b ∣ 4294967296 := ⟨_, e⟩
 have d3 : sz b ∣ 4294967296 - a := Int.dvd_sub d2 d1
 have := Int.le_of_dvd (by omega) d3
 omega
theorem tmod_in {a n : Int} (ha : 0 ≤ a) (hn : 1 ≤ n) : 0 ≤ Int.tmod a n ∧ Int.tmod a n < n := ⟨Int.tmod_nonneg _ ha, Int.tmod_lt_of_pos _ (by omega)⟩
theorem pick_ev {xs : List Int} (hx : rdOk xs) {s n : Int} (hs : 0 ≤ s) (hs' : s ≤ 1000000000) (hn : 1 ≤ n) {k : Nat} (hk : 1 ≤ k) : ∃ v, spec_l1Rd_pick.f k xs s n = some (v, s + 1) ∧ 0 ≤ v ∧ v < n := by
 obtain ⟨k, rfl⟩ : ∃ m, k = m + 1 := ⟨k - 1, by omega⟩
 have hl := hx.2
 unfold spec_l1Rd_pick.f
 rw [if_neg (by omega), w64 (x := s + 1) (by omega) (by omega)]
 simp only [spec_l1Rd_pick.j0]
 rw [w64 (x := s + 1 - 1) (by omega) (by omega), show s + 1 - 1 = s by omega]
 by_cases h0 : xs.length = 0
 ·rw [if_pos (by simp [h0])]
  exact ⟨0, rfl, by omega, by omega⟩
 ·rw [if_neg (by simp; intro h; exact h0 (by rw [h]; rfl))]
  by_cases h1 : s < (xs.length : Int)
  ·obtain ⟨g0, g1⟩ := rd_byte hx s
   rw [if_pos h1, if_pos hs, if_neg (by omega), w64 (by omega) (by omega)]
   obtain ⟨t0, t1⟩ := tmod_in g0 hn
   exact ⟨_, rfl, t0, t1⟩
  ·rw [if_neg h1, if_neg (by omega)]
   obtain ⟨i0, i1⟩ := tmod_in (n := (xs.length : Int)) hs (by omega)
   rw [if_pos i0, if_pos i1, w64 (x := s * 7) (by omega) (by omega), w64 (x := s * 7 + 3) (by omega) (by omega)]
   obtain ⟨j0, j1⟩ := tmod_in (a := s * 7 + 3) (n := (xs.length : Int)) (by omega) (by omega)
   rw [if_pos j0, if_pos j1, if_neg (by omega)]
   obtain ⟨g0, g1⟩ := rd_byte hx (Int.tmod s (xs.length : Int))
   obtain ⟨f0, f1⟩ := rd_byte hx (Int.tmod (s * 7 + 3) (xs.length : Int))
   have q0 : 0 ≤ Int.tdiv s (xs.length : Int) := Int.tdiv_nonneg hs (by omega)
   have q1 : Int.tdiv s (xs.length : Int) ≤ s := by
    rw [Int.tdiv_eq_ediv_of_nonneg hs]
    exact Int.ediv_le_self _ hs
   generalize rd xs (Int.tmod s (xs.length : Int)) = g at *
   generalize rd xs (Int.tmod (s * 7 + 3) (xs.length : Int)) = f at *
   generalize Int.tdiv s (xs.length : Int) = q at *
   rw [w64 (x := g) (by omega) (by omega), w64 (x := f) (by omega) (by omega), w64 (x := q) (by omega) (by omega), w64 (x := g * 131) (by omega) (by omega), w64 (x := f * 1117) (by omega) (by omega), w64 (x := s * 29) (by omega) (by omega), w64 (x := q * 53) (by omega) (by omega), w64 (x := g * 131 + f * 1117) (by omega) (by omega), w64 (x := g * 131 + f * 1117 + s * 29) (by omega) (by omega), w64 (x := g * 131 + f * 1117 + s * 29 + q * 53) (by omega) (by omega)]
   have hA : 0 ≤ g * 131 + f * 1117 + s * 29 + q * 53 := by omega
   have hA' : g * 131 + f * 1117 + s * 29 + q * 53 < 4611686018427387904 := by omega
   generalize g * 131 + f * 1117 + s * 29 + q * 53 = A at hA hA'
   rw [Int.tdiv_eq_ediv_of_nonneg hA, w64 (x := A / 64) (by omega) (by omega)]
   obtain ⟨t0, t1⟩ := tmod_in (xor_nn hA hA' (b := A / 64) (by omega) (by omega)) hn
   exact ⟨_, rfl, t0, t1⟩
theorem one_ev {xs : List Int} (hx : rdOk xs) {s : Int} (hs : 0 ≤ s) (hs' : s ≤ 1000000000) (l : List Int) (hl : 1 ≤ l.length) {k : Nat} (hk : 1 ≤ k) : ∃ v, spec_l1Rd_one.f k xs s l = some (v, s + 1) ∧ v ∈ l := by
 unfold spec_l1Rd_one.f
 obtain ⟨v, e, v0, v1⟩ := pick_ev hx hs hs' (n := (l.length : Int)) (by omega) hk
 rw [e, Option.bind_some]
 dsimp only
 rw [if_pos v0, if_pos v1]
 refine ⟨_, rfl, ?_⟩
 show l.getD v.toNat 0 ∈ l
 rw [List.getD_eq_getElem?_getD, List.getElem?_eq_getElem (by omega)]
 exact List.getElem_mem _
theorem rdof_ev {xs : List Int} (hx : rdOk xs) {s : Int} (hs : 0 ≤ s) (hs' : s ≤ 1000000000) (l : List ByteArray) (hl : 1 ≤ l.length) {k : Nat} (hk : 1 ≤ k) : ∃ v, spec_l1Rd_of.f k xs s l = some (v, s + 1) ∧ v ∈ l := by
 unfold spec_l1Rd_of.f
 obtain ⟨v, e, v0, v1⟩ := pick_ev hx hs hs' (n := (l.length : Int)) (by omega) hk
 rw [e, Option.bind_some]
 dsimp only
 rw [if_pos v0, if_pos v1]
 refine ⟨_, rfl, ?_⟩
 show l.getD v.toNat ByteArray.empty ∈ l
 rw [List.getD_eq_getElem?_getD, List.getElem?_eq_getElem (by omega)]
 exact List.getElem_mem _
theorem drAddr_ev {xs : List Int} (hx : rdOk xs) {s : Int} (hs : 0 ≤ s) (hs' : s ≤ 999999990) {k : Nat} (hk : 1 ≤ k) : ∃ a, spec_l12Addr.f k xs s = some (a, s + 6) ∧ 0 ≤ a ∧ a ≤ 4294967295 := by
 unfold spec_l12Addr.f
 obtain ⟨v0, e0, l0, u0⟩ := pick_ev hx (s := s) (n := 256) (by omega) (by omega) (by omega) hk
 obtain ⟨v1, e1, l1, u1⟩ := pick_ev hx (s := s + 1) (n := 8) (by omega) (by omega) (by omega) hk
 obtain ⟨v2, e2, l2, u2⟩ := pick_ev hx (s := s + 1 + 1) (n := 16) (by omega) (by omega) (by omega) hk
 obtain ⟨v3, e3, l3, u3⟩ := pick_ev hx (s := s + 1 + 1 + 1) (n := 256) (by omega) (by omega) (by omega) hk
 obtain ⟨v4, e4, l4, u4⟩ := pick_ev hx (s := s + 1 + 1 + 1 + 1) (n := 64) (by omega) (by omega) (by omega) hk
 simp only [e0, e1, e2, e3, e4, Option.bind_some]
 rw [w64 (x := 167772160 + v0) (by omega) (by omega), w64 (x := 167772160 + v1) (by omega) (by omega), w64 (x := 167772416 + v2) (by omega) (by omega), w64 (x := 3232235520 + v3) (by omega) (by omega), w64 (x := v4 * 256) (by omega) (by omega), w64 (x := 2886729728 + v4 * 256) (by omega) (by omega)]
 obtain ⟨v, e, hv⟩ := one_ev hx (s := s + 1 + 1 + 1 + 1 + 1) (by omega) (by omega) [167772160 + v0, 167772160 + v1, 167772416 + v2, 3232235520 + v3, 0, 4294967295, 184549375, 2886729728 + v4 * 256] (by simp) hk
 rw [e, Option.bind_some]
 refine ⟨v, by show some (v, s + 1 + 1 + 1 + 1 + 1 + 1) = _; congr 2; omega, ?_⟩
 simp only [List.mem_cons, List.not_mem_nil, or_false] at hv
 omega
theorem drCut_ev {xs : List Int} (hx : rdOk xs) {s : Int} (hs : 0 ≤ s) (hs' : s ≤ 999999900) (a : ByteArray) (ha : a.size ≤ 100000) {k : Nat} (hk : 1 ≤ k) : ∃ v t, spec_l12Cut.f k xs s a = some (v, t) ∧ v.size ≤ a.size + 3 := by
 unfold spec_l12Cut.f
 obtain ⟨p, ep, p0, p1⟩ := pick_ev hx hs (by omega) (n := (a.size : Int) + 1) (by omega) hk
 obtain ⟨q, eq, q0, q1⟩ := pick_ev hx (s := s + 1) (n := 5) (by omega) (by omega) (by omega) hk
 rw [w64 (x := (a.size : Int) + 1) (by omega) (by omega), ep, Option.bind_some]
 dsimp only
 rw [eq, Option.bind_some]
 dsimp only
 have z1 : (a.extract 0 p.toNat).size = p.toNat := by rw [ByteArray.size_extract]; omega
 have z2 : (a.extract p.toNat a.size).size = a.size - p.toNat := by rw [ByteArray.size_extract]; omega
 by_cases h0 : q = 0
 ·rw [if_pos h0, if_pos p0, if_pos (by omega)]
  obtain ⟨v, ev, hv⟩ := rdof_ev hx (s := s + 1 + 1) (by omega) (by omega) [⟨#[48]⟩, ⟨#[46]⟩, ⟨#[47]⟩, ⟨#[32]⟩, ⟨#[49]⟩, ⟨#[50, 53, 54]⟩, ⟨#[10]⟩, ⟨#[45]⟩, ⟨#[120]⟩] (by simp) hk
  have hv3 : v.size ≤ 3 := by
   simp only [List.mem_cons, List.not_mem_nil, or_false] at hv
   rcases hv with h | h | h | h | h | h | h | h | h <;> (subst h; decide)
  rw [ev, Option.bind_some]
  dsimp only
  rw [if_pos (by omega), if_pos (by rw [ByteArray.size_append]; omega)]
  exact ⟨_, _, rfl, by rw [ByteArray.size_append, ByteArray.size_append]; omega⟩
 ·rw [if_neg h0]
  by_cases h1 : q = 1
  ·rw [if_pos h1, if_pos p0, if_pos (by omega)]
   exact ⟨_, _, rfl, by omega⟩
  ·rw [if_neg h1]
   exact ⟨_, _, rfl, by omega⟩
theorem open_ev {xs : List Int} (hx : ∀ y ∈ xs, 0 ≤ y ∧ y ≤ 255) : ∃ ys, spec_l1Open.f xs = some (ys, 0) ∧ rdOk ys := by
 unfold spec_l1Open.f
 by_cases h : (xs.length : Int) > 2000
 ·rw [if_pos h, if_pos (by omega)]
  exact ⟨_, rfl, fun y hy => hx y (List.mem_of_mem_take hy), by rw [List.length_take]; omega⟩
 ·rw [if_neg h]
  exact ⟨_, rfl, hx, by omega⟩
end Go.Proofs.Ytlchnflpapfpnaa.Pure
/- Filling up to whole pieces: the program's way and the reference's give the same text. Conditions: those in each statement. -/
namespace Go.Proofs.Ytlchnflpapfpnaa.Pure
set_option linter.unusedSimpArgs false
open Go.RowKit Go.Proofs.Ytlchnflpapfpnaa.Q Go.Proofs.YtlchnflpapfpnaaW.PrintWords Go.Proofs.YtlchnflpapfpnaaW.PrintLast Go.Proofs.YtlchnflpapfpnaaW.PrintMore
theorem fl_inj {a b : ByteArray} (h : a.data.toList = b.data.toList) : a = b := ByteArray.ext (Array.ext' h)
theorem fl_app (a b : ByteArray) : (a ++ b).data.toList = a.data.toList ++ b.data.toList := by rw [ByteArray.data_append, Array.toList_append]
theorem fl_len (s : ByteArray) : s.data.toList.length = s.size := by rw [data_length]
/-- Copies of a string. -/
def rep (x : ByteArray) (n : Nat) : ByteArray := ⟨(Lib.repeatL x.data.toList n).toArray⟩
theorem rep_list (x : ByteArray) (n : Nat) : (rep x n).data.toList = Lib.repeatL x.data.toList n := rfl
theorem repeatL_two (l : List UInt8) : ∀ m, Lib.repeatL (l ++ l) m = Lib.repeatL l (2 * m) := by
 intro m
 induction m with
 | zero => rfl
 | succ m ih =>
  rw [show 2 * (m + 1) = 2 * m + 1 + 1 by omega]
  show (l ++ l) ++ Lib.repeatL (l ++ l) m = l ++ (l ++ Lib.repeatL l (2 * m))
  rw [ih, List.append_assoc]
theorem rep_size (x : ByteArray) (n : Nat) : (rep x n).size = n * x.size := by
 rw [← fl_len, rep_list, Lib.repeatL_length, fl_len]
theorem many_ev : ∀ (N n : Nat), N ≤ 1000000 → n ≤ N → ∀ (x acc : ByteArray) (k : Nat), acc.size + x.size * n ≤ 1000000000 → N + 1 ≤ k → spec_l1Many.l0 k x (n : Int) acc = some (acc ++ rep x n) := by
 intro N
 induction N with
 | zero =>
  intro n hN hn x acc k hx hk
  obtain ⟨k, rfl⟩ : ∃ m, k = m + 1 := ⟨k - 1, by omega⟩
  obtain rfl : n = 0 := by omega
  simp only [spec_l1Many.l0]
  rw [if_neg (by omega)]
  congr 1
  apply fl_inj
  rw [fl_app, rep_list]
  show _ = _ ++ []
  rw [List.append_nil]
 | succ N ih =>
  intro n hN hn x acc k hx hk
  by_cases h0 : n = 0
  ·exact ih n (by omega) (by omega) x acc k hx (by omega)
  obtain ⟨k, rfl⟩ : ∃ m, k = m + 1 := ⟨k - 1, by omega⟩
  have hx1 : x.size ≤ x.size * n := Nat.le_mul_of_pos_right _ (by omega)
  have er : ∀ q, rep (x ++ x) q = rep x (2 * q) := by
   intro q
   apply fl_inj
   rw [rep_list, fl_app, repeatL_two, rep_list]
  have e2 : wrap64 (Int.tdiv (n : Int) 2) = ((n / 2 : Nat) : Int) := by
   rw [Int.tdiv_eq_ediv_of_nonneg (by omega), w64 (by omega) (by omega)]
   omega
  simp only [spec_l1Many.l0]
  rw [if_pos (by omega), Int.tmod_eq_emod_of_nonneg (show (0 : Int) ≤ (n : Int) by omega), e2]
  obtain ⟨q, hq⟩ : ∃ q, q = n / 2 := ⟨_, rfl⟩
  rw [← hq]
  have hs : (x ++ x).size * q = 2 * (x.size * q) := by rw [ByteArray.size_append, ← Nat.two_mul, Nat.mul_assoc]
  by_cases hodd : n % 2 = 1
  ·have hn2 : n = 2 * q + 1 := by omega
   have e : x.size * n = 2 * (x.size * q) + x.size := by rw [hn2, Nat.mul_add, Nat.mul_one, Nat.mul_left_comm]
   rw [if_pos (by omega), if_pos (by omega), if_pos (by omega), ih q (by omega) (by omega) (x ++ x) (acc ++ x) k (by rw [hs, ByteArray.size_append]; omega) (by omega), er]
   congr 1
   apply fl_inj
   rw [fl_app, fl_app, fl_app, rep_list, rep_list, hn2, List.append_assoc]
   rfl
  ·have hn2 : n = 2 * q := by omega
   have e : x.size * n = 2 * (x.size * q) := by rw [hn2, Nat.mul_left_comm]
   rw [if_neg (by omega), if_pos (by omega), ih q (by omega) (by omega) (x ++ x) acc k (by rw [hs]; omega) (by omega), er, ← hn2]
/-- The byte that is filled with, and how often. -/
def fill_n (s : ByteArray) : Int := 16 - (s.size : Int) % 16
theorem fill_n_range (s : ByteArray) : 1 ≤ fill_n s ∧ fill_n s ≤ 16 := by unfold fill_n; omega
/-- A text filled up to whole pieces. -/
def fill (s : ByteArray) : ByteArray := s ++ rep (strOfNums [fill_n s]) (fill_n s).toNat
theorem fill_size (s : ByteArray) : ((fill s).size : Int) = (s.size : Int) + fill_n s := by
 have := fill_n_range s
 unfold fill
 rw [ByteArray.size_append, rep_size, strOfNums_size]
 simp only [List.length_cons, List.length_nil]
 omega
theorem fl_by0 {a : Int} (h0 : 0 ≤ a) (h1 : a ≤ 255) : (shr .i64 a 0) % 256 = a := by
 unfold shr
 rw [show (2 : Int) ^ min (0 : Int).toNat IntKind.i64.bits = 1 from by decide, Int.ediv_one]
 omega
theorem fl_num {a : Int} (h0 : 0 ≤ a) (h1 : a ≤ 255) (k : Nat) : impl_numbered.f (k + 6) a 1 = some (strOfNums [a]) := by
 simp [impl_numbered.f, impl_numbered.l0, wrap64, List.replicate, fl_by0 h0 h1]
theorem fl_byt {a : Int} (h0 : 0 ≤ a) (h1 : a ≤ 255) (k : Nat) : spec_l8Bytes.f (k + 6) a 1 = some (strOfNums [a]) := by
 simp [spec_l8Bytes.f, spec_l8Bytes.l0, wrap64, fl_by0 h0 h1]
/-- A filled text taken back. -/
def unfill (s : ByteArray) : ByteArray × Bool :=
 if s.size = 0 then (⟨#[]⟩, false)
 else if (1 ≤ bt s ((s.size : Int) - 1) ∧ bt s ((s.size : Int) - 1) ≤ (s.size : Int)) ∧ (fill (s.extract 0 ((s.size : Int) - bt s ((s.size : Int) - 1)).toNat)).toList = s.toList then (s.extract 0 ((s.size : Int) - bt s ((s.size : Int) - 1)).toNat, true)
 else (⟨#[]⟩, false)
theorem toList_size {a b : ByteArray} (h : a.toList = b.toList) : a.size = b.size := by
 rw [ByteArray.toList_eq, ByteArray.toList_eq] at h
 rw [← fl_len, ← fl_len, h]
theorem toList_same {a b : ByteArray} (h : a.toList = b.toList) : a = b := by
 rw [ByteArray.toList_eq, ByteArray.toList_eq] at h
 exact fl_inj h
theorem toList_nil (a : ByteArray) : a.toList = [] ↔ a.size = 0 := by
 rw [ByteArray.toList_eq, ← fl_len]
 exact List.length_eq_zero_iff.symm
end Go.Proofs.Ytlchnflpapfpnaa.Pure
/- The reference's draws of packets. Conditions: those in each statement. -/
namespace Go.Proofs.Ytlchnflpapfpnaa.Pure
set_option linter.unusedSimpArgs false
open Go.RowKit Go.Proofs.Ytlchnflpapfpnaa.Q Go.Proofs.Ytlchnflpapfpnaa.Open Go.Proofs.YtlchnflpapfpnaaW.PrintWords Go.Proofs.YtlchnflpapfpnaaW.PrintLast Go.Proofs.YtlchnflpapfpnaaW.PrintMore
theorem drCall_ev {xs : List Int} (hx : rdOk xs) {s : Int} (hs : 0 ≤ s) (hs' : s ≤ 999999000) {k : Nat} (hk : 1 ≤ k) : ∃ a b c t, spec_l12Call.f k xs s = some (a, b, c, t) ∧ s ≤ t ∧ t ≤ s + 20 := by
 unfold spec_l12Call.f
 obtain ⟨a, ea, _⟩ := drAddr_ev hx hs (by omega) hk
 obtain ⟨b, eb, _⟩ := drAddr_ev hx (s := s + 6) (by omega) (by omega) hk
 obtain ⟨p, ep, p0, p1⟩ := pick_ev hx (s := s + 6 + 6) (n := 256) (by omega) (by omega) (by omega) hk
 obtain ⟨c, ec, _⟩ := one_ev hx (s := s + 6 + 6 + 1) (by omega) (by omega) [0, 80, 81, 100, 443, 65535, p] (by simp) hk
 rw [ea, Option.bind_some]
 dsimp only
 rw [eb, Option.bind_some]
 dsimp only
 rw [ep, Option.bind_some]
 dsimp only
 rw [ec, Option.bind_some]
 exact ⟨_, _, _, _, rfl, by omega, by omega⟩
theorem drAnyAddr_ev {xs : List Int} (hx : rdOk xs) {s : Int} (hs : 0 ≤ s) (hs' : s ≤ 999999000) {k : Nat} (hk : 1 ≤ k) : ∃ a t, spec_l12AnyAddr.f k xs s = some (a, t) ∧ s ≤ t ∧ t ≤ s + 20 := by
 unfold spec_l12AnyAddr.f
 obtain ⟨p, ep, p0, p1⟩ := pick_ev hx hs (by omega) (n := 16) (by omega) hk
 rw [ep, Option.bind_some]
 dsimp only
 by_cases h : p = 0
 ·obtain ⟨c, ec, _⟩ := one_ev hx (s := s + 1) (by omega) (by omega) [-1, 4294967296, 1099511627776] (by simp) hk
  rw [if_pos h, ec, Option.bind_some]
  exact ⟨_, _, rfl, by omega, by omega⟩
 ·obtain ⟨c, ec, _⟩ := drAddr_ev hx (s := s + 1) (by omega) (by omega) hk
  rw [if_neg h, ec, Option.bind_some]
  exact ⟨_, _, rfl, by omega, by omega⟩
theorem many_one (b : UInt8) {n : Int} (h0 : 0 ≤ n) (h1 : n ≤ 100) {k : Nat} (hk : 200 ≤ k) : ∃ v, spec_l1Many.f k ⟨#[b]⟩ n = some v ∧ (v.size : Int) = n := by
 have := many_ev 100 n.toNat (by omega) (by omega) ⟨#[b]⟩ ⟨#[]⟩ k (by show 0 + 1 * n.toNat ≤ 1000000000; omega) (by omega)
 rw [show ((n.toNat : Nat) : Int) = n by omega] at this
 unfold spec_l1Many.f
 refine ⟨_, this, ?_⟩
 rw [ByteArray.size_append, rep_size]
 show ((0 + n.toNat * 1 : Nat) : Int) = n
 omega
theorem drPacket_ev {xs : List Int} (hx : rdOk xs) {s : Int} (hs : 0 ≤ s) (hs' : s ≤ 999998000) {k : Nat} (hk : 200 ≤ k) : ∃ a b c v t, spec_l12Packet.f k xs s = some (a, b, c, v, t) ∧ s ≤ t ∧ t ≤ s + 30 ∧ v.size ≤ 40 := by
 unfold spec_l12Packet.f
 obtain ⟨a, b, c, t, ec, t0, t1⟩ := drCall_ev hx hs (by omega) (show 1 ≤ k by omega)
 obtain ⟨m, em, hm⟩ := many_one 120 (n := 40) (by omega) (by omega) hk
 rw [ec, Option.bind_some]
 dsimp only
 rw [em, Option.bind_some]
 obtain ⟨v, ev, hv⟩ := rdof_ev hx (s := t) (by omega) (by omega) [⟨#[]⟩, ⟨#[97]⟩, ⟨#[104, 101, 108, 108, 111]⟩, ⟨#[115, 105, 120, 116, 101, 101, 110, 32, 98, 121, 116, 101, 115, 46, 46, 46]⟩, m] (by simp) (show 1 ≤ k by omega)
 rw [ev, Option.bind_some]
 refine ⟨_, _, _, _, _, rfl, by dsimp only; omega, by dsimp only; omega, ?_⟩
 show v.size ≤ 40
 simp only [List.mem_cons, List.not_mem_nil, or_false] at hv
 rcases hv with h | h | h | h | h
 ·subst h; decide
 ·subst h; decide
 ·subst h; decide
 ·subst h; decide
 ·subst h; omega
theorem drAnyPacket_ev {xs : List Int} (hx : rdOk xs) {s : Int} (hs : 0 ≤ s) (hs' : s ≤ 999990000) {k : Nat} (hk : 200 ≤ k) : ∃ a b c v t, spec_l12AnyPacket.f k xs s = some (a, b, c, v, t) ∧ v.size ≤ 50 := by
 unfold spec_l12AnyPacket.f
 obtain ⟨a, b, c, v, t, ep, t0, t1, hv⟩ := drPacket_ev hx hs (by omega) hk
 obtain ⟨q, eq, q0, q1⟩ := pick_ev hx (s := t) (n := 16) (by omega) (by omega) (by omega) (show 1 ≤ k by omega)
 rw [ep, Option.bind_some]
 dsimp only
 rw [eq, Option.bind_some]
 dsimp only
 by_cases h0 : q = 0
 ·obtain ⟨y, u, ey, _⟩ := drAnyAddr_ev hx (s := t + 1) (by omega) (by omega) (show 1 ≤ k by omega)
  rw [if_pos h0, ey, Option.bind_some]
  exact ⟨_, _, _, _, _, rfl, by omega⟩
 rw [if_neg h0]
 by_cases h1 : q = 1
 ·obtain ⟨y, ey, _⟩ := one_ev hx (s := t + 1) (by omega) (by omega) [-1, 65536] (by simp) (show 1 ≤ k by omega)
  rw [if_pos h1, ey, Option.bind_some]
  exact ⟨_, _, _, _, _, rfl, by omega⟩
 rw [if_neg h1]
 by_cases h2 : q = 2
 ·obtain ⟨y, ey, y0, y1⟩ := pick_ev hx (s := t + 1) (n := 2) (by omega) (by omega) (by omega) (show 1 ≤ k by omega)
  rw [if_pos h2, ey, Option.bind_some]
  dsimp only
  rw [w64 (by omega) (by omega)]
  obtain ⟨m, em, hm⟩ := many_one 121 (n := 40 + y) (by omega) (by omega) hk
  rw [em, Option.bind_some]
  exact ⟨_, _, _, _, _, rfl, by omega⟩
 rw [if_neg h2]
 exact ⟨_, _, _, _, _, rfl, by omega⟩
theorem pput_size (a b c : Int) (s : ByteArray) : (pput a b c s).size = 11 + s.size := by
 unfold pput
 simp only [ByteArray.size_append, strOfNums_size, List.length_cons, List.length_nil]
theorem l8put_ev (a b c : Int) {s : ByteArray} (hs : s.size ≤ 1000) {k : Nat} (hk : 6 ≤ k) : spec_l8Put.f k a b c s = some (pput a b c s) := by
 obtain ⟨k, rfl⟩ : ∃ m, k = m + 6 := ⟨k - 6, by omega⟩
 unfold spec_l8Put.f
 simp only [Option.bind_some, byt4, byt2, byt1]
 simp only [ByteArray.size_append, strOfNums_size, List.length_cons, List.length_nil]
 simp only [Nat.reduceAdd, Nat.reduceLeDiff, if_true]
 rw [if_pos (by omega)]
 rfl
end Go.Proofs.Ytlchnflpapfpnaa.Pure
/- The pure law behind FnPacketText: packets that are put come back, and what is read is what was put. No condition beyond the ranges of the lengths. -/
namespace Go.Proofs.Ytlchnflpapfpnaa.Pure
set_option linter.unusedSimpArgs false
open Go.RowKit Go.Proofs.Ytlchnflpapfpnaa.Q Go.Proofs.Ytlchnflpapfpnaa.Open Go.Proofs.YtlchnflpapfpnaaW.PrintWords Go.Proofs.YtlchnflpapfpnaaW.PrintLast Go.Proofs.YtlchnflpapfpnaaW.PrintMore
theorem by_byte (a n : Int) : 0 ≤ by_ a n ∧ by_ a n ≤ 255 := by
 unfold by_
 omega
theorem nums_list (l : List Int) (h : ∀ y ∈ l, 0 ≤ y ∧ y ≤ 255) (i : Nat) : bt (strOfNums l) (i : Int) = l.getD i 0 := by
 rw [← bt_get, bytesOf_strOfNums l h]
theorem num_four {a : Int} (h0 : 0 ≤ a) (h1 : a ≤ 4294967295) : impl_numberOf.g (strOfNums [by_ a 24, by_ a 16, by_ a 8, by_ a 0]).data.toList = a := by
 have hb : ∀ y ∈ [by_ a 24, by_ a 16, by_ a 8, by_ a 0], 0 ≤ y ∧ y ≤ 255 := by
  intro y hy
  simp only [List.mem_cons, List.not_mem_nil, or_false] at hy
  rcases hy with h | h | h | h <;> (subst h; exact by_byte _ _)
 rw [g4 (by rw [strOfNums_size]; rfl)]
 have e0 := nums_list _ hb 0
 have e1 := nums_list _ hb 1
 have e2 := nums_list _ hb 2
 have e3 := nums_list _ hb 3
 rw [show ((0 : Nat) : Int) = 0 from rfl] at e0
 rw [show ((1 : Nat) : Int) = 1 from rfl] at e1
 rw [show ((2 : Nat) : Int) = 2 from rfl] at e2
 rw [show ((3 : Nat) : Int) = 3 from rfl] at e3
 rw [e0, e1, e2, e3]
 show by_ a 24 * 16777216 + by_ a 16 * 65536 + by_ a 8 * 256 + by_ a 0 = a
 rw [by24, by16, by8, by0]
 omega
theorem num_two {a : Int} (h0 : 0 ≤ a) (h1 : a ≤ 65535) : impl_numberOf.g (strOfNums [by_ a 8, by_ a 0]).data.toList = a := by
 have hb : ∀ y ∈ [by_ a 8, by_ a 0], 0 ≤ y ∧ y ≤ 255 := by
  intro y hy
  simp only [List.mem_cons, List.not_mem_nil, or_false] at hy
  rcases hy with h | h <;> (subst h; exact by_byte _ _)
 rw [g2 (by rw [strOfNums_size]; rfl)]
 have e0 := nums_list _ hb 0
 have e1 := nums_list _ hb 1
 rw [show ((0 : Nat) : Int) = 0 from rfl] at e0
 rw [show ((1 : Nat) : Int) = 1 from rfl] at e1
 rw [e0, e1]
 show by_ a 8 * 256 + by_ a 0 = a
 rw [by8, by0]
 omega
theorem num_one {a : Int} (h0 : 0 ≤ a) (h1 : a ≤ 255) : impl_numberOf.g (strOfNums [by_ a 0]).data.toList = a := by
 have hb : ∀ y ∈ [by_ a 0], 0 ≤ y ∧ y ≤ 255 := by
  intro y hy
  rw [List.mem_singleton] at hy
  subst hy
  exact by_byte _ _
 rw [g1 (by rw [strOfNums_size]; rfl)]
 have e0 := nums_list _ hb 0
 rw [show ((0 : Nat) : Int) = 0 from rfl] at e0
 rw [e0]
 show by_ a 0 = a
 rw [by0]
 omega
theorem cut_at (p x r : ByteArray) : (p ++ x ++ r).extract p.size (p.size + x.size) = x := by
 apply bytesOf_inj
 rw [bytesOf_cut, bytesOf_append, bytesOf_append, List.append_assoc]
 have h1 := bytesOf_length p
 have h2 := bytesOf_length x
 rw [← h1, ← h2, List.take_length_add_append, List.drop_left, List.take_left]
theorem cut_first (x r : ByteArray) : (x ++ r).extract 0 x.size = x := by
 apply bytesOf_inj
 rw [bytesOf_cut, bytesOf_append, List.drop_zero, ← bytesOf_length x, List.take_left]
theorem cut_last (p x : ByteArray) : (p ++ x).extract p.size (p ++ x).size = x := by
 apply bytesOf_inj
 rw [bytesOf_cut, ← bytesOf_length (p ++ x), List.take_length, bytesOf_append, ← bytesOf_length p, List.drop_left]
theorem ba_assoc (a b c : ByteArray) : a ++ b ++ c = a ++ (b ++ c) := by
 apply bytesOf_inj
 simp only [bytesOf_append, List.append_assoc]
theorem put_got {a b c : Int} {s : ByteArray} (h : pok a b c s = true) : pgot (pput a b c s) = some (a, b, c, s, true) := by
 have hz := pput_size a b c s
 unfold pok at h
 simp only [Bool.and_eq_true, decide_eq_true_eq] at h
 obtain ⟨⟨a0, a1⟩, ⟨b0, b1⟩, ⟨c0, c1⟩, s1⟩ := h
 obtain ⟨A, hA⟩ : ∃ A, A = strOfNums [by_ a 24, by_ a 16, by_ a 8, by_ a 0] := ⟨_, rfl⟩
 obtain ⟨B, hB⟩ : ∃ B, B = strOfNums [by_ b 24, by_ b 16, by_ b 8, by_ b 0] := ⟨_, rfl⟩
 obtain ⟨C, hC⟩ : ∃ C, C = strOfNums [by_ c 8, by_ c 0] := ⟨_, rfl⟩
 obtain ⟨D, hD⟩ : ∃ D, D = strOfNums [by_ s.size 0] := ⟨_, rfl⟩
 have zA : A.size = 4 := by rw [hA, strOfNums_size]; rfl
 have zB : B.size = 4 := by rw [hB, strOfNums_size]; rfl
 have zC : C.size = 2 := by rw [hC, strOfNums_size]; rfl
 have zD : D.size = 1 := by rw [hD, strOfNums_size]; rfl
 have e : pput a b c s = A ++ B ++ C ++ D ++ s := by rw [hA, hB, hC, hD]; rfl
 have x1 : (pput a b c s).extract 0 4 = A := by
  rw [e, ba_assoc, ba_assoc, ba_assoc, ← zA]
  exact cut_first A _
 have x2 : (pput a b c s).extract 4 8 = B := by
  have := cut_at A B (C ++ D ++ s)
  rw [zA, zB] at this
  rw [e, show A ++ B ++ C ++ D ++ s = A ++ B ++ (C ++ D ++ s) by simp only [ba_assoc]]
  exact this
 have x3 : (pput a b c s).extract 8 10 = C := by
  have := cut_at (A ++ B) C (D ++ s)
  rw [ByteArray.size_append, zA, zB, zC] at this
  rw [e, show A ++ B ++ C ++ D ++ s = A ++ B ++ C ++ (D ++ s) by simp only [ba_assoc]]
  exact this
 have x4 : (pput a b c s).extract 10 11 = D := by
  have := cut_at (A ++ B ++ C) D s
  rw [ByteArray.size_append, ByteArray.size_append, zA, zB, zC, zD] at this
  rw [e]
  exact this
 have x5 : (pput a b c s).extract 11 (pput a b c s).size = s := by
  have := cut_last (A ++ B ++ C ++ D) s
  rw [show (A ++ B ++ C ++ D).size = 11 by simp only [ByteArray.size_append, zA, zB, zC, zD]] at this
  rw [e]
  exact this
 have n1 := num_four a0 a1
 have n2 := num_four b0 b1
 have n3 := num_two c0 c1
 have n4 := num_one (a := (s.size : Int)) (by omega) (by omega)
 rw [← hA] at n1
 rw [← hB] at n2
 rw [← hC] at n3
 rw [← hD] at n4
 unfold pgot
 rw [x1, x2, x3, x4, x5, n1, n2, n3, n4, if_pos ⟨by omega, by omega, by omega⟩]
theorem got_none : pgot ⟨#[]⟩ = some (0, 0, 0, ⟨#[]⟩, false) := by
 unfold pgot
 rw [if_neg (fun h => absurd h.1 (by decide))]
theorem got_cases (s : ByteArray) : (∃ a b c v, pgot s = some (a, b, c, v, true) ∧ pok a b c v = true ∧ (pput a b c v).toList = s.toList) ∨ pgot s = some (0, 0, 0, ⟨#[]⟩, false) := by
 unfold pgot
 split
 ·next h =>
  obtain ⟨p, q⟩ := put_back s h.1 h.2.1
  exact Or.inl ⟨_, _, _, _, rfl, p, q.2 h.2.2⟩
 ·exact Or.inr rfl
theorem FnPacketText_j1 {ys : List Int} (hy : ∀ y ∈ ys, 0 ≤ y ∧ y ≤ 255) {k : Nat} (hk : 400 ≤ k) : laws_FnPacketText.j1 k ys false = some true := by
 obtain ⟨k, rfl⟩ : ∃ m, k = m + 1 := ⟨k - 1, by omega⟩
 obtain ⟨zs, eo, ho⟩ := open_ev hy
 obtain ⟨a, b, c, v, t, ep, t0, t1, hv⟩ := drPacket_ev ho (s := 0) (by omega) (by omega) (show 200 ≤ k by omega)
 have hz := pput_size a b c v
 obtain ⟨s, u, es, hs⟩ := drCut_ev ho (s := t) (by omega) (by omega) (pput a b c v) (by omega) (show 1 ≤ k by omega)
 have e : spec_DrawPacketGet.f k ys = some s := by
  unfold spec_DrawPacketGet.f
  rw [eo, Option.bind_some]
  dsimp only
  rw [ep, Option.bind_some]
  dsimp only
  rw [l8put_ev a b c (by omega) (by omega), Option.bind_some, es, Option.bind_some]
 simp only [laws_FnPacketText.j1]
 rw [if_neg (by simp), e, Option.bind_some, get_impl s (by omega) (by omega), get_spec s (by omega) (by omega)]
 rcases got_cases s with ⟨a', b', c', v', g, gp, gq⟩ | g
 ·rw [g, Option.bind_some, Option.bind_some, if_pos (by simp), if_pos (by simp)]
  dsimp only
  rw [if_pos rfl, put_impl _ _ _ _ _ (by omega), if_pos gp, Option.bind_some, gq]
  simp
 ·rw [g, Option.bind_some, Option.bind_some, if_pos (by simp), if_pos (by simp)]
  dsimp only
  rw [if_neg (by simp)]
theorem FnPacketText_j0 {xs ys : List Int} (hx : ∀ y ∈ xs, 0 ≤ y ∧ y ≤ 255) (hy : ∀ y ∈ ys, 0 ≤ y ∧ y ≤ 255) {k : Nat} (hk : 500 ≤ k) (b : Bool) : laws_FnPacketText.j0 k xs ys b = some true := by
 obtain ⟨k, rfl⟩ : ∃ m, k = m + 1 := ⟨k - 1, by omega⟩
 simp only [laws_FnPacketText.j0]
 cases b with
 | true => simp
 | false =>
  obtain ⟨zs, eo, ho⟩ := open_ev hx
  obtain ⟨a, b, c, v, t, ep, hv⟩ := drAnyPacket_ev ho (s := 0) (by omega) (by omega) (show 200 ≤ k by omega)
  have hz := pput_size a b c v
  have e : spec_DrawPacketPut.f k xs = some (a, b, c, v) := by
   unfold spec_DrawPacketPut.f
   rw [eo, Option.bind_some]
   dsimp only
   rw [ep, Option.bind_some]
  rw [if_neg (show ¬ (false = true) by simp), e, Option.bind_some]
  dsimp only
  rw [put_impl a b c v k (by omega), Option.bind_some, put_spec a b c v k (by omega), pok_impl, pok_spec]
  by_cases hp : pok a b c v = true
  ·rw [if_pos hp, get_impl _ (by omega) (by omega), put_got hp, hp, Option.bind_some, Option.bind_some, if_pos rfl, Option.bind_some, Option.bind_some, if_neg (by simp), Option.bind_some]
   dsimp only
   rw [if_neg (by simp), if_pos rfl, if_neg (by simp), hz, show (((11 + v.size : Nat) : Int) != wrap64 (11 + (v.size : Int))) = false by rw [w64 (by omega) (by omega)]; simp]
   exact FnPacketText_j1 hy (by omega)
  ·have hp' : pok a b c v = false := by simpa using hp
   rw [if_neg hp, get_impl _ (by decide) (by omega), got_none, hp', Option.bind_some, Option.bind_some, if_pos rfl, Option.bind_some, Option.bind_some, if_neg (by simp), Option.bind_some]
   dsimp only
   rw [if_neg (by simp), if_neg (by simp)]
   exact FnPacketText_j1 hy (by omega)
theorem FnPacketText : laws_FnPacketText.Pure := by
 intro xs ys ⟨_, hf⟩ ⟨_, hg⟩
 refine ⟨1000, ?_⟩
 unfold laws_FnPacketText.f
 by_cases h : (xs.length : Int) > 1048576
 ·rw [if_pos h]
  exact FnPacketText_j0 (fun y hy => fits_u8 (hf y hy)) (fun y hy => fits_u8 (hg y hy)) (by omega) _
 ·rw [if_neg h]
  exact FnPacketText_j0 (fun y hy => fits_u8 (hf y hy)) (fun y hy => fits_u8 (hg y hy)) (by omega) _
end Go.Proofs.Ytlchnflpapfpnaa.Pure
/- The law FnPacketText answers true for every input, and its arguments read afterwards as before. No condition beyond the row's own. -/
namespace Go.Proofs.Ytlchnflpapfpnaa.fnPacketText
open Go.ChangeShapes Go.WideShapes Go.ChangeAt Go.RowKit Go.Proofs.YtlchnflpapfpnaaW.PrintWords Go.Proofs.Ytlchnflpapfpnaa.Open Go.Proofs.Ytlchnflpapfpnaa.Q
open Go.ChangeMaps (open_string shut_string)
set_option linter.unusedVariables false
theorem own : ownKnob Try.prog.godebug = none := by kernel_rfl
theorem laidOut : laidOutB Try.prog = true := by kernel_rfl
set_option maxRecDepth 100000 in
theorem lifted (os : Os) (started : os.Started) (H : Type) (enc : TypeId × Value → H) :
  ReturnsInHanded {} Try.checked os 7 .any (Rows.fnPacketTextSpec.pre6 enc Try.prog Try.f7 Rows.fnPacketTextRow.domain false) (Rows.fnPacketTextSpec.post enc Try.prog Try.f7 false true false false) := by
 refine returnsInHanded_of_change_sized (C := Try.checked) own started (by kernel_rfl) Try.func7
  (ChangeSpec.witness6 (enc := enc) (C := Try.checked) false ⟨#[], #[.slice none 0 0, .slice none 0 0], []⟩ 8 (by kernel_rfl) (by kernel_rfl) (by kernel_rfl) (by kernel_rfl)) ?_
 intro W base args ds gs before hval0 hW hcnd hsz0 _
 have hval : ∀ (j : Nat) t v, Try.f7.params[j]? = some t → args[j]? = some v → Value.okWide Try.prog W .any base t v := hval0
 have hW' := hW
 obtain ⟨p, q, hA0, hV, rfl, hfz, hnd⟩ := hW
 have hA : DataW.TrodAll enc Try.prog W 0 (fun _ => true) true Try.f7.params.toList args.toList ds p := hA0
 rw [Try.params7] at hA hval
 obtain ⟨v0, vs0, d0, ds0, p0, q0, hargs, rfl, rfl, h0, r0⟩ := trodAll_cons hA
 obtain ⟨v1, vs1, d1, ds1, p1, q1, rfl, rfl, rfl, h1, r1⟩ := trodAll_cons r0
 obtain ⟨rfl, rfl, rfl⟩ := trodAll_nil r1
 obtain rfl : args = #[v0, v1] := by cases args; simp_all
 obtain ⟨rfl, rfl⟩ := trodVars_none hV
 have lt0 : ∀ x ∈ p0, x.block < W.heap.size := by obtain ⟨m, hm⟩ := h0; exact DataW.trod_lt m _ _ _ hm
 have k0 := h0
 obtain ⟨x0, K0, w0⟩ := open_arg (op51 W) h0
 obtain ⟨aa0, len0, cap0, rfl⟩ := okWide_slice Try.underlying51 (hval 0 51 v0 rfl rfl)
 obtain ⟨A0, c0, e0, hc0, hr0⟩ := K0
 obtain ⟨rfl, rfl, rfl⟩ := slice_of_cells e0
 have lt1 : ∀ x ∈ p1, x.block < W.heap.size := by obtain ⟨m, hm⟩ := h1; exact DataW.trod_lt m _ _ _ hm
 have k1 := h1
 obtain ⟨x1, K1, w1⟩ := open_arg (op51 W) h1
 obtain ⟨aa1, len1, cap1, rfl⟩ := okWide_slice Try.underlying51 (hval 1 51 v1 rfl rfl)
 obtain ⟨A1, c1, e1, hc1, hr1⟩ := K1
 obtain ⟨rfl, rfl, rfl⟩ := slice_of_cells e1
 obtain ⟨k, hp⟩ := Pure.FnPacketText x0 x1 w0 w1
 refine (laws_FnPacketText.calls k _ _ x0 _ _ x1 true W hr0 hc0 hr1 hc1 hp).mono ?_
 rintro e W' ⟨rfl, bel0⟩
 have bel : Below W.heap.size W W' := bel0
 exact ⟨_, rfl, _, _, _, [], _, [], hW', trodAll_mk1 (shut_bool Try.underlying4 _), (trodAll_cons_mk (Below.trod laidOut (by kernel_rfl) (of_decide_eq_true (by kernel_rfl)) k0 bel lt0) (trodAll_cons_mk (Below.trod laidOut (by kernel_rfl) (of_decide_eq_true (by kernel_rfl)) k1 bel lt1) trodAll_mk0)), rfl, bel.frame _, fun h => by cases h⟩
theorem over : Rows.fnPacketTextRow.holds Try.pinned (OpenSpec.ofChange Rows.fnPacketTextSpec) :=
 OpenClaim.holds_of_wide 7 Try.f7 rfl rfl rfl rfl rfl rfl rfl ⟨rfl, rfl, rfl, rfl, rfl⟩ rfl rfl rfl rfl rfl (by kernel_rfl) Try.func7 (by kernel_rfl)
  (of_decide_eq_true (by kernel_rfl)) (by unfold Func.isWrapper; first | (rw [if_pos (by decide +kernel)]; kernel_rfl) | (rw [if_neg (by decide +kernel)]; exact ⟨rfl, rfl⟩))
  (fun os started H enc _ => lifted os started H enc)
theorem proved : Rows.FnPacketTextSaid := over
#print axioms proved
end Go.Proofs.Ytlchnflpapfpnaa.fnPacketText
namespace Go.Proofs.Ytlchnflpapfpnaa
/-- The row, under a short name, for the claim. -/
theorem fnPacketText_holds : Rows.FnPacketTextSaid := fnPacketText.proved
end Go.Proofs.Ytlchnflpapfpnaa