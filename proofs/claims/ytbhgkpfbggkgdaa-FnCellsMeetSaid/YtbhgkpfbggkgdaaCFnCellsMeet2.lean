/- The law FnCellsMeet (part 2 of 7): for every input the call answers true and its arguments read afterwards as before. No condition beyond the row's own. -/
import Derived.Test.YtbhgkpfbggkgdaaProg
import Derived.Below
import Derived.Deep.Draws
import Derived.Deep.AppendLies
import Derived.Maps.AppendAt
import Derived.OwnWalk
import Derived.Laws.BytesArg
import Derived.Laws.MakeOwn
import Derived.Laws.OwnMore
import Derived.Deep.OwnRows
import Derived.Tactics
import Derived.Lib.ConvBytes
import Derived.Laws.Slices
import Derived.WalkKit
import Derived.KernelRfl
import Derived.RowKit3
import Derived.Deep.LoopGhost
import Derived.Deep.QuietTactic
import Derived.BigQuiet
import Derived.WideLaws
import Derived.Deep.DeepCutAuto
import Derived.Deep.CutBlock
import Derived.Deep.RegionHeld3
import Derived.Laws.Rows
import Derived.Lib.AppendStr
import Derived.ArgAppend
import Derived.Laws.IdiomCopy
import Derived.OrdersHeld
import Derived.Laws.BitsLemmas
import Derived.RowKit
import Derived.Test.YtbhgkpfbggkgdaaCFnCellsMeet1
namespace Go.Proofs.Ytbhgkpfbggkgdaa.Q
open Go.RowKit Go.Proofs.YtbhgkpfbggkgdaaW.PrintWords Go.Proofs.YtbhgkpfbggkgdaaW.PrintLast Go.Proofs.YtbhgkpfbggkgdaaW.PrintMore
attribute [local go_sem] e8z e6z f5z f4z e1z e0z e7z e5z
set_option linter.unusedVariables false
set_option linter.unusedSimpArgs false
def errW : Option Int → Value
 | none => .nilIface
 | some c => .iface 0 (.int .i64 c)
theorem c2z : errW none = .nilIface := rfl
theorem c1z (c : Int) : errW (some c) = .iface 0 (.int .i64 c) := rfl
theorem info3 : (Try.prog.info? 3).map (fun i => (i.zero, i.size, i.bytes)) = some (some (.int .i64 0), 1, 8) := by kernel_rfl
theorem info5 : (Try.prog.info? 5).map (fun i => (i.zero, i.size, i.bytes)) = some (some (.int .u8 0), 1, 1) := by kernel_rfl
theorem info67 : (Try.prog.info? 67).map (fun i => (i.zero, i.size, i.bytes)) = some (some (.agg #[(.int .i64 0), (.int .i64 0), (.int .i64 0), (.int .i64 0), (.int .i64 0), (.int .i64 0), (.int .i64 0)]), 7, 56) := by kernel_rfl
theorem info109 : (Try.prog.info? 109).map (fun i => (i.zero, i.size, i.bytes)) = some (some (.agg #[(.int .i64 0), (.int .i64 0), (.int .i64 0), (.int .i64 0), (.int .i64 0), (.int .i64 0), (.int .i64 0), (.int .i64 0)]), 8, 64) := by kernel_rfl
-- the values' own types
structure S67 where
 f0 : Int
 f1 : Int
 f2 : Int
 f3 : Int
 f4 : Int
 f5 : Int
 f6 : Int
def z67 : S67 := ⟨(0 : Int), (0 : Int), (0 : Int), (0 : Int), (0 : Int), (0 : Int), (0 : Int)⟩
def k67 : Kd S67 := Kd.iso (Kd.pair (Kd.int .i64) (Kd.pair (Kd.int .i64) (Kd.pair (Kd.int .i64) (Kd.pair (Kd.int .i64) (Kd.pair (Kd.int .i64) (Kd.pair (Kd.int .i64) (Kd.int .i64))))))) (fun x : S67 => (x.f0, x.f1, x.f2, x.f3, x.f4, x.f5, x.f6))
theorem k67_open {w : World} {x : S67} {cs : List Value} (h : k67.K w x cs) : cs = [.int .i64 x.f0, .int .i64 x.f1, .int .i64 x.f2, .int .i64 x.f3, .int .i64 x.f4, .int .i64 x.f5, .int .i64 x.f6] := by
 obtain ⟨_, _, rfl, rfl, ⟨_, _, rfl, rfl, ⟨_, _, rfl, rfl, ⟨_, _, rfl, rfl, ⟨_, _, rfl, rfl, ⟨_, _, rfl, rfl, rfl⟩⟩⟩⟩⟩⟩ := h
 exact rfl
theorem h3z {w : World} {base : Nat} {ok : Nat → Prop} {x : S67} {cs : List Value} (h : k67.M w base ok x cs) : cs = [.int .i64 x.f0, .int .i64 x.f1, .int .i64 x.f2, .int .i64 x.f3, .int .i64 x.f4, .int .i64 x.f5, .int .i64 x.f6] := by
 obtain ⟨_, _, rfl, rfl, ⟨_, _, rfl, rfl, ⟨_, _, rfl, rfl, ⟨_, _, rfl, rfl, ⟨_, _, rfl, rfl, ⟨_, _, rfl, rfl, rfl⟩⟩⟩⟩⟩⟩ := h
 exact rfl
theorem g2z (w : World) (base : Nat) (ok : Nat → Prop) (x : S67)  : k67.M w base ok x [.int .i64 x.f0, .int .i64 x.f1, .int .i64 x.f2, .int .i64 x.f3, .int .i64 x.f4, .int .i64 x.f5, .int .i64 x.f6] := ⟨[.int .i64 x.f0], [.int .i64 x.f1, .int .i64 x.f2, .int .i64 x.f3, .int .i64 x.f4, .int .i64 x.f5, .int .i64 x.f6], rfl, rfl, ⟨[.int .i64 x.f1], [.int .i64 x.f2, .int .i64 x.f3, .int .i64 x.f4, .int .i64 x.f5, .int .i64 x.f6], rfl, rfl, ⟨[.int .i64 x.f2], [.int .i64 x.f3, .int .i64 x.f4, .int .i64 x.f5, .int .i64 x.f6], rfl, rfl, ⟨[.int .i64 x.f3], [.int .i64 x.f4, .int .i64 x.f5, .int .i64 x.f6], rfl, rfl, ⟨[.int .i64 x.f4], [.int .i64 x.f5, .int .i64 x.f6], rfl, rfl, ⟨[.int .i64 x.f5], [.int .i64 x.f6], rfl, rfl, rfl⟩⟩⟩⟩⟩⟩
def b6z (xs : List S67) (i : Int) : S67 := xs.getD i.toNat z67
theorem f3z {w : World} {A : Option Addr} {n : Nat} {xs : List S67} (h : Kd.C k67 w A n xs) (i : Int) (h0 : 0 ≤ i) (h1 : i < n) : ∃ ad , A = some ad ∧ w.cell? (ad.add (i.toNat * 7)) = some (.int .i64 (b6z xs i).f0) ∧ w.cell? ⟨(ad.add (i.toNat * 7)).block, (ad.add (i.toNat * 7)).off + 1, none⟩ = some (.int .i64 (b6z xs i).f1) ∧ w.cell? ⟨(ad.add (i.toNat * 7)).block, (ad.add (i.toNat * 7)).off + 2, none⟩ = some (.int .i64 (b6z xs i).f2) ∧ w.cell? ⟨(ad.add (i.toNat * 7)).block, (ad.add (i.toNat * 7)).off + 3, none⟩ = some (.int .i64 (b6z xs i).f3) ∧ w.cell? ⟨(ad.add (i.toNat * 7)).block, (ad.add (i.toNat * 7)).off + 4, none⟩ = some (.int .i64 (b6z xs i).f4) ∧ w.cell? ⟨(ad.add (i.toNat * 7)).block, (ad.add (i.toNat * 7)).off + 5, none⟩ = some (.int .i64 (b6z xs i).f5) ∧ w.cell? ⟨(ad.add (i.toNat * 7)).block, (ad.add (i.toNat * 7)).off + 6, none⟩ = some (.int .i64 (b6z xs i).f6) := by
 obtain ⟨ad, c, e, _, hK, hc0⟩ := Kd.C_get h z67 i h0 h1
 have hc : ∀ j u, c[j]? = some u → w.cell? (ad.add (i.toNat * 7 + j)) = some u := hc0
 obtain rfl := k67_open hK
 exact ⟨ad, e, hc 0 _ rfl, by rw [← g6z _ _ 1 (by omega)]; exact hc 1 _ rfl, by rw [← g6z _ _ 2 (by omega)]; exact hc 2 _ rfl, by rw [← g6z _ _ 3 (by omega)]; exact hc 3 _ rfl, by rw [← g6z _ _ 4 (by omega)]; exact hc 4 _ rfl, by rw [← g6z _ _ 5 (by omega)]; exact hc 5 _ rfl, by rw [← g6z _ _ 6 (by omega)]; exact hc 6 _ rfl⟩
structure S24 where
 f0 : Int
 f1 : Int
def z24 : S24 := ⟨(0 : Int), (0 : Int)⟩
def k24 : Kd S24 := Kd.iso (Kd.pair (Kd.int .i64) (Kd.int .i64)) (fun x : S24 => (x.f0, x.f1))
theorem k24_heap : Kd.Heap k24 := Kd.heap_iso _ (Kd.heap_pair (Kd.heap_int .i64) (Kd.heap_int .i64))
theorem k24_open {w : World} {x : S24} {cs : List Value} (h : k24.K w x cs) : cs = [.int .i64 x.f0, .int .i64 x.f1] := by
 obtain ⟨_, _, rfl, rfl, rfl⟩ := h
 exact rfl
theorem k24_mkM (w : World) (base : Nat) (ok : Nat → Prop) (x : S24)  : k24.M w base ok x [.int .i64 x.f0, .int .i64 x.f1] := ⟨[.int .i64 x.f0], [.int .i64 x.f1], rfl, rfl, rfl⟩
structure S109 where
 f0 : Int
 f1 : Int
 f2 : S24
 f3 : S24
 f4 : Int
 f5 : Int
def z109 : S109 := ⟨(0 : Int), (0 : Int), z24, z24, (0 : Int), (0 : Int)⟩
def k109 : Kd S109 := Kd.iso (Kd.pair (Kd.int .i64) (Kd.pair (Kd.int .i64) (Kd.pair k24 (Kd.pair k24 (Kd.pair (Kd.int .i64) (Kd.int .i64)))))) (fun x : S109 => (x.f0, x.f1, x.f2, x.f3, x.f4, x.f5))
theorem k109_heap : Kd.Heap k109 := Kd.heap_iso _ (Kd.heap_pair (Kd.heap_int .i64) (Kd.heap_pair (Kd.heap_int .i64) (Kd.heap_pair k24_heap (Kd.heap_pair k24_heap (Kd.heap_pair (Kd.heap_int .i64) (Kd.heap_int .i64))))))
theorem k109_open {w : World} {x : S109} {cs : List Value} (h : k109.K w x cs) : cs = [.int .i64 x.f0, .int .i64 x.f1, .int .i64 x.f2.f0, .int .i64 x.f2.f1, .int .i64 x.f3.f0, .int .i64 x.f3.f1, .int .i64 x.f4, .int .i64 x.f5] := by
 obtain ⟨_, _, rfl, rfl, ⟨_, _, rfl, rfl, ⟨_, _, rfl, s2, ⟨_, _, rfl, s4, ⟨_, _, rfl, rfl, rfl⟩⟩⟩⟩⟩ := h
 obtain rfl := k24_open s2
 obtain rfl := k24_open s4
 exact rfl
theorem k109_mkM (w : World) (base : Nat) (ok : Nat → Prop) (x : S109)  : k109.M w base ok x [.int .i64 x.f0, .int .i64 x.f1, .int .i64 x.f2.f0, .int .i64 x.f2.f1, .int .i64 x.f3.f0, .int .i64 x.f3.f1, .int .i64 x.f4, .int .i64 x.f5] := ⟨[.int .i64 x.f0], [.int .i64 x.f1, .int .i64 x.f2.f0, .int .i64 x.f2.f1, .int .i64 x.f3.f0, .int .i64 x.f3.f1, .int .i64 x.f4, .int .i64 x.f5], rfl, rfl, ⟨[.int .i64 x.f1], [.int .i64 x.f2.f0, .int .i64 x.f2.f1, .int .i64 x.f3.f0, .int .i64 x.f3.f1, .int .i64 x.f4, .int .i64 x.f5], rfl, rfl, ⟨[.int .i64 x.f2.f0, .int .i64 x.f2.f1], [.int .i64 x.f3.f0, .int .i64 x.f3.f1, .int .i64 x.f4, .int .i64 x.f5], rfl, (k24_mkM w base ok x.f2 ), ⟨[.int .i64 x.f3.f0, .int .i64 x.f3.f1], [.int .i64 x.f4, .int .i64 x.f5], rfl, (k24_mkM w base ok x.f3 ), ⟨[.int .i64 x.f4], [.int .i64 x.f5], rfl, rfl, rfl⟩⟩⟩⟩⟩
def c7z (xs : List S109) (i : Int) : S109 := xs.getD i.toNat z109
theorem at_T109 {w : World} {A : Option Addr} {n : Nat} {xs : List S109} (h : Kd.C k109 w A n xs) (i : Int) (h0 : 0 ≤ i) (h1 : i < n) : ∃ ad , A = some ad ∧ w.cell? (ad.add (i.toNat * 8)) = some (.int .i64 (c7z xs i).f0) ∧ w.cell? ⟨(ad.add (i.toNat * 8)).block, (ad.add (i.toNat * 8)).off + 1, none⟩ = some (.int .i64 (c7z xs i).f1) ∧ w.cell? ⟨(ad.add (i.toNat * 8)).block, (ad.add (i.toNat * 8)).off + 2, none⟩ = some (.int .i64 (c7z xs i).f2.f0) ∧ w.cell? ⟨(ad.add (i.toNat * 8)).block, (ad.add (i.toNat * 8)).off + 3, none⟩ = some (.int .i64 (c7z xs i).f2.f1) ∧ w.cell? ⟨(ad.add (i.toNat * 8)).block, (ad.add (i.toNat * 8)).off + 4, none⟩ = some (.int .i64 (c7z xs i).f3.f0) ∧ w.cell? ⟨(ad.add (i.toNat * 8)).block, (ad.add (i.toNat * 8)).off + 5, none⟩ = some (.int .i64 (c7z xs i).f3.f1) ∧ w.cell? ⟨(ad.add (i.toNat * 8)).block, (ad.add (i.toNat * 8)).off + 6, none⟩ = some (.int .i64 (c7z xs i).f4) ∧ w.cell? ⟨(ad.add (i.toNat * 8)).block, (ad.add (i.toNat * 8)).off + 7, none⟩ = some (.int .i64 (c7z xs i).f5) := by
 obtain ⟨ad, c, e, _, hK, hc0⟩ := Kd.C_get h z109 i h0 h1
 have hc : ∀ j u, c[j]? = some u → w.cell? (ad.add (i.toNat * 8 + j)) = some u := hc0
 obtain rfl := k109_open hK
 exact ⟨ad, e, hc 0 _ rfl, by rw [← g6z _ _ 1 (by omega)]; exact hc 1 _ rfl, by rw [← g6z _ _ 2 (by omega)]; exact hc 2 _ rfl, by rw [← g6z _ _ 3 (by omega)]; exact hc 3 _ rfl, by rw [← g6z _ _ 4 (by omega)]; exact hc 4 _ rfl, by rw [← g6z _ _ 5 (by omega)]; exact hc 5 _ rfl, by rw [← g6z _ _ 6 (by omega)]; exact hc 6 _ rfl, by rw [← g6z _ _ 7 (by omega)]; exact hc 7 _ rfl⟩
end Go.Proofs.Ytbhgkpfbggkgdaa.Q

namespace Go.Proofs.Ytbhgkpfbggkgdaa.Q
open Go.RowKit Go.Proofs.YtbhgkpfbggkgdaaW.PrintWords Go.Proofs.YtbhgkpfbggkgdaaW.PrintLast Go.Proofs.YtbhgkpfbggkgdaaW.PrintMore
attribute [local go_sem] e8z e6z f5z f4z e1z e0z e7z e5z
set_option linter.unusedVariables false
set_option linter.unusedSimpArgs false
def impl_in.f (a0 : Int) (a1 : Int) (a2 : Int) : Option (Bool) := if a0 ≥ a1 then (some (decide (a0 ≤ a2))) else (some false)
set_option maxHeartbeats 8000000 in
set_option maxRecDepth 100000 in
theorem impl_in.calls (a0 : Int) (a1 : Int) (a2 : Int) (r : Bool) (w : World) (h : impl_in.f a0 a1 a2 = some r) :
  Calls Try.prog 66 #[.int .i64 a0, .int .i64 a1, .int .i64 a2] w fun e w' => e = .returned (.bool r) ∧ Drawn0 w w' := by
 have H : (if a0 ≥ a1 then (some (decide (a0 ≤ a2))) else (some false)) = some r := h
 clear h
 by_cases c4 : a0 ≥ a1
 ·rw [if_pos c4] at H
  have c4b0 : decide (a1 ≤ a0) = true := decide_eq_true c4
  clear c4
  obtain rfl := Option.some.inj H
  go_enter Try.func66, Try.ntmps66
  go_wp2
  go_ret
  exact ⟨by first | rfl | (simp; done) | (simp [*]; done), by repeat (first | exact Drawn0.refl _ | apply Drawn0.step)⟩
 ·rw [if_neg c4] at H
  have c4b0 : decide (a1 ≤ a0) = false := decide_eq_false c4
  clear c4
  obtain rfl := Option.some.inj H
  go_enter Try.func66, Try.ntmps66
  go_wp2
  go_ret
  exact ⟨by first | rfl | (simp; done) | (simp [*]; done), by repeat (first | exact Drawn0.refl _ | apply Drawn0.step)⟩
end Go.Proofs.Ytbhgkpfbggkgdaa.Q

namespace Go.Proofs.Ytbhgkpfbggkgdaa.Q
open Go.RowKit Go.Proofs.YtbhgkpfbggkgdaaW.PrintWords Go.Proofs.YtbhgkpfbggkgdaaW.PrintLast Go.Proofs.YtbhgkpfbggkgdaaW.PrintMore
attribute [local go_sem] e8z e6z f5z f4z e1z e0z e7z e5z
set_option linter.unusedVariables false
set_option linter.unusedSimpArgs false
def impl_CellsFind.l0 : Nat → List (S67) → Int → Int → Int → Int → Int → Option (Int)
 | 0, _, _, _, _, _, _ => none
 | k + 1, x7, x8, x9, x102000, x102001, x102002 => if x9 < x8 then (if 0 ≤ x9 then (if x9 < (x7.length : Int) then ((impl_in.f x102000 ((b6z x7 x9).f0) ((b6z x7 x9).f1)).bind fun t104 => (if t104 = true then ((impl_in.f x102001 ((b6z x7 x9).f2) ((b6z x7 x9).f3)).bind fun t105 => (if t105 = true then ((impl_in.f x102002 ((b6z x7 x9).f4) ((b6z x7 x9).f5)).bind fun t106 => (if t106 = true then (some ((b6z x7 x9).f6)) else (impl_CellsFind.l0 k x7 x8 (wrap64 (x9 + 1)) x102000 x102001 x102002))) else (impl_CellsFind.l0 k x7 x8 (wrap64 (x9 + 1)) x102000 x102001 x102002))) else (impl_CellsFind.l0 k x7 x8 (wrap64 (x9 + 1)) x102000 x102001 x102002))) else (none)) else (none)) else (some (-1))
def impl_CellsFind.f (k : Nat) (l0 : List (S67)) (a1_0 : Int) (a1_1 : Int) (a1_2 : Int) : Option (Int) := impl_CellsFind.l0 k l0 (l0.length : Int) 0 a1_0 a1_1 a1_2
set_option maxHeartbeats 8000000 in
set_option maxRecDepth 100000 in
theorem impl_CellsFind.calls (k : Nat) (A0 : Option Addr) (c0 : Nat) (l0 : List (S67)) (a1_0 : Int) (a1_1 : Int) (a1_2 : Int) (r : Int) (w : World) (hr0 : Kd.C k67 w A0 l0.length l0) (hc0 : l0.length ≤ c0) (h : impl_CellsFind.f k l0 a1_0 a1_1 a1_2 = some r) :
  Calls Try.prog 22 #[.slice A0 l0.length c0, .agg #[.int .i64 a1_0, .int .i64 a1_1, .int .i64 a1_2]] w fun e w' => e = .returned (.int .i64 r) ∧ Below w.heap.size w w' := by
 have hu36 := Try.underlying36
 have hu67 := Try.underlying67
 have HR0 := a1z.mk hr0
 have HC0 := a1z.mk hc0
 clear hr0 hc0
 have HB := a1z.mk (Below.refl w.heap.size w)
 have H : (impl_CellsFind.l0 k l0 (l0.length : Int) 0 a1_0 a1_1 a1_2) = some r := h
 clear h
 have H' := a1z.mk H
 clear H
 go_enter Try.func22, Try.ntmps22
 go_wp2_with (first | ((with_reducible refine d1z (N := 3) rfl ?_); refine d3z ?hg (N := 3) ?hd (cs := #[.int .i64 a1_0, .int .i64 a1_1, .int .i64 a1_2]) (t := 36) ?hr ?_; (case hd => rfl); (case hg => rfl); (case hr => first | (go_simp; done) | (go_simp; rfl)); intro gb101 hg w3 hbox hb; have n0_ := a1z.mk (b7z (by repeat (first | (with_reducible first | exact HB.1 | apply a5z | apply a2z | apply a4z) | exact HB.1)) hb); have n1_ := a1z.mk (hbox); have n2_ := a1z.mk ((by rw [hg]; exact (b5z (by repeat (first | (with_reducible first | exact HB.1 | apply a5z | apply a2z | apply a4z) | exact HB.1))) : w.heap.size ≤ gb101)); have n3_ := a1z.mk ((by rw [hg]; exact (b5z (by repeat (first | (with_reducible first | exact HB.1 | apply a5z | apply a2z | apply a4z) | exact HB.1))) : w.heap.size ≤ gb101)); clear HB; have HB := n0_; have BK101 := n1_; have GW101 := n2_; have GE101 := n3_; clear n0_ n1_ n2_ n3_; clear hb hbox hg))
 go_loopg [9] k (fun kq v9 w' => ∃ (x9_1 : Int), v9 = .int .i64 x9_1 ∧ a1z (impl_CellsFind.l0 kq l0 (l0.length : Int) x9_1 a1_0 a1_1 a1_2 = some r) ∧ a1z (kq ≤ k) ∧ a1z (w'.heap[gb101]? = some (.cells #[.int .i64 a1_0, .int .i64 a1_1, .int .i64 a1_2] 36 (0, 0))) ∧ a1z (Below w.heap.size w w'))
 case atStart => exact ⟨(0), (by first | rfl | (simp; done) | (simp [*]; done)), H', ⟨Nat.le_refl _⟩, ⟨by (with_reducible repeat (first | refine a7z ?_ _ | refine a8z ?_ | refine blk_alloc ?_ _)); exact BK101.1⟩, ⟨by repeat (first | (with_reducible first | exact HB.1 | apply a5z | apply a2z | apply a4z | refine a9z ?_ GE101.1) | exact HB.1)⟩⟩
 case round =>
  clear H'
  try clear c2
  try clear p2
  obtain ⟨x9_1, rfl, HA, HK1, BK101, HB⟩ := hrel
  cases gk with
  | zero => exact absurd HA.1 (by simp [impl_CellsFind.l0])
  | succ k1 =>
   have H := HA.1
   clear HA
   simp only [impl_CellsFind.l0] at H
   by_cases c4 : x9_1 < (l0.length : Int)
   ·rw [if_pos c4] at H
    have c4b0 : decide (x9_1 < (l0.length : Int)) = true := decide_eq_true c4
    clear c4
    by_cases c5 : 0 ≤ x9_1
    ·rw [if_pos c5] at H
     have c5b0 : decide (0 ≤ x9_1) = true := decide_eq_true c5
     clear c5
     by_cases c6 : x9_1 < (l0.length : Int)
     ·rw [if_pos c6] at H
      have c6b0 : decide (x9_1 < (l0.length : Int)) = true := decide_eq_true c6
      clear c6
      replace H := Option.bind_eq_some_iff.mp H
      obtain ⟨t104, A70, H⟩ := H
      replace H : (if t104 = true then ((impl_in.f a1_1 ((b6z l0 x9_1).f2) ((b6z l0 x9_1).f3)).bind fun t105 => (if t105 = true then ((impl_in.f a1_2 ((b6z l0 x9_1).f4) ((b6z l0 x9_1).f5)).bind fun t106 => (if t106 = true then (some ((b6z l0 x9_1).f6)) else (impl_CellsFind.l0 k1 l0 (l0.length : Int) (wrap64 (x9_1 + 1)) a1_0 a1_1 a1_2))) else (impl_CellsFind.l0 k1 l0 (l0.length : Int) (wrap64 (x9_1 + 1)) a1_0 a1_1 a1_2))) else (impl_CellsFind.l0 k1 l0 (l0.length : Int) (wrap64 (x9_1 + 1)) a1_0 a1_1 a1_2)) = some r := H
      have A7 := a1z.mk A70
      clear A70
      by_cases c8 : t104 = true
      ·subst c8
       have H1 : ((impl_in.f a1_1 ((b6z l0 x9_1).f2) ((b6z l0 x9_1).f3)).bind fun t105 => (if t105 = true then ((impl_in.f a1_2 ((b6z l0 x9_1).f4) ((b6z l0 x9_1).f5)).bind fun t106 => (if t106 = true then (some ((b6z l0 x9_1).f6)) else (impl_CellsFind.l0 k1 l0 (l0.length : Int) (wrap64 (x9_1 + 1)) a1_0 a1_1 a1_2))) else (impl_CellsFind.l0 k1 l0 (l0.length : Int) (wrap64 (x9_1 + 1)) a1_0 a1_1 a1_2))) = some r := by rw [if_pos rfl] at H; exact H
       clear H
       have H := H1
       clear H1
       replace H := Option.bind_eq_some_iff.mp H
       obtain ⟨t105, A90, H⟩ := H
       replace H : (if t105 = true then ((impl_in.f a1_2 ((b6z l0 x9_1).f4) ((b6z l0 x9_1).f5)).bind fun t106 => (if t106 = true then (some ((b6z l0 x9_1).f6)) else (impl_CellsFind.l0 k1 l0 (l0.length : Int) (wrap64 (x9_1 + 1)) a1_0 a1_1 a1_2))) else (impl_CellsFind.l0 k1 l0 (l0.length : Int) (wrap64 (x9_1 + 1)) a1_0 a1_1 a1_2)) = some r := H
       have A9 := a1z.mk A90
       clear A90
       by_cases c10 : t105 = true
       ·subst c10
        have H1 : ((impl_in.f a1_2 ((b6z l0 x9_1).f4) ((b6z l0 x9_1).f5)).bind fun t106 => (if t106 = true then (some ((b6z l0 x9_1).f6)) else (impl_CellsFind.l0 k1 l0 (l0.length : Int) (wrap64 (x9_1 + 1)) a1_0 a1_1 a1_2))) = some r := by rw [if_pos rfl] at H; exact H
        clear H
        have H := H1
        clear H1
        replace H := Option.bind_eq_some_iff.mp H
        obtain ⟨t106, A110, H⟩ := H
        replace H : (if t106 = true then (some ((b6z l0 x9_1).f6)) else (impl_CellsFind.l0 k1 l0 (l0.length : Int) (wrap64 (x9_1 + 1)) a1_0 a1_1 a1_2)) = some r := H
        have A11 := a1z.mk A110
        clear A110
        by_cases c12 : t106 = true
        ·subst c12
         have H1 : (some ((b6z l0 x9_1).f6)) = some r := by rw [if_pos rfl] at H; exact H
         clear H
         have H := H1
         clear H1
         obtain rfl := Option.some.inj H
         have p102 : 0 ≤ (x9_1 : Int) := of_decide_eq_true (by first | (with_reducible assumption) | assumption)
         have q102 : x9_1 < (l0.length : Int) := of_decide_eq_true (by first | (with_reducible assumption) | assumption)
         obtain ⟨ad102, e102, hx102_0, hx102_1, hx102_2, hx102_3, hx102_4, hx102_5, hx102_6⟩ := f3z HR0.1 x9_1 p102 q102
         cases e102
         replace hx102_0 := (HB.1.cell (World.block_lt_of_cell? w _ hx102_0)).trans hx102_0
         replace hx102_1 := (HB.1.cell (World.block_lt_of_cell? w _ hx102_1)).trans hx102_1
         replace hx102_2 := (HB.1.cell (World.block_lt_of_cell? w _ hx102_2)).trans hx102_2
         replace hx102_3 := (HB.1.cell (World.block_lt_of_cell? w _ hx102_3)).trans hx102_3
         replace hx102_4 := (HB.1.cell (World.block_lt_of_cell? w _ hx102_4)).trans hx102_4
         replace hx102_5 := (HB.1.cell (World.block_lt_of_cell? w _ hx102_5)).trans hx102_5
         replace hx102_6 := (HB.1.cell (World.block_lt_of_cell? w _ hx102_6)).trans hx102_6
         replace p102 := eq_true p102
         replace q102 := eq_true q102
         go_wp2_with (first | ((with_reducible refine d1z (N := 6) rfl ?_); refine d3z ?hg (N := 6) ?hd (cs := #[.int .i64 0, .int .i64 0, .int .i64 0, .int .i64 0, .int .i64 0, .int .i64 0, .int .i64 0]) (t := 67) ?hr ?_; (case hd => rfl); (case hg => rfl); (case hr => first | (go_simp; done) | (go_simp; rfl)); intro gb103 hg w13 hbox hb; have n0_ := a1z.mk (c4z (g := gb101) (o := .cells #[.int .i64 a1_0, .int .i64 a1_1, .int .i64 a1_2] 36 (0, 0)) (by (with_reducible repeat (first | refine a7z ?_ _ | refine a8z ?_ | refine blk_alloc ?_ _)); exact BK101.1) hb); have n1_ := a1z.mk (b7z (by repeat (first | (with_reducible first | exact HB.1 | apply a5z | apply a2z | apply a4z | refine a9z ?_ GE101.1) | exact HB.1)) hb); have n2_ := a1z.mk (hbox); have n3_ := a1z.mk ((by rw [hg]; exact (b5z (by repeat (first | (with_reducible first | exact HB.1 | apply a5z | apply a2z | apply a4z | refine a9z ?_ GE101.1) | exact HB.1))) : w.heap.size ≤ gb103)); have n4_ := a1z.mk ((by rw [hg]; exact (b5z (by repeat (first | (with_reducible first | exact HB.1 | apply a5z | apply a2z | apply a4z | refine a9z ?_ GE101.1) | exact HB.1))) : w.heap.size ≤ gb103)); have n5_ := a1z.mk ((by rw [hg]; exact Nat.ne_of_lt (d9z (g := gb101) (o := .cells #[.int .i64 a1_0, .int .i64 a1_1, .int .i64 a1_2] 36 (0, 0)) (by (with_reducible repeat (first | refine a7z ?_ _ | refine a8z ?_ | refine blk_alloc ?_ _)); exact BK101.1)) : gb101 ≠ gb103)); have n6_ := a1z.mk ((by rw [hg]; exact Nat.ne_of_gt (d9z (g := gb101) (o := .cells #[.int .i64 a1_0, .int .i64 a1_1, .int .i64 a1_2] 36 (0, 0)) (by (with_reducible repeat (first | refine a7z ?_ _ | refine a8z ?_ | refine blk_alloc ?_ _)); exact BK101.1)) : gb103 ≠ gb101)); clear BK101; clear HB; have BK101 := n0_; have HB := n1_; have BK103 := n2_; have GW103 := n3_; have GE103 := n4_; have NB101_103 := n5_; have NB103_101 := n6_; clear n0_ n1_ n2_ n3_ n4_ n5_ n6_; clear hb hbox hg; have hnb14 := NB103_101.1; have hnc14 := NB101_103.1; have hcz15_0 : w13.cell? ⟨gb103, 0, none⟩ = some (.int .i64 0) := (a0z BK103.1 0).trans rfl; have hcz15_1 : w13.cell? ⟨gb103, 1, none⟩ = some (.int .i64 0) := (a0z BK103.1 1).trans rfl; have hcz15_2 : w13.cell? ⟨gb103, 2, none⟩ = some (.int .i64 0) := (a0z BK103.1 2).trans rfl; have hcz15_3 : w13.cell? ⟨gb103, 3, none⟩ = some (.int .i64 0) := (a0z BK103.1 3).trans rfl; have hcz15_4 : w13.cell? ⟨gb103, 4, none⟩ = some (.int .i64 0) := (a0z BK103.1 4).trans rfl; have hcz15_5 : w13.cell? ⟨gb103, 5, none⟩ = some (.int .i64 0) := (a0z BK103.1 5).trans rfl; have hcz15_6 : w13.cell? ⟨gb103, 6, none⟩ = some (.int .i64 0) := (a0z BK103.1 6).trans rfl; have hfz15_0 := a3z BK103.1 0; have hfz15_1 := a3z BK103.1 1; have hfz15_2 := a3z BK103.1 2; have hfz15_3 := a3z BK103.1 3; have hfz15_4 := a3z BK103.1 4; have hfz15_5 := a3z BK103.1 5; have hfz15_6 := a3z BK103.1 6; have hcz16_0 : w13.cell? ⟨gb101, 0, none⟩ = some (.int .i64 a1_0) := (a0z BK101.1 0).trans rfl; have hcz16_1 : w13.cell? ⟨gb101, 1, none⟩ = some (.int .i64 a1_1) := (a0z BK101.1 1).trans rfl; have hcz16_2 : w13.cell? ⟨gb101, 2, none⟩ = some (.int .i64 a1_2) := (a0z BK101.1 2).trans rfl; have hfz16_0 := a3z BK101.1 0; have hfz16_1 := a3z BK101.1 1; have hfz16_2 := a3z BK101.1 2) | ((with_reducible refine c5z (f := 66) rfl ?_); refine d5z (some 19) rfl rfl Try.func66 (by kernel_rfl) rfl #[.int .i64 a1_0, .int .i64 ((b6z l0 x9_1).f0), .int .i64 ((b6z l0 x9_1).f1)] rfl (by (try simp only [List.map_toArray, List.map_cons, List.map_nil]); first | done | rfl | (simp only [List.length_drop, List.length_take]; rfl)) ?_; (with_reducible refine (impl_in.calls a1_0 ((b6z l0 x9_1).f0) ((b6z l0 x9_1).f1) true _ A7.1).mono ?_); rintro e w' ⟨rfl, ⟨nd, rfl⟩⟩; refine ⟨_, rfl, ?_⟩) | (go_at_call 66; (with_reducible refine (impl_in.calls a1_1 ((b6z l0 x9_1).f2) ((b6z l0 x9_1).f3) true _ A9.1).mono ?_); rintro e w' ⟨rfl, ⟨nd, rfl⟩⟩) | (go_at_call 66; (with_reducible refine (impl_in.calls a1_2 ((b6z l0 x9_1).f4) ((b6z l0 x9_1).f5) true _ A11.1).mono ?_); rintro e w' ⟨rfl, ⟨nd, rfl⟩⟩))
         go_ret
         exact ⟨by first | rfl | (simp [c2z, c1z] <;> rfl) | (simp [*, c2z, c1z] <;> rfl), by repeat (first | (with_reducible first | exact HB.1 | apply a5z | apply a2z | apply a4z | refine a9z ?_ GE101.1 | refine a9z ?_ GE103.1) | exact HB.1)⟩
        ·replace c12 := Bool.eq_false_iff.mpr c12
         subst c12
         have H1 : (impl_CellsFind.l0 k1 l0 (l0.length : Int) (wrap64 (x9_1 + 1)) a1_0 a1_1 a1_2) = some r := by rw [if_neg (show ¬ (false = true) by decide)] at H; exact H
         clear H
         have H := H1
         clear H1
         have H' := a1z.mk H
         clear H
         have p102 : 0 ≤ (x9_1 : Int) := of_decide_eq_true (by first | (with_reducible assumption) | assumption)
         have q102 : x9_1 < (l0.length : Int) := of_decide_eq_true (by first | (with_reducible assumption) | assumption)
         obtain ⟨ad102, e102, hx102_0, hx102_1, hx102_2, hx102_3, hx102_4, hx102_5, hx102_6⟩ := f3z HR0.1 x9_1 p102 q102
         cases e102
         replace hx102_0 := (HB.1.cell (World.block_lt_of_cell? w _ hx102_0)).trans hx102_0
         replace hx102_1 := (HB.1.cell (World.block_lt_of_cell? w _ hx102_1)).trans hx102_1
         replace hx102_2 := (HB.1.cell (World.block_lt_of_cell? w _ hx102_2)).trans hx102_2
         replace hx102_3 := (HB.1.cell (World.block_lt_of_cell? w _ hx102_3)).trans hx102_3
         replace hx102_4 := (HB.1.cell (World.block_lt_of_cell? w _ hx102_4)).trans hx102_4
         replace hx102_5 := (HB.1.cell (World.block_lt_of_cell? w _ hx102_5)).trans hx102_5
         replace hx102_6 := (HB.1.cell (World.block_lt_of_cell? w _ hx102_6)).trans hx102_6
         replace p102 := eq_true p102
         replace q102 := eq_true q102
         go_wp2_with (first | ((with_reducible refine d1z (N := 6) rfl ?_); refine d3z ?hg (N := 6) ?hd (cs := #[.int .i64 0, .int .i64 0, .int .i64 0, .int .i64 0, .int .i64 0, .int .i64 0, .int .i64 0]) (t := 67) ?hr ?_; (case hd => rfl); (case hg => rfl); (case hr => first | (go_simp; done) | (go_simp; rfl)); intro gb103 hg w17 hbox hb; have n0_ := a1z.mk (c4z (g := gb101) (o := .cells #[.int .i64 a1_0, .int .i64 a1_1, .int .i64 a1_2] 36 (0, 0)) (by (with_reducible repeat (first | refine a7z ?_ _ | refine a8z ?_ | refine blk_alloc ?_ _)); exact BK101.1) hb); have n1_ := a1z.mk (b7z (by repeat (first | (with_reducible first | exact HB.1 | apply a5z | apply a2z | apply a4z | refine a9z ?_ GE101.1) | exact HB.1)) hb); have n2_ := a1z.mk (hbox); have n3_ := a1z.mk ((by rw [hg]; exact (b5z (by repeat (first | (with_reducible first | exact HB.1 | apply a5z | apply a2z | apply a4z | refine a9z ?_ GE101.1) | exact HB.1))) : w.heap.size ≤ gb103)); have n4_ := a1z.mk ((by rw [hg]; exact (b5z (by repeat (first | (with_reducible first | exact HB.1 | apply a5z | apply a2z | apply a4z | refine a9z ?_ GE101.1) | exact HB.1))) : w.heap.size ≤ gb103)); have n5_ := a1z.mk ((by rw [hg]; exact Nat.ne_of_lt (d9z (g := gb101) (o := .cells #[.int .i64 a1_0, .int .i64 a1_1, .int .i64 a1_2] 36 (0, 0)) (by (with_reducible repeat (first | refine a7z ?_ _ | refine a8z ?_ | refine blk_alloc ?_ _)); exact BK101.1)) : gb101 ≠ gb103)); have n6_ := a1z.mk ((by rw [hg]; exact Nat.ne_of_gt (d9z (g := gb101) (o := .cells #[.int .i64 a1_0, .int .i64 a1_1, .int .i64 a1_2] 36 (0, 0)) (by (with_reducible repeat (first | refine a7z ?_ _ | refine a8z ?_ | refine blk_alloc ?_ _)); exact BK101.1)) : gb103 ≠ gb101)); clear BK101; clear HB; have BK101 := n0_; have HB := n1_; have BK103 := n2_; have GW103 := n3_; have GE103 := n4_; have NB101_103 := n5_; have NB103_101 := n6_; clear n0_ n1_ n2_ n3_ n4_ n5_ n6_; clear hb hbox hg; have hnb18 := NB103_101.1; have hnc18 := NB101_103.1; have hcz19_0 : w17.cell? ⟨gb103, 0, none⟩ = some (.int .i64 0) := (a0z BK103.1 0).trans rfl; have hcz19_1 : w17.cell? ⟨gb103, 1, none⟩ = some (.int .i64 0) := (a0z BK103.1 1).trans rfl; have hcz19_2 : w17.cell? ⟨gb103, 2, none⟩ = some (.int .i64 0) := (a0z BK103.1 2).trans rfl; have hcz19_3 : w17.cell? ⟨gb103, 3, none⟩ = some (.int .i64 0) := (a0z BK103.1 3).trans rfl; have hcz19_4 : w17.cell? ⟨gb103, 4, none⟩ = some (.int .i64 0) := (a0z BK103.1 4).trans rfl; have hcz19_5 : w17.cell? ⟨gb103, 5, none⟩ = some (.int .i64 0) := (a0z BK103.1 5).trans rfl; have hcz19_6 : w17.cell? ⟨gb103, 6, none⟩ = some (.int .i64 0) := (a0z BK103.1 6).trans rfl; have hfz19_0 := a3z BK103.1 0; have hfz19_1 := a3z BK103.1 1; have hfz19_2 := a3z BK103.1 2; have hfz19_3 := a3z BK103.1 3; have hfz19_4 := a3z BK103.1 4; have hfz19_5 := a3z BK103.1 5; have hfz19_6 := a3z BK103.1 6; have hcz20_0 : w17.cell? ⟨gb101, 0, none⟩ = some (.int .i64 a1_0) := (a0z BK101.1 0).trans rfl; have hcz20_1 : w17.cell? ⟨gb101, 1, none⟩ = some (.int .i64 a1_1) := (a0z BK101.1 1).trans rfl; have hcz20_2 : w17.cell? ⟨gb101, 2, none⟩ = some (.int .i64 a1_2) := (a0z BK101.1 2).trans rfl; have hfz20_0 := a3z BK101.1 0; have hfz20_1 := a3z BK101.1 1; have hfz20_2 := a3z BK101.1 2) | ((with_reducible refine c5z (f := 66) rfl ?_); refine d5z (some 19) rfl rfl Try.func66 (by kernel_rfl) rfl #[.int .i64 a1_0, .int .i64 ((b6z l0 x9_1).f0), .int .i64 ((b6z l0 x9_1).f1)] rfl (by (try simp only [List.map_toArray, List.map_cons, List.map_nil]); first | done | rfl | (simp only [List.length_drop, List.length_take]; rfl)) ?_; (with_reducible refine (impl_in.calls a1_0 ((b6z l0 x9_1).f0) ((b6z l0 x9_1).f1) true _ A7.1).mono ?_); rintro e w' ⟨rfl, ⟨nd, rfl⟩⟩; refine ⟨_, rfl, ?_⟩) | (go_at_call 66; (with_reducible refine (impl_in.calls a1_1 ((b6z l0 x9_1).f2) ((b6z l0 x9_1).f3) true _ A9.1).mono ?_); rintro e w' ⟨rfl, ⟨nd, rfl⟩⟩) | (go_at_call 66; (with_reducible refine (impl_in.calls a1_2 ((b6z l0 x9_1).f4) ((b6z l0 x9_1).f5) false _ A11.1).mono ?_); rintro e w' ⟨rfl, ⟨nd, rfl⟩⟩))
         go_roundg k1
         case measure => have := HK1.1; omega
         case rel => exact ⟨(wrap64 (x9_1 + 1)), (by first | rfl | (simp; done) | (simp [*]; done)), H', ⟨by have := HK1.1; omega⟩, ⟨by (with_reducible repeat (first | refine a7z ?_ _ | refine a8z ?_ | refine blk_alloc ?_ _)); refine c8z ?_ NB101_103.1 _; (with_reducible repeat (first | refine a7z ?_ _ | refine a8z ?_ | refine blk_alloc ?_ _)); refine c8z ?_ NB101_103.1 _; (with_reducible repeat (first | refine a7z ?_ _ | refine a8z ?_ | refine blk_alloc ?_ _)); refine c8z ?_ NB101_103.1 _; (with_reducible repeat (first | refine a7z ?_ _ | refine a8z ?_ | refine blk_alloc ?_ _)); refine c8z ?_ NB101_103.1 _; (with_reducible repeat (first | refine a7z ?_ _ | refine a8z ?_ | refine blk_alloc ?_ _)); refine c8z ?_ NB101_103.1 _; (with_reducible repeat (first | refine a7z ?_ _ | refine a8z ?_ | refine blk_alloc ?_ _)); refine c8z ?_ NB101_103.1 _; (with_reducible repeat (first | refine a7z ?_ _ | refine a8z ?_ | refine blk_alloc ?_ _)); refine c8z ?_ NB101_103.1 _; (with_reducible repeat (first | refine a7z ?_ _ | refine a8z ?_ | refine blk_alloc ?_ _)); exact BK101.1⟩, ⟨by repeat (first | (with_reducible first | exact HB.1 | apply a5z | apply a2z | apply a4z | refine a9z ?_ GE101.1 | refine a9z ?_ GE103.1) | exact HB.1)⟩⟩
       ·replace c10 := Bool.eq_false_iff.mpr c10
        subst c10
        have H1 : (impl_CellsFind.l0 k1 l0 (l0.length : Int) (wrap64 (x9_1 + 1)) a1_0 a1_1 a1_2) = some r := by rw [if_neg (show ¬ (false = true) by decide)] at H; exact H
        clear H
        have H := H1
        clear H1
        have H' := a1z.mk H
        clear H
        have p102 : 0 ≤ (x9_1 : Int) := of_decide_eq_true (by first | (with_reducible assumption) | assumption)
        have q102 : x9_1 < (l0.length : Int) := of_decide_eq_true (by first | (with_reducible assumption) | assumption)
        obtain ⟨ad102, e102, hx102_0, hx102_1, hx102_2, hx102_3, hx102_4, hx102_5, hx102_6⟩ := f3z HR0.1 x9_1 p102 q102
        cases e102
        replace hx102_0 := (HB.1.cell (World.block_lt_of_cell? w _ hx102_0)).trans hx102_0
        replace hx102_1 := (HB.1.cell (World.block_lt_of_cell? w _ hx102_1)).trans hx102_1
        replace hx102_2 := (HB.1.cell (World.block_lt_of_cell? w _ hx102_2)).trans hx102_2
        replace hx102_3 := (HB.1.cell (World.block_lt_of_cell? w _ hx102_3)).trans hx102_3
        replace hx102_4 := (HB.1.cell (World.block_lt_of_cell? w _ hx102_4)).trans hx102_4
        replace hx102_5 := (HB.1.cell (World.block_lt_of_cell? w _ hx102_5)).trans hx102_5
        replace hx102_6 := (HB.1.cell (World.block_lt_of_cell? w _ hx102_6)).trans hx102_6
        replace p102 := eq_true p102
        replace q102 := eq_true q102
        go_wp2_with (first | ((with_reducible refine d1z (N := 6) rfl ?_); refine d3z ?hg (N := 6) ?hd (cs := #[.int .i64 0, .int .i64 0, .int .i64 0, .int .i64 0, .int .i64 0, .int .i64 0, .int .i64 0]) (t := 67) ?hr ?_; (case hd => rfl); (case hg => rfl); (case hr => first | (go_simp; done) | (go_simp; rfl)); intro gb103 hg w21 hbox hb; have n0_ := a1z.mk (c4z (g := gb101) (o := .cells #[.int .i64 a1_0, .int .i64 a1_1, .int .i64 a1_2] 36 (0, 0)) (by (with_reducible repeat (first | refine a7z ?_ _ | refine a8z ?_ | refine blk_alloc ?_ _)); exact BK101.1) hb); have n1_ := a1z.mk (b7z (by repeat (first | (with_reducible first | exact HB.1 | apply a5z | apply a2z | apply a4z | refine a9z ?_ GE101.1) | exact HB.1)) hb); have n2_ := a1z.mk (hbox); have n3_ := a1z.mk ((by rw [hg]; exact (b5z (by repeat (first | (with_reducible first | exact HB.1 | apply a5z | apply a2z | apply a4z | refine a9z ?_ GE101.1) | exact HB.1))) : w.heap.size ≤ gb103)); have n4_ := a1z.mk ((by rw [hg]; exact (b5z (by repeat (first | (with_reducible first | exact HB.1 | apply a5z | apply a2z | apply a4z | refine a9z ?_ GE101.1) | exact HB.1))) : w.heap.size ≤ gb103)); have n5_ := a1z.mk ((by rw [hg]; exact Nat.ne_of_lt (d9z (g := gb101) (o := .cells #[.int .i64 a1_0, .int .i64 a1_1, .int .i64 a1_2] 36 (0, 0)) (by (with_reducible repeat (first | refine a7z ?_ _ | refine a8z ?_ | refine blk_alloc ?_ _)); exact BK101.1)) : gb101 ≠ gb103)); have n6_ := a1z.mk ((by rw [hg]; exact Nat.ne_of_gt (d9z (g := gb101) (o := .cells #[.int .i64 a1_0, .int .i64 a1_1, .int .i64 a1_2] 36 (0, 0)) (by (with_reducible repeat (first | refine a7z ?_ _ | refine a8z ?_ | refine blk_alloc ?_ _)); exact BK101.1)) : gb103 ≠ gb101)); clear BK101; clear HB; have BK101 := n0_; have HB := n1_; have BK103 := n2_; have GW103 := n3_; have GE103 := n4_; have NB101_103 := n5_; have NB103_101 := n6_; clear n0_ n1_ n2_ n3_ n4_ n5_ n6_; clear hb hbox hg; have hnb22 := NB103_101.1; have hnc22 := NB101_103.1; have hcz23_0 : w21.cell? ⟨gb103, 0, none⟩ = some (.int .i64 0) := (a0z BK103.1 0).trans rfl; have hcz23_1 : w21.cell? ⟨gb103, 1, none⟩ = some (.int .i64 0) := (a0z BK103.1 1).trans rfl; have hcz23_2 : w21.cell? ⟨gb103, 2, none⟩ = some (.int .i64 0) := (a0z BK103.1 2).trans rfl; have hcz23_3 : w21.cell? ⟨gb103, 3, none⟩ = some (.int .i64 0) := (a0z BK103.1 3).trans rfl; have hcz23_4 : w21.cell? ⟨gb103, 4, none⟩ = some (.int .i64 0) := (a0z BK103.1 4).trans rfl; have hcz23_5 : w21.cell? ⟨gb103, 5, none⟩ = some (.int .i64 0) := (a0z BK103.1 5).trans rfl; have hcz23_6 : w21.cell? ⟨gb103, 6, none⟩ = some (.int .i64 0) := (a0z BK103.1 6).trans rfl; have hfz23_0 := a3z BK103.1 0; have hfz23_1 := a3z BK103.1 1; have hfz23_2 := a3z BK103.1 2; have hfz23_3 := a3z BK103.1 3; have hfz23_4 := a3z BK103.1 4; have hfz23_5 := a3z BK103.1 5; have hfz23_6 := a3z BK103.1 6; have hcz24_0 : w21.cell? ⟨gb101, 0, none⟩ = some (.int .i64 a1_0) := (a0z BK101.1 0).trans rfl; have hcz24_1 : w21.cell? ⟨gb101, 1, none⟩ = some (.int .i64 a1_1) := (a0z BK101.1 1).trans rfl; have hcz24_2 : w21.cell? ⟨gb101, 2, none⟩ = some (.int .i64 a1_2) := (a0z BK101.1 2).trans rfl; have hfz24_0 := a3z BK101.1 0; have hfz24_1 := a3z BK101.1 1; have hfz24_2 := a3z BK101.1 2) | ((with_reducible refine c5z (f := 66) rfl ?_); refine d5z (some 19) rfl rfl Try.func66 (by kernel_rfl) rfl #[.int .i64 a1_0, .int .i64 ((b6z l0 x9_1).f0), .int .i64 ((b6z l0 x9_1).f1)] rfl (by (try simp only [List.map_toArray, List.map_cons, List.map_nil]); first | done | rfl | (simp only [List.length_drop, List.length_take]; rfl)) ?_; (with_reducible refine (impl_in.calls a1_0 ((b6z l0 x9_1).f0) ((b6z l0 x9_1).f1) true _ A7.1).mono ?_); rintro e w' ⟨rfl, ⟨nd, rfl⟩⟩; refine ⟨_, rfl, ?_⟩) | (go_at_call 66; (with_reducible refine (impl_in.calls a1_1 ((b6z l0 x9_1).f2) ((b6z l0 x9_1).f3) false _ A9.1).mono ?_); rintro e w' ⟨rfl, ⟨nd, rfl⟩⟩))
        go_roundg k1
        case measure => have := HK1.1; omega
        case rel => exact ⟨(wrap64 (x9_1 + 1)), (by first | rfl | (simp; done) | (simp [*]; done)), H', ⟨by have := HK1.1; omega⟩, ⟨by (with_reducible repeat (first | refine a7z ?_ _ | refine a8z ?_ | refine blk_alloc ?_ _)); refine c8z ?_ NB101_103.1 _; (with_reducible repeat (first | refine a7z ?_ _ | refine a8z ?_ | refine blk_alloc ?_ _)); refine c8z ?_ NB101_103.1 _; (with_reducible repeat (first | refine a7z ?_ _ | refine a8z ?_ | refine blk_alloc ?_ _)); refine c8z ?_ NB101_103.1 _; (with_reducible repeat (first | refine a7z ?_ _ | refine a8z ?_ | refine blk_alloc ?_ _)); refine c8z ?_ NB101_103.1 _; (with_reducible repeat (first | refine a7z ?_ _ | refine a8z ?_ | refine blk_alloc ?_ _)); refine c8z ?_ NB101_103.1 _; (with_reducible repeat (first | refine a7z ?_ _ | refine a8z ?_ | refine blk_alloc ?_ _)); refine c8z ?_ NB101_103.1 _; (with_reducible repeat (first | refine a7z ?_ _ | refine a8z ?_ | refine blk_alloc ?_ _)); refine c8z ?_ NB101_103.1 _; (with_reducible repeat (first | refine a7z ?_ _ | refine a8z ?_ | refine blk_alloc ?_ _)); exact BK101.1⟩, ⟨by repeat (first | (with_reducible first | exact HB.1 | apply a5z | apply a2z | apply a4z | refine a9z ?_ GE101.1 | refine a9z ?_ GE103.1) | exact HB.1)⟩⟩
      ·replace c8 := Bool.eq_false_iff.mpr c8
       subst c8
       have H1 : (impl_CellsFind.l0 k1 l0 (l0.length : Int) (wrap64 (x9_1 + 1)) a1_0 a1_1 a1_2) = some r := by rw [if_neg (show ¬ (false = true) by decide)] at H; exact H
       clear H
       have H := H1
       clear H1
       have H' := a1z.mk H
       clear H
       have p102 : 0 ≤ (x9_1 : Int) := of_decide_eq_true (by first | (with_reducible assumption) | assumption)
       have q102 : x9_1 < (l0.length : Int) := of_decide_eq_true (by first | (with_reducible assumption) | assumption)
       obtain ⟨ad102, e102, hx102_0, hx102_1, hx102_2, hx102_3, hx102_4, hx102_5, hx102_6⟩ := f3z HR0.1 x9_1 p102 q102
       cases e102
       replace hx102_0 := (HB.1.cell (World.block_lt_of_cell? w _ hx102_0)).trans hx102_0
       replace hx102_1 := (HB.1.cell (World.block_lt_of_cell? w _ hx102_1)).trans hx102_1
       replace hx102_2 := (HB.1.cell (World.block_lt_of_cell? w _ hx102_2)).trans hx102_2
       replace hx102_3 := (HB.1.cell (World.block_lt_of_cell? w _ hx102_3)).trans hx102_3
       replace hx102_4 := (HB.1.cell (World.block_lt_of_cell? w _ hx102_4)).trans hx102_4
       replace hx102_5 := (HB.1.cell (World.block_lt_of_cell? w _ hx102_5)).trans hx102_5
       replace hx102_6 := (HB.1.cell (World.block_lt_of_cell? w _ hx102_6)).trans hx102_6
       replace p102 := eq_true p102
       replace q102 := eq_true q102
       go_wp2_with (first | ((with_reducible refine d1z (N := 6) rfl ?_); refine d3z ?hg (N := 6) ?hd (cs := #[.int .i64 0, .int .i64 0, .int .i64 0, .int .i64 0, .int .i64 0, .int .i64 0, .int .i64 0]) (t := 67) ?hr ?_; (case hd => rfl); (case hg => rfl); (case hr => first | (go_simp; done) | (go_simp; rfl)); intro gb103 hg w25 hbox hb; have n0_ := a1z.mk (c4z (g := gb101) (o := .cells #[.int .i64 a1_0, .int .i64 a1_1, .int .i64 a1_2] 36 (0, 0)) (by (with_reducible repeat (first | refine a7z ?_ _ | refine a8z ?_ | refine blk_alloc ?_ _)); exact BK101.1) hb); have n1_ := a1z.mk (b7z (by repeat (first | (with_reducible first | exact HB.1 | apply a5z | apply a2z | apply a4z | refine a9z ?_ GE101.1) | exact HB.1)) hb); have n2_ := a1z.mk (hbox); have n3_ := a1z.mk ((by rw [hg]; exact (b5z (by repeat (first | (with_reducible first | exact HB.1 | apply a5z | apply a2z | apply a4z | refine a9z ?_ GE101.1) | exact HB.1))) : w.heap.size ≤ gb103)); have n4_ := a1z.mk ((by rw [hg]; exact (b5z (by repeat (first | (with_reducible first | exact HB.1 | apply a5z | apply a2z | apply a4z | refine a9z ?_ GE101.1) | exact HB.1))) : w.heap.size ≤ gb103)); have n5_ := a1z.mk ((by rw [hg]; exact Nat.ne_of_lt (d9z (g := gb101) (o := .cells #[.int .i64 a1_0, .int .i64 a1_1, .int .i64 a1_2] 36 (0, 0)) (by (with_reducible repeat (first | refine a7z ?_ _ | refine a8z ?_ | refine blk_alloc ?_ _)); exact BK101.1)) : gb101 ≠ gb103)); have n6_ := a1z.mk ((by rw [hg]; exact Nat.ne_of_gt (d9z (g := gb101) (o := .cells #[.int .i64 a1_0, .int .i64 a1_1, .int .i64 a1_2] 36 (0, 0)) (by (with_reducible repeat (first | refine a7z ?_ _ | refine a8z ?_ | refine blk_alloc ?_ _)); exact BK101.1)) : gb103 ≠ gb101)); clear BK101; clear HB; have BK101 := n0_; have HB := n1_; have BK103 := n2_; have GW103 := n3_; have GE103 := n4_; have NB101_103 := n5_; have NB103_101 := n6_; clear n0_ n1_ n2_ n3_ n4_ n5_ n6_; clear hb hbox hg; have hnb26 := NB103_101.1; have hnc26 := NB101_103.1; have hcz27_0 : w25.cell? ⟨gb103, 0, none⟩ = some (.int .i64 0) := (a0z BK103.1 0).trans rfl; have hcz27_1 : w25.cell? ⟨gb103, 1, none⟩ = some (.int .i64 0) := (a0z BK103.1 1).trans rfl; have hcz27_2 : w25.cell? ⟨gb103, 2, none⟩ = some (.int .i64 0) := (a0z BK103.1 2).trans rfl; have hcz27_3 : w25.cell? ⟨gb103, 3, none⟩ = some (.int .i64 0) := (a0z BK103.1 3).trans rfl; have hcz27_4 : w25.cell? ⟨gb103, 4, none⟩ = some (.int .i64 0) := (a0z BK103.1 4).trans rfl; have hcz27_5 : w25.cell? ⟨gb103, 5, none⟩ = some (.int .i64 0) := (a0z BK103.1 5).trans rfl; have hcz27_6 : w25.cell? ⟨gb103, 6, none⟩ = some (.int .i64 0) := (a0z BK103.1 6).trans rfl; have hfz27_0 := a3z BK103.1 0; have hfz27_1 := a3z BK103.1 1; have hfz27_2 := a3z BK103.1 2; have hfz27_3 := a3z BK103.1 3; have hfz27_4 := a3z BK103.1 4; have hfz27_5 := a3z BK103.1 5; have hfz27_6 := a3z BK103.1 6; have hcz28_0 : w25.cell? ⟨gb101, 0, none⟩ = some (.int .i64 a1_0) := (a0z BK101.1 0).trans rfl; have hcz28_1 : w25.cell? ⟨gb101, 1, none⟩ = some (.int .i64 a1_1) := (a0z BK101.1 1).trans rfl; have hcz28_2 : w25.cell? ⟨gb101, 2, none⟩ = some (.int .i64 a1_2) := (a0z BK101.1 2).trans rfl; have hfz28_0 := a3z BK101.1 0; have hfz28_1 := a3z BK101.1 1; have hfz28_2 := a3z BK101.1 2) | ((with_reducible refine c5z (f := 66) rfl ?_); refine d5z (some 19) rfl rfl Try.func66 (by kernel_rfl) rfl #[.int .i64 a1_0, .int .i64 ((b6z l0 x9_1).f0), .int .i64 ((b6z l0 x9_1).f1)] rfl (by (try simp only [List.map_toArray, List.map_cons, List.map_nil]); first | done | rfl | (simp only [List.length_drop, List.length_take]; rfl)) ?_; (with_reducible refine (impl_in.calls a1_0 ((b6z l0 x9_1).f0) ((b6z l0 x9_1).f1) false _ A7.1).mono ?_); rintro e w' ⟨rfl, ⟨nd, rfl⟩⟩; refine ⟨_, rfl, ?_⟩))
       go_roundg k1
       case measure => have := HK1.1; omega
       case rel => exact ⟨(wrap64 (x9_1 + 1)), (by first | rfl | (simp; done) | (simp [*]; done)), H', ⟨by have := HK1.1; omega⟩, ⟨by (with_reducible repeat (first | refine a7z ?_ _ | refine a8z ?_ | refine blk_alloc ?_ _)); refine c8z ?_ NB101_103.1 _; (with_reducible repeat (first | refine a7z ?_ _ | refine a8z ?_ | refine blk_alloc ?_ _)); refine c8z ?_ NB101_103.1 _; (with_reducible repeat (first | refine a7z ?_ _ | refine a8z ?_ | refine blk_alloc ?_ _)); refine c8z ?_ NB101_103.1 _; (with_reducible repeat (first | refine a7z ?_ _ | refine a8z ?_ | refine blk_alloc ?_ _)); refine c8z ?_ NB101_103.1 _; (with_reducible repeat (first | refine a7z ?_ _ | refine a8z ?_ | refine blk_alloc ?_ _)); refine c8z ?_ NB101_103.1 _; (with_reducible repeat (first | refine a7z ?_ _ | refine a8z ?_ | refine blk_alloc ?_ _)); refine c8z ?_ NB101_103.1 _; (with_reducible repeat (first | refine a7z ?_ _ | refine a8z ?_ | refine blk_alloc ?_ _)); refine c8z ?_ NB101_103.1 _; (with_reducible repeat (first | refine a7z ?_ _ | refine a8z ?_ | refine blk_alloc ?_ _)); exact BK101.1⟩, ⟨by repeat (first | (with_reducible first | exact HB.1 | apply a5z | apply a2z | apply a4z | refine a9z ?_ GE101.1 | refine a9z ?_ GE103.1) | exact HB.1)⟩⟩
     ·rw [if_neg c6] at H
      exact absurd H (by simp)
    ·rw [if_neg c5] at H
     exact absurd H (by simp)
   ·rw [if_neg c4] at H
    have c4b0 : decide (x9_1 < (l0.length : Int)) = false := decide_eq_false c4
    clear c4
    obtain rfl := Option.some.inj H
    go_wp2
    go_ret
    exact ⟨by first | rfl | (simp [c2z, c1z] <;> rfl) | (simp [*, c2z, c1z] <;> rfl), by repeat (first | (with_reducible first | exact HB.1 | apply a5z | apply a2z | apply a4z | refine a9z ?_ GE101.1) | exact HB.1)⟩
end Go.Proofs.Ytbhgkpfbggkgdaa.Q

namespace Go.Proofs.Ytbhgkpfbggkgdaa.Q
open Go.RowKit Go.Proofs.YtbhgkpfbggkgdaaW.PrintWords Go.Proofs.YtbhgkpfbggkgdaaW.PrintLast Go.Proofs.YtbhgkpfbggkgdaaW.PrintMore
attribute [local go_sem] e8z e6z f5z f4z e1z e0z e7z e5z
set_option linter.unusedVariables false
set_option linter.unusedSimpArgs false
/-- A state of type 134 at block g of W; what its slices lead to came in by w0. -/
def a6z (w0 W : World) (g : Nat) (f0 : List Int) (f1 : Int) : Prop := ∃ A0 c0, W.heap[g]? = some (.cells #[.slice A0 f0.length c0, .int .i64 f1] 134 (0, 0)) ∧ w0.heap.size ≤ g ∧ Kd.C (Kd.int .u8) w0 A0 f0.length f0
theorem a6z.grown {w0 W : World} {g : Nat} {f0 : List Int} {f1 : Int} {W1 : World} {row : Option Nat} (h : a6z w0 W g f0 f1) (hw : W.grownBy W1 row) (hne : some g ≠ row) : a6z w0 W1 g f0 f1 := by
 obtain ⟨A0, c0, hb, hg, hr0⟩ := h
 exact ⟨A0, c0, g0z hb hw hne, hg, hr0⟩
theorem a6z.below {w0 W : World} {g : Nat} {f0 : List Int} {f1 : Int} {W1 : World} (h : a6z w0 W g f0 f1) (hw : Below W.heap.size W W1) : a6z w0 W1 g f0 f1 := h.grown (grown_of_below hw none) (by simp)
theorem a6z.drewN {w0 W : World} {g : Nat} {f0 : List Int} {f1 : Int} (h : a6z w0 W g f0 f1) (m : Nat) : a6z w0 (W.drewN m) g f0 f1 := h
theorem a6z.drew {w0 W : World} {g : Nat} {f0 : List Int} {f1 : Int} (h : a6z w0 W g f0 f1) : a6z w0 W.drew g f0 f1 := h
theorem a6z.apart {w0 W : World} {g : Nat} {f0 : List Int} {f1 : Int} {α : Type} {d : Kd α} {e : Nat} {base : Nat} {ok : Nat → Prop} {v : Value} {xs : List α} (h : a6z w0 W g f0 f1) (ho : d.R e W base ok v xs) (ht : ∀ q, q ∈ e :: d.E → q ≠ 134) : d.R e W base (fun k => ok k ∧ k ≠ g) v xs := by
 obtain ⟨A0, c0, hb, hg, hr0⟩ := h
 exact Kd.h1z ho hb ht
theorem a6z.own_ne {w0 W : World} {g : Nat} {f0 : List Int} {f1 : Int} {α : Type} {d : Kd α} {e : Nat} {base : Nat} {ok : Nat → Prop} {v : Value} {xs : List α} (h : a6z w0 W g f0 f1) (ho : d.R e W base ok v xs) (ht : e ≠ 134) : some g ≠ v.ownBlock := by
 obtain ⟨A0, c0, hb, hg, hr0⟩ := h
 exact Kd.R_ne ho hb ht
theorem a6z.lt {w0 W : World} {g : Nat} {f0 : List Int} {f1 : Int} (h : a6z w0 W g f0 f1) : g < W.heap.size := by
 obtain ⟨A0, c0, hb, hg, hr0⟩ := h
 exact d9z hb
theorem a6z.ge {w0 W : World} {g : Nat} {f0 : List Int} {f1 : Int} (h : a6z w0 W g f0 f1) : w0.heap.size ≤ g := by
 obtain ⟨A0, c0, hb, hg, hr0⟩ := h
 exact hg
theorem a6z.ne_blk {w0 W : World} {g : Nat} {f0 : List Int} {f1 : Int} {a : Nat} {cs : Array Value} {t : TypeId} {fr : Nat × Nat} (h : a6z w0 W g f0 f1) (hb2 : W.heap[a]? = some (.cells cs t fr)) (ht : t ≠ 134) : g ≠ a := by
 obtain ⟨A0, c0, hb, hg, hr0⟩ := h
 rintro rfl
 rw [hb] at hb2
 injection hb2 with hb2
 injection hb2 with _ ht2
 exact ht ht2.symm
theorem a6z.far {w0 W : World} {g : Nat} {f0 : List Int} {f1 : Int} {p : Addr} (h : a6z w0 W g f0 f1) (hne : g ≠ p.block) (u : Value) : a6z w0 (W.setCell p u) g f0 f1 := by
 obtain ⟨A0, c0, hb, hg, hr0⟩ := h
 exact ⟨A0, c0, c8z hb hne u, hg, hr0⟩
theorem cellS134_0 {W : World} {g : Nat} {A0 : Option Addr} {c0 : Nat} {f0 : List Int} {f1 : Int} (h : W.heap[g]? = some (.cells #[.slice A0 f0.length c0, .int .i64 f1] 134 (0, 0))) : W.cell? ⟨g, 0, none⟩ = some (.slice A0 f0.length c0) := (a0z h 0).trans rfl
theorem cellS134_1 {W : World} {g : Nat} {A0 : Option Addr} {c0 : Nat} {f0 : List Int} {f1 : Int} (h : W.heap[g]? = some (.cells #[.slice A0 f0.length c0, .int .i64 f1] 134 (0, 0))) : W.cell? ⟨g, 1, none⟩ = some (.int .i64 f1) := (a0z h 1).trans rfl
theorem a6z.set_1 {w0 W : World} {g : Nat} {f0 : List Int} {f1 : Int} (h : a6z w0 W g f0 f1) (x : Int) : a6z w0 (W.setCell ⟨g, 1, none⟩ (.int .i64 x)) g f0 x := by
 obtain ⟨A0, c0, hb, hg, hr0⟩ := h
 exact ⟨A0, c0, by simpa using blk_set hb 1 (.int .i64 x), hg, hr0⟩
def spec_l1Rd_pick.j0 : Nat → Int → Bool → List Int → Int → Option (Int × Int)
 | 0, _, _, _, _ => none
 | k + 1, x1, x24, x1000, x1001 => if x24 = true then (some (0, x1001)) else (if (wrap64 (x1001 - 1)) < (x1000.length : Int) then (if 0 ≤ (wrap64 (x1001 - 1)) then (if x1 = 0 then (none) else (some (Int.tmod (wrap64 (rd x1000 (wrap64 (x1001 - 1)))) x1, x1001))) else (none)) else (if (x1000.length : Int) = 0 then (none) else (if 0 ≤ (Int.tmod (wrap64 (x1001 - 1)) (x1000.length : Int)) then (if (Int.tmod (wrap64 (x1001 - 1)) (x1000.length : Int)) < (x1000.length : Int) then (if 0 ≤ (Int.tmod (wrap64 ((wrap64 ((wrap64 (x1001 - 1)) * 7)) + 3)) (x1000.length : Int)) then (if (Int.tmod (wrap64 ((wrap64 ((wrap64 (x1001 - 1)) * 7)) + 3)) (x1000.length : Int)) < (x1000.length : Int) then (if x1 = 0 then (none) else (some (Int.tmod (Go.bits .xor .i64 (wrap64 ((wrap64 ((wrap64 ((wrap64 ((wrap64 (rd x1000 (Int.tmod (wrap64 (x1001 - 1)) (x1000.length : Int)))) * 131)) + (wrap64 ((wrap64 (rd x1000 (Int.tmod (wrap64 ((wrap64 ((wrap64 (x1001 - 1)) * 7)) + 3)) (x1000.length : Int)))) * 1117)))) + (wrap64 ((wrap64 (x1001 - 1)) * 29)))) + (wrap64 ((wrap64 (Int.tdiv (wrap64 (x1001 - 1)) (x1000.length : Int))) * 53)))) (wrap64 (Int.tdiv (wrap64 ((wrap64 ((wrap64 ((wrap64 ((wrap64 (rd x1000 (Int.tmod (wrap64 (x1001 - 1)) (x1000.length : Int)))) * 131)) + (wrap64 ((wrap64 (rd x1000 (Int.tmod (wrap64 ((wrap64 ((wrap64 (x1001 - 1)) * 7)) + 3)) (x1000.length : Int)))) * 1117)))) + (wrap64 ((wrap64 (x1001 - 1)) * 29)))) + (wrap64 ((wrap64 (Int.tdiv (wrap64 (x1001 - 1)) (x1000.length : Int))) * 53)))) 64))) x1, x1001))) else (none)) else (none)) else (none)) else (none))))
def spec_l1Rd_pick.f (k : Nat) (s0_0 : List Int) (s0_1 : Int) (a1 : Int) : Option (Int × Int) := if a1 < 1 then (spec_l1Rd_pick.j0 k a1 true s0_0 (wrap64 (s0_1 + 1))) else (spec_l1Rd_pick.j0 k a1 ((s0_0.length : Int) == 0) s0_0 (wrap64 (s0_1 + 1)))
set_option maxHeartbeats 8000000 in
set_option maxRecDepth 100000 in
theorem spec_l1Rd_pick.calls (k : Nat) (g : Nat) (s0_0 : List Int) (s0_1 : Int) (a1 : Int) (r1 : Int) (r2 : Int) (w0 w : World) (hI : a6z w0 w g s0_0 s0_1) (hB : Below w0.heap.size w0 w) (h : spec_l1Rd_pick.f k s0_0 s0_1 a1 = some (r1, r2)) :
  Calls Try.prog 89 #[.pointer (some ⟨g, 0, none⟩), .int .i64 a1] w fun e w' => e = .returned (.int .i64 r1) ∧ a6z w0 w' g s0_0 r2 ∧ Below w0.heap.size w0 w' ∧ b4z w w' g none := by
 have HI0 := a1z.mk hI
 have HK := a1z.mk (b4z.refl w g none)
 have HL := a1z.mk hB.size
 clear hI
 have HW0 := a1z.mk hB.size
 have HB := a1z.mk hB
 clear hB
 have H : (if a1 < 1 then (spec_l1Rd_pick.j0 k a1 true s0_0 (wrap64 (s0_1 + 1))) else (spec_l1Rd_pick.j0 k a1 ((s0_0.length : Int) == 0) s0_0 (wrap64 (s0_1 + 1)))) = some (r1, r2) := h
 clear h
 have HC3 := a1z.mk H
 clear H
 obtain ⟨ASz4_0, cSz4_0, HGz4, hgz4, HSz4_0⟩ := HI0.1
 have hcz4_0 := cellS134_0 HGz4
 have hcz4_1 := cellS134_1 HGz4
 have hfz4_1 := a3z HGz4 1
 clear HGz4 hgz4
 go_enter Try.func89, Try.ntmps89
 go_upto_region 2 with (fail)
 repeat (go_quiet (fail); go_upto_region 2 with (fail))
 go_cut [24] (fun v24 wc => ∃ (kq : Nat) (x24_2 : Bool), v24 = .bool x24_2 ∧ a1z (spec_l1Rd_pick.j0 kq a1 x24_2 s0_0 (wrap64 (s0_1 + 1)) = some (r1, r2)) ∧ a1z (kq ≤ k) ∧ a1z (a6z w0 wc g s0_0 (wrap64 (s0_1 + 1))) ∧ a1z (b4z w wc g none) ∧ a1z (Below w0.heap.size w0 wc))
 case first =>
  have H := HC3.1
  clear HC3
  by_cases c5 : a1 < 1
  ·rw [if_pos c5] at H
   have c5b0 : decide (a1 < 1) = true := decide_eq_true c5
   clear c5
   (first | rw [c5b0] | (simp only [i64_w, i32_w]; rw [c5b0]) | skip)
   have H' := a1z.mk H
   clear H
   go_wp2
   repeat (go_quiet (fail); try go_wp2)
   go_meet
   case rel => exact ⟨_, (true), (by first | rfl | (simp; done) | (simp [*]; done)), H', ⟨by first | omega | exact Nat.le_refl _⟩, ⟨by repeat (first | (with_reducible first | exact HI0.1 | apply a6z.alloc | apply a6z.drewN | apply a6z.drew | apply a6z.set_1) | exact HI0.1)⟩, ⟨by repeat (first | (with_reducible first | exact HK.1 | apply b4z.set_ | apply c0z | apply keep_drew | apply keep_alloc) | exact HK.1)⟩, ⟨by repeat (first | (with_reducible first | exact HB.1 | apply a5z | apply a2z | apply a4z | refine a9z ?_ (a6z.ge HI0.1)) | exact HB.1)⟩⟩
  ·rw [if_neg c5] at H
   have c5b0 : decide (a1 < 1) = false := decide_eq_false c5
   clear c5
   (first | rw [c5b0] | (simp only [i64_w, i32_w]; rw [c5b0]) | skip)
   have H' := a1z.mk H
   clear H
   obtain ⟨ASz6_0, cSz6_0, HGz6, hgz6, HSz6_0⟩ := HI0.1
   have hcz6_0 := cellS134_0 HGz6
   have hcz6_1 := cellS134_1 HGz6
   have hfz6_1 := a3z HGz6 1
   clear HGz6 hgz6
   go_wp2
   repeat (go_quiet (fail); try go_wp2)
   go_meet
   case rel => exact ⟨_, (((s0_0.length : Int) == 0)), (by first | rfl | (simp; done) | (simp [*]; done)), H', ⟨by first | omega | exact Nat.le_refl _⟩, ⟨by repeat (first | (with_reducible first | exact HI0.1 | apply a6z.alloc | apply a6z.drewN | apply a6z.drew | apply a6z.set_1) | exact HI0.1)⟩, ⟨by repeat (first | (with_reducible first | exact HK.1 | apply b4z.set_ | apply c0z | apply keep_drew | apply keep_alloc) | exact HK.1)⟩, ⟨by repeat (first | (with_reducible first | exact HB.1 | apply a5z | apply a2z | apply a4z | refine a9z ?_ (a6z.ge HI0.1)) | exact HB.1)⟩⟩
 case rest =>
  clear HC3
  try clear p2
  try clear c5
  try clear c5b0
  try clear p6
  try clear hcz4_0
  try clear hcz4_1
  try clear hcz6_0
  try clear hcz6_1
  try clear hfz4_1
  try clear hfz6_1
  obtain ⟨kq, x24_2, rfl, HA, HJ2, HI0, HK, HB⟩ := hcut
  cases kq with
  | zero => exact absurd HA.1 (by simp [spec_l1Rd_pick.j0])
  | succ kj2 =>
   have H := HA.1
   clear HA
   simp only [spec_l1Rd_pick.j0] at H
   by_cases c7 : x24_2 = true
   ·subst c7
    have H1 : (some (0, (wrap64 (s0_1 + 1)))) = some (r1, r2) := by rw [if_pos rfl] at H; exact H
    clear H
    have H := H1
    clear H1
    simp only [Option.some.injEq, Prod.mk.injEq] at H
    obtain ⟨rfl, rfl⟩ := H
    go_wp2
    repeat (go_quiet (fail); try go_wp2)
    go_ret
    exact ⟨by first | rfl | (simp [c2z, c1z] <;> rfl) | (simp [*, c2z, c1z] <;> rfl), by repeat (first | (with_reducible first | exact HI0.1 | apply a6z.alloc | apply a6z.drewN | apply a6z.drew | apply a6z.set_1) | exact HI0.1), by repeat (first | (with_reducible first | exact HB.1 | apply a5z | apply a2z | apply a4z | refine a9z ?_ (a6z.ge HI0.1)) | exact HB.1), by repeat (first | (with_reducible first | exact HK.1 | apply b4z.set_ | apply c0z | apply keep_drew | apply keep_alloc) | exact HK.1)⟩
   ·replace c7 := Bool.eq_false_iff.mpr c7
    subst c7
    have H1 : (if (wrap64 ((wrap64 (s0_1 + 1)) - 1)) < (s0_0.length : Int) then (if 0 ≤ (wrap64 ((wrap64 (s0_1 + 1)) - 1)) then (if a1 = 0 then (none) else (some (Int.tmod (wrap64 (rd s0_0 (wrap64 ((wrap64 (s0_1 + 1)) - 1)))) a1, (wrap64 (s0_1 + 1))))) else (none)) else (if (s0_0.length : Int) = 0 then (none) else (if 0 ≤ (Int.tmod (wrap64 ((wrap64 (s0_1 + 1)) - 1)) (s0_0.length : Int)) then (if (Int.tmod (wrap64 ((wrap64 (s0_1 + 1)) - 1)) (s0_0.length : Int)) < (s0_0.length : Int) then (if 0 ≤ (Int.tmod (wrap64 ((wrap64 ((wrap64 ((wrap64 (s0_1 + 1)) - 1)) * 7)) + 3)) (s0_0.length : Int)) then (if (Int.tmod (wrap64 ((wrap64 ((wrap64 ((wrap64 (s0_1 + 1)) - 1)) * 7)) + 3)) (s0_0.length : Int)) < (s0_0.length : Int) then (if a1 = 0 then (none) else (some (Int.tmod (Go.bits .xor .i64 (wrap64 ((wrap64 ((wrap64 ((wrap64 ((wrap64 (rd s0_0 (Int.tmod (wrap64 ((wrap64 (s0_1 + 1)) - 1)) (s0_0.length : Int)))) * 131)) + (wrap64 ((wrap64 (rd s0_0 (Int.tmod (wrap64 ((wrap64 ((wrap64 ((wrap64 (s0_1 + 1)) - 1)) * 7)) + 3)) (s0_0.length : Int)))) * 1117)))) + (wrap64 ((wrap64 ((wrap64 (s0_1 + 1)) - 1)) * 29)))) + (wrap64 ((wrap64 (Int.tdiv (wrap64 ((wrap64 (s0_1 + 1)) - 1)) (s0_0.length : Int))) * 53)))) (wrap64 (Int.tdiv (wrap64 ((wrap64 ((wrap64 ((wrap64 ((wrap64 (rd s0_0 (Int.tmod (wrap64 ((wrap64 (s0_1 + 1)) - 1)) (s0_0.length : Int)))) * 131)) + (wrap64 ((wrap64 (rd s0_0 (Int.tmod (wrap64 ((wrap64 ((wrap64 ((wrap64 (s0_1 + 1)) - 1)) * 7)) + 3)) (s0_0.length : Int)))) * 1117)))) + (wrap64 ((wrap64 ((wrap64 (s0_1 + 1)) - 1)) * 29)))) + (wrap64 ((wrap64 (Int.tdiv (wrap64 ((wrap64 (s0_1 + 1)) - 1)) (s0_0.length : Int))) * 53)))) 64))) a1, (wrap64 (s0_1 + 1))))) else (none)) else (none)) else (none)) else (none)))) = some (r1, r2) := by rw [if_neg (show ¬ (false = true) by decide)] at H; exact H
    clear H
    have H := H1
    clear H1
    by_cases c8 : (wrap64 ((wrap64 (s0_1 + 1)) - 1)) < (s0_0.length : Int)
    ·rw [if_pos c8] at H
     have c8b0 : decide ((wrap64 ((wrap64 (s0_1 + 1)) - 1)) < (s0_0.length : Int)) = true := decide_eq_true c8
     clear c8
     obtain ⟨ji9, hji9⟩ : ∃ j_ : Int, (wrap64 ((wrap64 (s0_1 + 1)) - 1)) = j_ := ⟨_, rfl⟩
     replace H : (if 0 ≤ (ji9) then (if a1 = 0 then (none) else (some (Int.tmod (wrap64 (rd s0_0 (ji9))) a1, (wrap64 (s0_1 + 1))))) else (none)) = some (r1, r2) := by first | (rw [hji9] at H; exact H) | (simp only [hji9] at H ⊢; exact H)
     (try rw [hji9] at c8b0)
     have hji9w : (IntKind.i64.wrap ((wrap64 (s0_1 + 1)) - 1)) = ji9 := (i64_w _).trans hji9
     by_cases c10 : 0 ≤ (ji9)
     ·rw [if_pos c10] at H
      have c10b0 : decide (0 ≤ (ji9)) = true := decide_eq_true c10
      clear c10
      by_cases c11 : a1 = 0
      ·rw [if_pos c11] at H
       exact absurd H (by simp)
      ·rw [if_neg c11] at H
       have c11b0 : (a1 == 0) = false := beq_eq_false_iff_ne.mpr c11
       have c11b1 : (a1 != 0) = true := bne_iff_ne.mpr c11
       simp only [Option.some.injEq, Prod.mk.injEq] at H
       obtain ⟨rfl, rfl⟩ := H
       obtain ⟨ASz12_0, cSz12_0, HGz12, hgz12, HSz12_0⟩ := HI0.1
       have hcz12_0 := cellS134_0 HGz12
       have hcz12_1 := cellS134_1 HGz12
       have hfz12_1 := a3z HGz12 1
       clear HGz12 hgz12
       have p101 : 0 ≤ ((ji9) : Int) := of_decide_eq_true (by first | (with_reducible assumption) | assumption)
       have q101 : (ji9) < (s0_0.length : Int) := of_decide_eq_true (by first | (with_reducible assumption) | assumption)
       obtain ⟨ad101, e101, hx101_0⟩ := Kd.g9z HSz12_0 (ji9) p101 q101
       cases e101
       replace hx101_0 := pw_cell_below HB.1 hx101_0
       replace p101 := eq_true p101
       replace q101 := eq_true q101
       go_wp2
       repeat (go_quiet (fail); try go_wp2)
       go_ret
       exact ⟨by first | rfl | (simp [c2z, c1z] <;> rfl) | (simp only [← hji9]; first | rfl | (simp [c2z, c1z] <;> rfl)) | (simp [*, c2z, c1z] <;> rfl), by repeat (first | (with_reducible first | exact HI0.1 | apply a6z.alloc | apply a6z.drewN | apply a6z.drew | apply a6z.set_1) | exact HI0.1), by repeat (first | (with_reducible first | exact HB.1 | apply a5z | apply a2z | apply a4z | refine a9z ?_ (a6z.ge HI0.1)) | exact HB.1), by repeat (first | (with_reducible first | exact HK.1 | apply b4z.set_ | apply c0z | apply keep_drew | apply keep_alloc) | exact HK.1)⟩
     ·rw [if_neg c10] at H
      exact absurd H (by simp)
    ·rw [if_neg c8] at H
     have c8b0 : decide ((wrap64 ((wrap64 (s0_1 + 1)) - 1)) < (s0_0.length : Int)) = false := decide_eq_false c8
     clear c8
     by_cases c13 : (s0_0.length : Int) = 0
     ·rw [if_pos c13] at H
      exact absurd H (by simp)
     ·rw [if_neg c13] at H
      have c13b0 : ((s0_0.length : Int) == 0) = false := beq_eq_false_iff_ne.mpr c13
      have c13b1 : ((s0_0.length : Int) != 0) = true := bne_iff_ne.mpr c13
      have c13b2 : ¬ (s0_0 = []) := fun h_ => c13 (by rw [h_]; rfl)
      obtain ⟨ji14, hji14⟩ : ∃ j_ : Int, (Int.tmod (wrap64 ((wrap64 (s0_1 + 1)) - 1)) (s0_0.length : Int)) = j_ := ⟨_, rfl⟩
      replace H : (if 0 ≤ (ji14) then (if (ji14) < (s0_0.length : Int) then (if 0 ≤ (Int.tmod (wrap64 ((wrap64 ((wrap64 ((wrap64 (s0_1 + 1)) - 1)) * 7)) + 3)) (s0_0.length : Int)) then (if (Int.tmod (wrap64 ((wrap64 ((wrap64 ((wrap64 (s0_1 + 1)) - 1)) * 7)) + 3)) (s0_0.length : Int)) < (s0_0.length : Int) then (if a1 = 0 then (none) else (some (Int.tmod (Go.bits .xor .i64 (wrap64 ((wrap64 ((wrap64 ((wrap64 ((wrap64 (rd s0_0 (ji14))) * 131)) + (wrap64 ((wrap64 (rd s0_0 (Int.tmod (wrap64 ((wrap64 ((wrap64 ((wrap64 (s0_1 + 1)) - 1)) * 7)) + 3)) (s0_0.length : Int)))) * 1117)))) + (wrap64 ((wrap64 ((wrap64 (s0_1 + 1)) - 1)) * 29)))) + (wrap64 ((wrap64 (Int.tdiv (wrap64 ((wrap64 (s0_1 + 1)) - 1)) (s0_0.length : Int))) * 53)))) (wrap64 (Int.tdiv (wrap64 ((wrap64 ((wrap64 ((wrap64 ((wrap64 (rd s0_0 (ji14))) * 131)) + (wrap64 ((wrap64 (rd s0_0 (Int.tmod (wrap64 ((wrap64 ((wrap64 ((wrap64 (s0_1 + 1)) - 1)) * 7)) + 3)) (s0_0.length : Int)))) * 1117)))) + (wrap64 ((wrap64 ((wrap64 (s0_1 + 1)) - 1)) * 29)))) + (wrap64 ((wrap64 (Int.tdiv (wrap64 ((wrap64 (s0_1 + 1)) - 1)) (s0_0.length : Int))) * 53)))) 64))) a1, (wrap64 (s0_1 + 1))))) else (none)) else (none)) else (none)) else (none)) = some (r1, r2) := by first | (rw [hji14] at H; exact H) | (simp only [hji14] at H ⊢; exact H)
      by_cases c15 : 0 ≤ (ji14)
      ·rw [if_pos c15] at H
       have c15b0 : decide (0 ≤ (ji14)) = true := decide_eq_true c15
       clear c15
       by_cases c16 : (ji14) < (s0_0.length : Int)
       ·rw [if_pos c16] at H
        have c16b0 : decide ((ji14) < (s0_0.length : Int)) = true := decide_eq_true c16
        clear c16
        obtain ⟨ji17, hji17⟩ : ∃ j_ : Int, (Int.tmod (wrap64 ((wrap64 ((wrap64 ((wrap64 (s0_1 + 1)) - 1)) * 7)) + 3)) (s0_0.length : Int)) = j_ := ⟨_, rfl⟩
        replace H : (if 0 ≤ (ji17) then (if (ji17) < (s0_0.length : Int) then (if a1 = 0 then (none) else (some (Int.tmod (Go.bits .xor .i64 (wrap64 ((wrap64 ((wrap64 ((wrap64 ((wrap64 (rd s0_0 (ji14))) * 131)) + (wrap64 ((wrap64 (rd s0_0 (ji17))) * 1117)))) + (wrap64 ((wrap64 ((wrap64 (s0_1 + 1)) - 1)) * 29)))) + (wrap64 ((wrap64 (Int.tdiv (wrap64 ((wrap64 (s0_1 + 1)) - 1)) (s0_0.length : Int))) * 53)))) (wrap64 (Int.tdiv (wrap64 ((wrap64 ((wrap64 ((wrap64 ((wrap64 (rd s0_0 (ji14))) * 131)) + (wrap64 ((wrap64 (rd s0_0 (ji17))) * 1117)))) + (wrap64 ((wrap64 ((wrap64 (s0_1 + 1)) - 1)) * 29)))) + (wrap64 ((wrap64 (Int.tdiv (wrap64 ((wrap64 (s0_1 + 1)) - 1)) (s0_0.length : Int))) * 53)))) 64))) a1, (wrap64 (s0_1 + 1))))) else (none)) else (none)) = some (r1, r2) := by first | (rw [hji17] at H; exact H) | (simp only [hji17] at H ⊢; exact H)
        by_cases c18 : 0 ≤ (ji17)
        ·rw [if_pos c18] at H
         have c18b0 : decide (0 ≤ (ji17)) = true := decide_eq_true c18
         clear c18
         by_cases c19 : (ji17) < (s0_0.length : Int)
         ·rw [if_pos c19] at H
          have c19b0 : decide ((ji17) < (s0_0.length : Int)) = true := decide_eq_true c19
          clear c19
          by_cases c20 : a1 = 0
          ·rw [if_pos c20] at H
           exact absurd H (by simp)
          ·rw [if_neg c20] at H
           have c20b0 : (a1 == 0) = false := beq_eq_false_iff_ne.mpr c20
           have c20b1 : (a1 != 0) = true := bne_iff_ne.mpr c20
           simp only [Option.some.injEq, Prod.mk.injEq] at H
           obtain ⟨rfl, rfl⟩ := H
           obtain ⟨ASz21_0, cSz21_0, HGz21, hgz21, HSz21_0⟩ := HI0.1
           have hcz21_0 := cellS134_0 HGz21
           have hcz21_1 := cellS134_1 HGz21
           have hfz21_1 := a3z HGz21 1
           clear HGz21 hgz21
           have p102 : 0 ≤ ((ji14) : Int) := of_decide_eq_true (by first | (with_reducible assumption) | assumption)
           have q102 : (ji14) < (s0_0.length : Int) := of_decide_eq_true (by first | (with_reducible assumption) | assumption)
           obtain ⟨ad102, e102, hx102_0⟩ := Kd.g9z HSz21_0 (ji14) p102 q102
           cases e102
           replace hx102_0 := pw_cell_below HB.1 hx102_0
           replace p102 := eq_true p102
           replace q102 := eq_true q102
           have p103 : 0 ≤ ((ji17) : Int) := of_decide_eq_true (by first | (with_reducible assumption) | assumption)
           have q103 : (ji17) < (s0_0.length : Int) := of_decide_eq_true (by first | (with_reducible assumption) | assumption)
           obtain ⟨ad103, e103, hx103_0⟩ := Kd.g9z HSz21_0 (ji17) p103 q103
           obtain rfl : ad102 = ad103 := (by injection e103)
           replace hx103_0 := pw_cell_below HB.1 hx103_0
           replace p103 := eq_true p103
           replace q103 := eq_true q103
           go_wp2
           repeat (go_quiet (fail); try go_wp2)
           go_ret
           exact ⟨by first | rfl | (simp [c2z, c1z] <;> rfl) | (simp only [← hji14, ← hji17]; first | rfl | (simp [c2z, c1z] <;> rfl)) | (simp [*, c2z, c1z] <;> rfl), by repeat (first | (with_reducible first | exact HI0.1 | apply a6z.alloc | apply a6z.drewN | apply a6z.drew | apply a6z.set_1) | exact HI0.1), by repeat (first | (with_reducible first | exact HB.1 | apply a5z | apply a2z | apply a4z | refine a9z ?_ (a6z.ge HI0.1)) | exact HB.1), by repeat (first | (with_reducible first | exact HK.1 | apply b4z.set_ | apply c0z | apply keep_drew | apply keep_alloc) | exact HK.1)⟩
         ·rw [if_neg c19] at H
          exact absurd H (by simp)
        ·rw [if_neg c18] at H
         exact absurd H (by simp)
       ·rw [if_neg c16] at H
        exact absurd H (by simp)
      ·rw [if_neg c15] at H
       exact absurd H (by simp)
end Go.Proofs.Ytbhgkpfbggkgdaa.Q

namespace Go.Proofs.Ytbhgkpfbggkgdaa.Q
open Go.RowKit Go.Proofs.YtbhgkpfbggkgdaaW.PrintWords Go.Proofs.YtbhgkpfbggkgdaaW.PrintLast Go.Proofs.YtbhgkpfbggkgdaaW.PrintMore
attribute [local go_sem] e8z e6z f5z f4z e1z e0z e7z e5z
set_option linter.unusedVariables false
set_option linter.unusedSimpArgs false
def spec_l1Open.f (l0 : List Int) : Option (List Int × Int) := if (l0.length : Int) > 2000 then (if 2000 ≤ (l0.length : Int) then (some (l0.take 2000, 0)) else (none)) else (some (l0, 0))
set_option maxHeartbeats 8000000 in
set_option maxRecDepth 100000 in
theorem spec_l1Open.calls (A0 : Option Addr) (c0 : Nat) (l0 : List Int) (r1 : List Int) (r2 : Int) (w0 w : World) (hB : Below w0.heap.size w0 w) (hr0 : Kd.C (Kd.int .u8) w0 A0 l0.length l0) (hc0 : l0.length ≤ c0) (h : spec_l1Open.f l0 = some (r1, r2)) :
  Calls Try.prog 69 #[.slice A0 l0.length c0] w fun e w' => ∃ g_ : Nat, e = .returned (.pointer (some ⟨g_, 0, none⟩)) ∧ a6z w0 w' g_ r1 r2 ∧ Below w0.heap.size w0 w' ∧ Below w.heap.size w w' := by
 have hu134 := Try.underlying134
 have HR0 := a1z.mk hr0
 have HC0 := a1z.mk hc0
 clear hr0 hc0
 have HBW := a1z.mk (Below.refl w.heap.size w)
 have HW0 := a1z.mk hB.size
 have HB := a1z.mk hB
 clear hB
 have H : (if (l0.length : Int) > 2000 then (if 2000 ≤ (l0.length : Int) then (some (l0.take 2000, 0)) else (none)) else (some (l0, 0))) = some (r1, r2) := h
 clear h
 by_cases c2 : (l0.length : Int) > 2000
 ·rw [if_pos c2] at H
  have c2b0 : decide (2000 < (l0.length : Int)) = true := decide_eq_true c2
  have c2b1 : decide (2000 < l0.length) = true := decide_eq_true (by omega)
  clear c2
  by_cases c3 : 2000 ≤ (l0.length : Int)
  ·rw [if_pos c3] at H
   have c3b0 := eq_true c3
   have c3b1 : decide (2000 ≤ (l0.length : Int)) = true := decide_eq_true c3
   clear c3
   simp only [Option.some.injEq, Prod.mk.injEq] at H
   obtain ⟨rfl, rfl⟩ := H
   obtain ⟨i04, hi04, _, hsz4, _⟩ := info_parts info5
   obtain ⟨hcut4, hA4, hC4⟩ := print_take_of (P := Try.prog) (Value.int .u8) 0 40 5 .i64 Try.underlying40 hi04 hsz4 A0 c0 l0 2000 (by omega) (of_decide_eq_true (by first | (with_reducible assumption) | assumption)) HC0.1
   have HR101 := a1z.mk (Kd.C_of_reads (h1 := fun _ => rfl) (hA4 _ (Kd.reads_of_C HR0.1)))
   have HC101 := a1z.mk hC4
   clear hA4 hC4 hi04 hsz4
   go_enter Try.func69, Try.ntmps69
   go_wp2_with (first | ((with_reducible refine d1z (N := 10) rfl ?_); refine d3z ?hg (N := 10) ?hd (cs := #[.slice A0 (l0.take 2000).length c0, .int .i64 0]) (t := 134) ?hr ?_; (case hd => rfl); (case hg => rfl); (case hr => first | (go_simp; done) | (go_simp; rfl)); intro gb102 hg w5 hbox hb; have n0_ := a1z.mk (b7z HBW.1 hb); have n1_ := a1z.mk (b7z (by repeat (first | (with_reducible first | exact HB.1 | apply a5z | apply a2z | apply a4z) | exact HB.1)) hb); have n2_ := a1z.mk (hbox); have n3_ := a1z.mk ((by rw [hg]; exact (b5z (by repeat (first | (with_reducible first | exact HBW.1 | apply a5z | apply a2z | apply a4z) | exact HBW.1))) : w.heap.size ≤ gb102)); have n4_ := a1z.mk ((Nat.le_trans HW0.1 (by rw [hg]; exact (b5z (by repeat (first | (with_reducible first | exact HBW.1 | apply a5z | apply a2z | apply a4z) | exact HBW.1))) : w.heap.size ≤ gb102) : w0.heap.size ≤ gb102)); clear HBW; clear HB; have HBW := n0_; have HB := n1_; have BK102 := n2_; have GW102 := n3_; have GE102 := n4_; clear n0_ n1_ n2_ n3_ n4_; clear hb hbox hg))
   go_ret
   exact ⟨_, rfl, (show a6z w0 _ gb102 (l0.take 2000) 0 from ⟨_, _, by (with_reducible repeat (first | refine a7z ?_ _ | refine a8z ?_ | refine blk_alloc ?_ _)); exact BK102.1, GE102.1, HR101.1⟩), by repeat (first | (with_reducible first | exact HB.1 | apply a5z | apply a2z | apply a4z | refine a9z ?_ GE102.1) | exact HB.1), by repeat (first | (with_reducible first | exact HBW.1 | apply a5z | apply a2z | apply a4z | refine a9z ?_ GW102.1) | exact HBW.1)⟩
  ·rw [if_neg c3] at H
   exact absurd H (by simp)
 ·rw [if_neg c2] at H
  have c2b0 : decide (2000 < (l0.length : Int)) = false := decide_eq_false c2
  have c2b1 : decide (2000 < l0.length) = false := decide_eq_false (by omega)
  clear c2
  simp only [Option.some.injEq, Prod.mk.injEq] at H
  obtain ⟨rfl, rfl⟩ := H
  go_enter Try.func69, Try.ntmps69
  go_wp2_with (first | ((with_reducible refine d1z (N := 10) rfl ?_); refine d3z ?hg (N := 10) ?hd (cs := #[.slice A0 l0.length c0, .int .i64 0]) (t := 134) ?hr ?_; (case hd => rfl); (case hg => rfl); (case hr => first | (go_simp; done) | (go_simp; rfl)); intro gb103 hg w6 hbox hb; have n0_ := a1z.mk (b7z HBW.1 hb); have n1_ := a1z.mk (b7z (by repeat (first | (with_reducible first | exact HB.1 | apply a5z | apply a2z | apply a4z) | exact HB.1)) hb); have n2_ := a1z.mk (hbox); have n3_ := a1z.mk ((by rw [hg]; exact (b5z (by repeat (first | (with_reducible first | exact HBW.1 | apply a5z | apply a2z | apply a4z) | exact HBW.1))) : w.heap.size ≤ gb103)); have n4_ := a1z.mk ((Nat.le_trans HW0.1 (by rw [hg]; exact (b5z (by repeat (first | (with_reducible first | exact HBW.1 | apply a5z | apply a2z | apply a4z) | exact HBW.1))) : w.heap.size ≤ gb103) : w0.heap.size ≤ gb103)); clear HBW; clear HB; have HBW := n0_; have HB := n1_; have BK103 := n2_; have GW103 := n3_; have GE103 := n4_; clear n0_ n1_ n2_ n3_ n4_; clear hb hbox hg))
  go_ret
  exact ⟨_, rfl, (show a6z w0 _ gb103 l0 0 from ⟨_, _, by (with_reducible repeat (first | refine a7z ?_ _ | refine a8z ?_ | refine blk_alloc ?_ _)); exact BK103.1, GE103.1, HR0.1⟩), by repeat (first | (with_reducible first | exact HB.1 | apply a5z | apply a2z | apply a4z | refine a9z ?_ GE103.1) | exact HB.1), by repeat (first | (with_reducible first | exact HBW.1 | apply a5z | apply a2z | apply a4z | refine a9z ?_ GW103.1) | exact HBW.1)⟩
end Go.Proofs.Ytbhgkpfbggkgdaa.Q

namespace Go.Proofs.Ytbhgkpfbggkgdaa.Q
open Go.RowKit Go.Proofs.YtbhgkpfbggkgdaaW.PrintWords Go.Proofs.YtbhgkpfbggkgdaaW.PrintLast Go.Proofs.YtbhgkpfbggkgdaaW.PrintMore
attribute [local go_sem] e8z e6z f5z f4z e1z e0z e7z e5z
set_option linter.unusedVariables false
set_option linter.unusedSimpArgs false
def spec_l1In.f (a0 : Int) (a1 : Int) (a2 : Int) : Option (Bool) := if a0 ≥ a1 then (some (decide (a0 ≤ a2))) else (some false)
set_option maxHeartbeats 8000000 in
set_option maxRecDepth 100000 in
theorem spec_l1In.calls (a0 : Int) (a1 : Int) (a2 : Int) (r : Bool) (w : World) (h : spec_l1In.f a0 a1 a2 = some r) :
  Calls Try.prog 72 #[.int .i64 a0, .int .i64 a1, .int .i64 a2] w fun e w' => e = .returned (.bool r) ∧ Drawn0 w w' := by
 have H : (if a0 ≥ a1 then (some (decide (a0 ≤ a2))) else (some false)) = some r := h
 clear h
 by_cases c4 : a0 ≥ a1
 ·rw [if_pos c4] at H
  have c4b0 : decide (a1 ≤ a0) = true := decide_eq_true c4
  clear c4
  obtain rfl := Option.some.inj H
  go_enter Try.func72, Try.ntmps72
  go_wp2
  go_ret
  exact ⟨by first | rfl | (simp; done) | (simp [*]; done), by repeat (first | exact Drawn0.refl _ | apply Drawn0.step)⟩
 ·rw [if_neg c4] at H
  have c4b0 : decide (a1 ≤ a0) = false := decide_eq_false c4
  clear c4
  obtain rfl := Option.some.inj H
  go_enter Try.func72, Try.ntmps72
  go_wp2
  go_ret
  exact ⟨by first | rfl | (simp; done) | (simp [*]; done), by repeat (first | exact Drawn0.refl _ | apply Drawn0.step)⟩
end Go.Proofs.Ytbhgkpfbggkgdaa.Q

namespace Go.Proofs.Ytbhgkpfbggkgdaa.Q
open Go.RowKit Go.Proofs.YtbhgkpfbggkgdaaW.PrintWords Go.Proofs.YtbhgkpfbggkgdaaW.PrintLast Go.Proofs.YtbhgkpfbggkgdaaW.PrintMore
attribute [local go_sem] e8z e6z f5z f4z e1z e0z e7z e5z
set_option linter.unusedVariables false
set_option linter.unusedSimpArgs false
def spec_l1Addr.f (a0 : Int) : Option (Bool) := (spec_l1In.f a0 0 4294967295).bind fun t101 => (some t101)
set_option maxHeartbeats 8000000 in
set_option maxRecDepth 100000 in
theorem spec_l1Addr.calls (a0 : Int) (r : Bool) (w : World) (h : spec_l1Addr.f a0 = some r) :
  Calls Try.prog 71 #[.int .i64 a0] w fun e w' => e = .returned (.bool r) ∧ Drawn0 w w' := by
 have H : ((spec_l1In.f a0 0 4294967295).bind fun t101 => (some t101)) = some r := h
 clear h
 replace H := Option.bind_eq_some_iff.mp H
 obtain ⟨t101, A20, H⟩ := H
 replace H : (some t101) = some r := H
 have A2 := a1z.mk A20
 clear A20
 obtain rfl := Option.some.inj H
 go_enter Try.func71, Try.ntmps71
 go_wp2_with (first | ((with_reducible refine c5z (f := 72) rfl ?_); refine d5z (some 4) rfl rfl Try.func72 (by kernel_rfl) rfl #[.int .i64 a0, .int .i64 0, .int .i64 4294967295] rfl (by (try simp only [List.map_toArray, List.map_cons, List.map_nil]); first | done | rfl | (simp only [List.length_drop, List.length_take]; rfl)) ?_; (with_reducible refine (spec_l1In.calls a0 0 4294967295 t101 _ A2.1).mono ?_); rintro e w' ⟨rfl, ⟨nd, rfl⟩⟩; refine ⟨_, rfl, ?_⟩))
 go_ret
 exact ⟨by first | rfl | (simp; done) | (simp [*]; done), by repeat (first | exact Drawn0.refl _ | apply Drawn0.step)⟩
end Go.Proofs.Ytbhgkpfbggkgdaa.Q

namespace Go.Proofs.Ytbhgkpfbggkgdaa.Q
open Go.RowKit Go.Proofs.YtbhgkpfbggkgdaaW.PrintWords Go.Proofs.YtbhgkpfbggkgdaaW.PrintLast Go.Proofs.YtbhgkpfbggkgdaaW.PrintMore
attribute [local go_sem] e8z e6z f5z f4z e1z e0z e7z e5z
set_option linter.unusedVariables false
set_option linter.unusedSimpArgs false
def spec_l1Two.l0 : Nat → Int → Int → Option (Int)
 | 0, _, _ => none
 | k + 1, x0, x3 => if x0 > 0 then (spec_l1Two.l0 k (wrap64 (x0 - 1)) (wrap64 (x3 * 2))) else (some x3)
def spec_l1Two.f (k : Nat) (a0 : Int) : Option (Int) := spec_l1Two.l0 k a0 1
set_option maxHeartbeats 8000000 in
set_option maxRecDepth 100000 in
theorem spec_l1Two.calls (k : Nat) (a0 : Int) (r : Int) (w : World) (h : spec_l1Two.f k a0 = some r) :
  Calls Try.prog 104 #[.int .i64 a0] w fun e w' => e = .returned (.int .i64 r) ∧ Drawn0 w w' := by
 have H : (spec_l1Two.l0 k a0 1) = some r := h
 clear h
 have H' := a1z.mk H
 clear H
 go_enter Try.func104, Try.ntmps104
 go_wp2
 go_loopg [0, 3] k (fun kq v0 v3 w' => ∃ (x0_1 : Int) (x3_1 : Int), v0 = .int .i64 x0_1 ∧ v3 = .int .i64 x3_1 ∧ a1z (spec_l1Two.l0 kq x0_1 x3_1 = some r) ∧ a1z (kq ≤ k) ∧ Drawn0 w w')
 case atStart => exact ⟨(a0), (1), (by first | rfl | (simp; done) | (simp [*]; done)), (by first | rfl | (simp; done) | (simp [*]; done)), H', ⟨Nat.le_refl _⟩, by repeat (first | exact Drawn0.refl _ | apply Drawn0.step)⟩
 case round =>
  clear H'
  try clear c1
  obtain ⟨x0_1, x3_1, rfl, rfl, HA, HK1, ⟨m1, rfl⟩⟩ := hrel
  cases gk with
  | zero => exact absurd HA.1 (by simp [spec_l1Two.l0])
  | succ k1 =>
   have H := HA.1
   clear HA
   simp only [spec_l1Two.l0] at H
   by_cases c2 : x0_1 > 0
   ·rw [if_pos c2] at H
    have c2b0 : decide (0 < x0_1) = true := decide_eq_true c2
    clear c2
    have H' := a1z.mk H
    clear H
    go_wp2
    go_roundg k1
    case measure => have := HK1.1; omega
    case rel => exact ⟨(wrap64 (x0_1 - 1)), (wrap64 (x3_1 * 2)), (by first | rfl | (simp; done) | (simp [*]; done)), (by first | rfl | (simp; done) | (simp [*]; done)), H', ⟨by have := HK1.1; omega⟩, by repeat (first | exact Drawn0.refl _ | apply Drawn0.step)⟩
   ·rw [if_neg c2] at H
    have c2b0 : decide (0 < x0_1) = false := decide_eq_false c2
    clear c2
    obtain rfl := Option.some.inj H
    go_wp2
    go_ret
    exact ⟨by first | rfl | (simp; done) | (simp [*]; done), by repeat (first | exact Drawn0.refl _ | apply Drawn0.step)⟩
end Go.Proofs.Ytbhgkpfbggkgdaa.Q

namespace Go.Proofs.Ytbhgkpfbggkgdaa.Q
open Go.RowKit Go.Proofs.YtbhgkpfbggkgdaaW.PrintWords Go.Proofs.YtbhgkpfbggkgdaaW.PrintLast Go.Proofs.YtbhgkpfbggkgdaaW.PrintMore
attribute [local go_sem] e8z e6z f5z f4z e1z e0z e7z e5z
set_option linter.unusedVariables false
set_option linter.unusedSimpArgs false
def spec_l1Size.f (k : Nat) (a0 : Int) : Option (Int) := (spec_l1Two.f k (wrap64 (32 - a0))).bind fun t101 => (some t101)
set_option maxHeartbeats 8000000 in
set_option maxRecDepth 100000 in
theorem spec_l1Size.calls (k : Nat) (a0 : Int) (r : Int) (w : World) (h : spec_l1Size.f k a0 = some r) :
  Calls Try.prog 73 #[.int .i64 a0] w fun e w' => e = .returned (.int .i64 r) ∧ Drawn0 w w' := by
 have H : ((spec_l1Two.f k (wrap64 (32 - a0))).bind fun t101 => (some t101)) = some r := h
 clear h
 replace H := Option.bind_eq_some_iff.mp H
 obtain ⟨t101, A20, H⟩ := H
 replace H : (some t101) = some r := H
 have A2 := a1z.mk A20
 clear A20
 obtain rfl := Option.some.inj H
 go_enter Try.func73, Try.ntmps73
 go_wp2_with (first | ((with_reducible refine c5z (f := 104) rfl ?_); refine d5z (some 5) rfl rfl Try.func104 (by kernel_rfl) rfl #[.int .i64 (wrap64 (32 - a0))] rfl (by (try simp only [List.map_toArray, List.map_cons, List.map_nil]); first | done | rfl | (simp only [List.length_drop, List.length_take]; rfl)) ?_; (with_reducible refine (spec_l1Two.calls k (wrap64 (32 - a0)) t101 _ A2.1).mono ?_); rintro e w' ⟨rfl, ⟨nd, rfl⟩⟩; refine ⟨_, rfl, ?_⟩))
 go_ret
 exact ⟨by first | rfl | (simp; done) | (simp [*]; done), by repeat (first | exact Drawn0.refl _ | apply Drawn0.step)⟩
end Go.Proofs.Ytbhgkpfbggkgdaa.Q

namespace Go.Proofs.Ytbhgkpfbggkgdaa.Q
open Go.RowKit Go.Proofs.YtbhgkpfbggkgdaaW.PrintWords Go.Proofs.YtbhgkpfbggkgdaaW.PrintLast Go.Proofs.YtbhgkpfbggkgdaaW.PrintMore
attribute [local go_sem] e8z e6z f5z f4z e1z e0z e7z e5z
set_option linter.unusedVariables false
set_option linter.unusedSimpArgs false
def spec_BlockOk.f (k : Nat) (a0_0 : Int) (a0_1 : Int) : Option (Bool) := (spec_l1Addr.f a0_0).bind fun t102 => (if t102 = true then ((spec_l1In.f a0_1 0 32).bind fun t103 => (if t103 = true then ((spec_l1Size.f k a0_1).bind fun t104 => (if t104 = 0 then (none) else (some ((Int.tmod a0_0 t104) == 0)))) else (some false))) else (some false))
set_option maxHeartbeats 8000000 in
set_option maxRecDepth 100000 in
theorem spec_BlockOk.calls (k : Nat) (a0_0 : Int) (a0_1 : Int) (r : Bool) (w : World) (h : spec_BlockOk.f k a0_0 a0_1 = some r) :
  Calls Try.prog 27 #[.agg #[.int .i64 a0_0, .int .i64 a0_1]] w fun e w' => e = .returned (.bool r) ∧ Below w.heap.size w w' := by
 have hu24 := Try.underlying24
 have HB := a1z.mk (Below.refl w.heap.size w)
 have H : ((spec_l1Addr.f a0_0).bind fun t102 => (if t102 = true then ((spec_l1In.f a0_1 0 32).bind fun t103 => (if t103 = true then ((spec_l1Size.f k a0_1).bind fun t104 => (if t104 = 0 then (none) else (some ((Int.tmod a0_0 t104) == 0)))) else (some false))) else (some false))) = some r := h
 clear h
 replace H := Option.bind_eq_some_iff.mp H
 obtain ⟨t102, A20, H⟩ := H
 replace H : (if t102 = true then ((spec_l1In.f a0_1 0 32).bind fun t103 => (if t103 = true then ((spec_l1Size.f k a0_1).bind fun t104 => (if t104 = 0 then (none) else (some ((Int.tmod a0_0 t104) == 0)))) else (some false))) else (some false)) = some r := H
 have A2 := a1z.mk A20
 clear A20
 by_cases c3 : t102 = true
 ·subst c3
  have H1 : ((spec_l1In.f a0_1 0 32).bind fun t103 => (if t103 = true then ((spec_l1Size.f k a0_1).bind fun t104 => (if t104 = 0 then (none) else (some ((Int.tmod a0_0 t104) == 0)))) else (some false))) = some r := by rw [if_pos rfl] at H; exact H
  clear H
  have H := H1
  clear H1
  replace H := Option.bind_eq_some_iff.mp H
  obtain ⟨t103, A40, H⟩ := H
  replace H : (if t103 = true then ((spec_l1Size.f k a0_1).bind fun t104 => (if t104 = 0 then (none) else (some ((Int.tmod a0_0 t104) == 0)))) else (some false)) = some r := H
  have A4 := a1z.mk A40
  clear A40
  by_cases c5 : t103 = true
  ·subst c5
   have H1 : ((spec_l1Size.f k a0_1).bind fun t104 => (if t104 = 0 then (none) else (some ((Int.tmod a0_0 t104) == 0)))) = some r := by rw [if_pos rfl] at H; exact H
   clear H
   have H := H1
   clear H1
   replace H := Option.bind_eq_some_iff.mp H
   obtain ⟨t104, A60, H⟩ := H
   replace H : (if t104 = 0 then (none) else (some ((Int.tmod a0_0 t104) == 0))) = some r := H
   have A6 := a1z.mk A60
   clear A60
   by_cases c7 : t104 = 0
   ·rw [if_pos c7] at H
    exact absurd H (by simp)
   ·rw [if_neg c7] at H
    have c7b0 : (t104 == 0) = false := beq_eq_false_iff_ne.mpr c7
    have c7b1 : (t104 != 0) = true := bne_iff_ne.mpr c7
    obtain rfl := Option.some.inj H
    go_enter Try.func27, Try.ntmps27
    go_wp2_with (first | ((with_reducible refine d1z (N := 1) rfl ?_); refine d3z ?hg (N := 1) ?hd (cs := #[.int .i64 a0_0, .int .i64 a0_1]) (t := 24) ?hr ?_; (case hd => rfl); (case hg => rfl); (case hr => first | (go_simp; done) | (go_simp; rfl)); intro gb101 hg w8 hbox hb; have n0_ := a1z.mk (b7z (by repeat (first | (with_reducible first | exact HB.1 | apply a5z | apply a2z | apply a4z) | exact HB.1)) hb); have n1_ := a1z.mk (hbox); have n2_ := a1z.mk ((by rw [hg]; exact (b5z (by repeat (first | (with_reducible first | exact HB.1 | apply a5z | apply a2z | apply a4z) | exact HB.1))) : w.heap.size ≤ gb101)); have n3_ := a1z.mk ((by rw [hg]; exact (b5z (by repeat (first | (with_reducible first | exact HB.1 | apply a5z | apply a2z | apply a4z) | exact HB.1))) : w.heap.size ≤ gb101)); clear HB; have HB := n0_; have BK101 := n1_; have GW101 := n2_; have GE101 := n3_; clear n0_ n1_ n2_ n3_; clear hb hbox hg; have hcz9_0 : w8.cell? ⟨gb101, 0, none⟩ = some (.int .i64 a0_0) := (a0z BK101.1 0).trans rfl; have hcz9_1 : w8.cell? ⟨gb101, 1, none⟩ = some (.int .i64 a0_1) := (a0z BK101.1 1).trans rfl; have hfz9_0 := a3z BK101.1 0; have hfz9_1 := a3z BK101.1 1) | (go_at_call 71; (with_reducible refine (spec_l1Addr.calls a0_0 true _ A2.1).mono ?_); rintro e w' ⟨rfl, ⟨nd, rfl⟩⟩; (try first | exact ⟨rfl, _, World.drewN_drewN _ _ _⟩ | exact ⟨rfl, _, Eq.trans (World.drewN_drewN _ _ _) (congrArg (World.drewN _) (Nat.add_assoc _ _ _))⟩)) | (go_at_call 72; (with_reducible refine (spec_l1In.calls a0_1 0 32 true _ A4.1).mono ?_); rintro e w' ⟨rfl, ⟨nd, rfl⟩⟩; (try first | exact ⟨rfl, _, World.drewN_drewN _ _ _⟩ | exact ⟨rfl, _, Eq.trans (World.drewN_drewN _ _ _) (congrArg (World.drewN _) (Nat.add_assoc _ _ _))⟩)) | (go_at_call 73; (with_reducible refine (spec_l1Size.calls k a0_1 t104 _ A6.1).mono ?_); rintro e w' ⟨rfl, ⟨nd, rfl⟩⟩; (try first | exact ⟨rfl, _, World.drewN_drewN _ _ _⟩ | exact ⟨rfl, _, Eq.trans (World.drewN_drewN _ _ _) (congrArg (World.drewN _) (Nat.add_assoc _ _ _))⟩)))
    repeat (go_quiet (first | ((with_reducible refine d1z (N := 1) rfl ?_); refine d3z ?hg (N := 1) ?hd (cs := #[.int .i64 a0_0, .int .i64 a0_1]) (t := 24) ?hr ?_; (case hd => rfl); (case hg => rfl); (case hr => first | (go_simp; done) | (go_simp; rfl)); intro gb101 hg w8 hbox hb; have n0_ := a1z.mk (b7z (by repeat (first | (with_reducible first | exact HB.1 | apply a5z | apply a2z | apply a4z) | exact HB.1)) hb); have n1_ := a1z.mk (hbox); have n2_ := a1z.mk ((by rw [hg]; exact (b5z (by repeat (first | (with_reducible first | exact HB.1 | apply a5z | apply a2z | apply a4z) | exact HB.1))) : w.heap.size ≤ gb101)); have n3_ := a1z.mk ((by rw [hg]; exact (b5z (by repeat (first | (with_reducible first | exact HB.1 | apply a5z | apply a2z | apply a4z) | exact HB.1))) : w.heap.size ≤ gb101)); clear HB; have HB := n0_; have BK101 := n1_; have GW101 := n2_; have GE101 := n3_; clear n0_ n1_ n2_ n3_; clear hb hbox hg; have hcz9_0 : w8.cell? ⟨gb101, 0, none⟩ = some (.int .i64 a0_0) := (a0z BK101.1 0).trans rfl; have hcz9_1 : w8.cell? ⟨gb101, 1, none⟩ = some (.int .i64 a0_1) := (a0z BK101.1 1).trans rfl; have hfz9_0 := a3z BK101.1 0; have hfz9_1 := a3z BK101.1 1) | (go_at_call 71; (with_reducible refine (spec_l1Addr.calls a0_0 true _ A2.1).mono ?_); rintro e w' ⟨rfl, ⟨nd, rfl⟩⟩; (try first | exact ⟨rfl, _, World.drewN_drewN _ _ _⟩ | exact ⟨rfl, _, Eq.trans (World.drewN_drewN _ _ _) (congrArg (World.drewN _) (Nat.add_assoc _ _ _))⟩)) | (go_at_call 72; (with_reducible refine (spec_l1In.calls a0_1 0 32 true _ A4.1).mono ?_); rintro e w' ⟨rfl, ⟨nd, rfl⟩⟩; (try first | exact ⟨rfl, _, World.drewN_drewN _ _ _⟩ | exact ⟨rfl, _, Eq.trans (World.drewN_drewN _ _ _) (congrArg (World.drewN _) (Nat.add_assoc _ _ _))⟩)) | (go_at_call 73; (with_reducible refine (spec_l1Size.calls k a0_1 t104 _ A6.1).mono ?_); rintro e w' ⟨rfl, ⟨nd, rfl⟩⟩; (try first | exact ⟨rfl, _, World.drewN_drewN _ _ _⟩ | exact ⟨rfl, _, Eq.trans (World.drewN_drewN _ _ _) (congrArg (World.drewN _) (Nat.add_assoc _ _ _))⟩))); try go_wp2_with (first | ((with_reducible refine d1z (N := 1) rfl ?_); refine d3z ?hg (N := 1) ?hd (cs := #[.int .i64 a0_0, .int .i64 a0_1]) (t := 24) ?hr ?_; (case hd => rfl); (case hg => rfl); (case hr => first | (go_simp; done) | (go_simp; rfl)); intro gb101 hg w8 hbox hb; have n0_ := a1z.mk (b7z (by repeat (first | (with_reducible first | exact HB.1 | apply a5z | apply a2z | apply a4z) | exact HB.1)) hb); have n1_ := a1z.mk (hbox); have n2_ := a1z.mk ((by rw [hg]; exact (b5z (by repeat (first | (with_reducible first | exact HB.1 | apply a5z | apply a2z | apply a4z) | exact HB.1))) : w.heap.size ≤ gb101)); have n3_ := a1z.mk ((by rw [hg]; exact (b5z (by repeat (first | (with_reducible first | exact HB.1 | apply a5z | apply a2z | apply a4z) | exact HB.1))) : w.heap.size ≤ gb101)); clear HB; have HB := n0_; have BK101 := n1_; have GW101 := n2_; have GE101 := n3_; clear n0_ n1_ n2_ n3_; clear hb hbox hg; have hcz9_0 : w8.cell? ⟨gb101, 0, none⟩ = some (.int .i64 a0_0) := (a0z BK101.1 0).trans rfl; have hcz9_1 : w8.cell? ⟨gb101, 1, none⟩ = some (.int .i64 a0_1) := (a0z BK101.1 1).trans rfl; have hfz9_0 := a3z BK101.1 0; have hfz9_1 := a3z BK101.1 1) | (go_at_call 71; (with_reducible refine (spec_l1Addr.calls a0_0 true _ A2.1).mono ?_); rintro e w' ⟨rfl, ⟨nd, rfl⟩⟩; (try first | exact ⟨rfl, _, World.drewN_drewN _ _ _⟩ | exact ⟨rfl, _, Eq.trans (World.drewN_drewN _ _ _) (congrArg (World.drewN _) (Nat.add_assoc _ _ _))⟩)) | (go_at_call 72; (with_reducible refine (spec_l1In.calls a0_1 0 32 true _ A4.1).mono ?_); rintro e w' ⟨rfl, ⟨nd, rfl⟩⟩; (try first | exact ⟨rfl, _, World.drewN_drewN _ _ _⟩ | exact ⟨rfl, _, Eq.trans (World.drewN_drewN _ _ _) (congrArg (World.drewN _) (Nat.add_assoc _ _ _))⟩)) | (go_at_call 73; (with_reducible refine (spec_l1Size.calls k a0_1 t104 _ A6.1).mono ?_); rintro e w' ⟨rfl, ⟨nd, rfl⟩⟩; (try first | exact ⟨rfl, _, World.drewN_drewN _ _ _⟩ | exact ⟨rfl, _, Eq.trans (World.drewN_drewN _ _ _) (congrArg (World.drewN _) (Nat.add_assoc _ _ _))⟩))))
    go_ret
    exact ⟨by first | rfl | (simp [c2z, c1z] <;> rfl) | (simp [*, c2z, c1z] <;> rfl), by repeat (first | (with_reducible first | exact HB.1 | apply a5z | apply a2z | apply a4z | refine a9z ?_ GE101.1) | exact HB.1)⟩
  ·replace c5 := Bool.eq_false_iff.mpr c5
   subst c5
   have H1 : (some false) = some r := by rw [if_neg (show ¬ (false = true) by decide)] at H; exact H
   clear H
   have H := H1
   clear H1
   obtain rfl := Option.some.inj H
   go_enter Try.func27, Try.ntmps27
   go_wp2_with (first | ((with_reducible refine d1z (N := 1) rfl ?_); refine d3z ?hg (N := 1) ?hd (cs := #[.int .i64 a0_0, .int .i64 a0_1]) (t := 24) ?hr ?_; (case hd => rfl); (case hg => rfl); (case hr => first | (go_simp; done) | (go_simp; rfl)); intro gb101 hg w10 hbox hb; have n0_ := a1z.mk (b7z (by repeat (first | (with_reducible first | exact HB.1 | apply a5z | apply a2z | apply a4z) | exact HB.1)) hb); have n1_ := a1z.mk (hbox); have n2_ := a1z.mk ((by rw [hg]; exact (b5z (by repeat (first | (with_reducible first | exact HB.1 | apply a5z | apply a2z | apply a4z) | exact HB.1))) : w.heap.size ≤ gb101)); have n3_ := a1z.mk ((by rw [hg]; exact (b5z (by repeat (first | (with_reducible first | exact HB.1 | apply a5z | apply a2z | apply a4z) | exact HB.1))) : w.heap.size ≤ gb101)); clear HB; have HB := n0_; have BK101 := n1_; have GW101 := n2_; have GE101 := n3_; clear n0_ n1_ n2_ n3_; clear hb hbox hg; have hcz11_0 : w10.cell? ⟨gb101, 0, none⟩ = some (.int .i64 a0_0) := (a0z BK101.1 0).trans rfl; have hcz11_1 : w10.cell? ⟨gb101, 1, none⟩ = some (.int .i64 a0_1) := (a0z BK101.1 1).trans rfl; have hfz11_0 := a3z BK101.1 0; have hfz11_1 := a3z BK101.1 1) | (go_at_call 71; (with_reducible refine (spec_l1Addr.calls a0_0 true _ A2.1).mono ?_); rintro e w' ⟨rfl, ⟨nd, rfl⟩⟩; (try first | exact ⟨rfl, _, World.drewN_drewN _ _ _⟩ | exact ⟨rfl, _, Eq.trans (World.drewN_drewN _ _ _) (congrArg (World.drewN _) (Nat.add_assoc _ _ _))⟩)) | (go_at_call 72; (with_reducible refine (spec_l1In.calls a0_1 0 32 false _ A4.1).mono ?_); rintro e w' ⟨rfl, ⟨nd, rfl⟩⟩; (try first | exact ⟨rfl, _, World.drewN_drewN _ _ _⟩ | exact ⟨rfl, _, Eq.trans (World.drewN_drewN _ _ _) (congrArg (World.drewN _) (Nat.add_assoc _ _ _))⟩)))
   repeat (go_quiet (first | ((with_reducible refine d1z (N := 1) rfl ?_); refine d3z ?hg (N := 1) ?hd (cs := #[.int .i64 a0_0, .int .i64 a0_1]) (t := 24) ?hr ?_; (case hd => rfl); (case hg => rfl); (case hr => first | (go_simp; done) | (go_simp; rfl)); intro gb101 hg w10 hbox hb; have n0_ := a1z.mk (b7z (by repeat (first | (with_reducible first | exact HB.1 | apply a5z | apply a2z | apply a4z) | exact HB.1)) hb); have n1_ := a1z.mk (hbox); have n2_ := a1z.mk ((by rw [hg]; exact (b5z (by repeat (first | (with_reducible first | exact HB.1 | apply a5z | apply a2z | apply a4z) | exact HB.1))) : w.heap.size ≤ gb101)); have n3_ := a1z.mk ((by rw [hg]; exact (b5z (by repeat (first | (with_reducible first | exact HB.1 | apply a5z | apply a2z | apply a4z) | exact HB.1))) : w.heap.size ≤ gb101)); clear HB; have HB := n0_; have BK101 := n1_; have GW101 := n2_; have GE101 := n3_; clear n0_ n1_ n2_ n3_; clear hb hbox hg; have hcz11_0 : w10.cell? ⟨gb101, 0, none⟩ = some (.int .i64 a0_0) := (a0z BK101.1 0).trans rfl; have hcz11_1 : w10.cell? ⟨gb101, 1, none⟩ = some (.int .i64 a0_1) := (a0z BK101.1 1).trans rfl; have hfz11_0 := a3z BK101.1 0; have hfz11_1 := a3z BK101.1 1) | (go_at_call 71; (with_reducible refine (spec_l1Addr.calls a0_0 true _ A2.1).mono ?_); rintro e w' ⟨rfl, ⟨nd, rfl⟩⟩; (try first | exact ⟨rfl, _, World.drewN_drewN _ _ _⟩ | exact ⟨rfl, _, Eq.trans (World.drewN_drewN _ _ _) (congrArg (World.drewN _) (Nat.add_assoc _ _ _))⟩)) | (go_at_call 72; (with_reducible refine (spec_l1In.calls a0_1 0 32 false _ A4.1).mono ?_); rintro e w' ⟨rfl, ⟨nd, rfl⟩⟩; (try first | exact ⟨rfl, _, World.drewN_drewN _ _ _⟩ | exact ⟨rfl, _, Eq.trans (World.drewN_drewN _ _ _) (congrArg (World.drewN _) (Nat.add_assoc _ _ _))⟩))); try go_wp2_with (first | ((with_reducible refine d1z (N := 1) rfl ?_); refine d3z ?hg (N := 1) ?hd (cs := #[.int .i64 a0_0, .int .i64 a0_1]) (t := 24) ?hr ?_; (case hd => rfl); (case hg => rfl); (case hr => first | (go_simp; done) | (go_simp; rfl)); intro gb101 hg w10 hbox hb; have n0_ := a1z.mk (b7z (by repeat (first | (with_reducible first | exact HB.1 | apply a5z | apply a2z | apply a4z) | exact HB.1)) hb); have n1_ := a1z.mk (hbox); have n2_ := a1z.mk ((by rw [hg]; exact (b5z (by repeat (first | (with_reducible first | exact HB.1 | apply a5z | apply a2z | apply a4z) | exact HB.1))) : w.heap.size ≤ gb101)); have n3_ := a1z.mk ((by rw [hg]; exact (b5z (by repeat (first | (with_reducible first | exact HB.1 | apply a5z | apply a2z | apply a4z) | exact HB.1))) : w.heap.size ≤ gb101)); clear HB; have HB := n0_; have BK101 := n1_; have GW101 := n2_; have GE101 := n3_; clear n0_ n1_ n2_ n3_; clear hb hbox hg; have hcz11_0 : w10.cell? ⟨gb101, 0, none⟩ = some (.int .i64 a0_0) := (a0z BK101.1 0).trans rfl; have hcz11_1 : w10.cell? ⟨gb101, 1, none⟩ = some (.int .i64 a0_1) := (a0z BK101.1 1).trans rfl; have hfz11_0 := a3z BK101.1 0; have hfz11_1 := a3z BK101.1 1) | (go_at_call 71; (with_reducible refine (spec_l1Addr.calls a0_0 true _ A2.1).mono ?_); rintro e w' ⟨rfl, ⟨nd, rfl⟩⟩; (try first | exact ⟨rfl, _, World.drewN_drewN _ _ _⟩ | exact ⟨rfl, _, Eq.trans (World.drewN_drewN _ _ _) (congrArg (World.drewN _) (Nat.add_assoc _ _ _))⟩)) | (go_at_call 72; (with_reducible refine (spec_l1In.calls a0_1 0 32 false _ A4.1).mono ?_); rintro e w' ⟨rfl, ⟨nd, rfl⟩⟩; (try first | exact ⟨rfl, _, World.drewN_drewN _ _ _⟩ | exact ⟨rfl, _, Eq.trans (World.drewN_drewN _ _ _) (congrArg (World.drewN _) (Nat.add_assoc _ _ _))⟩))))
   go_ret
   exact ⟨by first | rfl | (simp [c2z, c1z] <;> rfl) | (simp [*, c2z, c1z] <;> rfl), by repeat (first | (with_reducible first | exact HB.1 | apply a5z | apply a2z | apply a4z | refine a9z ?_ GE101.1) | exact HB.1)⟩
 ·replace c3 := Bool.eq_false_iff.mpr c3
  subst c3
  have H1 : (some false) = some r := by rw [if_neg (show ¬ (false = true) by decide)] at H; exact H
  clear H
  have H := H1
  clear H1
  obtain rfl := Option.some.inj H
  go_enter Try.func27, Try.ntmps27
  go_wp2_with (first | ((with_reducible refine d1z (N := 1) rfl ?_); refine d3z ?hg (N := 1) ?hd (cs := #[.int .i64 a0_0, .int .i64 a0_1]) (t := 24) ?hr ?_; (case hd => rfl); (case hg => rfl); (case hr => first | (go_simp; done) | (go_simp; rfl)); intro gb101 hg w12 hbox hb; have n0_ := a1z.mk (b7z (by repeat (first | (with_reducible first | exact HB.1 | apply a5z | apply a2z | apply a4z) | exact HB.1)) hb); have n1_ := a1z.mk (hbox); have n2_ := a1z.mk ((by rw [hg]; exact (b5z (by repeat (first | (with_reducible first | exact HB.1 | apply a5z | apply a2z | apply a4z) | exact HB.1))) : w.heap.size ≤ gb101)); have n3_ := a1z.mk ((by rw [hg]; exact (b5z (by repeat (first | (with_reducible first | exact HB.1 | apply a5z | apply a2z | apply a4z) | exact HB.1))) : w.heap.size ≤ gb101)); clear HB; have HB := n0_; have BK101 := n1_; have GW101 := n2_; have GE101 := n3_; clear n0_ n1_ n2_ n3_; clear hb hbox hg; have hcz13_0 : w12.cell? ⟨gb101, 0, none⟩ = some (.int .i64 a0_0) := (a0z BK101.1 0).trans rfl; have hcz13_1 : w12.cell? ⟨gb101, 1, none⟩ = some (.int .i64 a0_1) := (a0z BK101.1 1).trans rfl; have hfz13_0 := a3z BK101.1 0; have hfz13_1 := a3z BK101.1 1) | (go_at_call 71; (with_reducible refine (spec_l1Addr.calls a0_0 false _ A2.1).mono ?_); rintro e w' ⟨rfl, ⟨nd, rfl⟩⟩; (try first | exact ⟨rfl, _, World.drewN_drewN _ _ _⟩ | exact ⟨rfl, _, Eq.trans (World.drewN_drewN _ _ _) (congrArg (World.drewN _) (Nat.add_assoc _ _ _))⟩)))
  repeat (go_quiet (first | ((with_reducible refine d1z (N := 1) rfl ?_); refine d3z ?hg (N := 1) ?hd (cs := #[.int .i64 a0_0, .int .i64 a0_1]) (t := 24) ?hr ?_; (case hd => rfl); (case hg => rfl); (case hr => first | (go_simp; done) | (go_simp; rfl)); intro gb101 hg w12 hbox hb; have n0_ := a1z.mk (b7z (by repeat (first | (with_reducible first | exact HB.1 | apply a5z | apply a2z | apply a4z) | exact HB.1)) hb); have n1_ := a1z.mk (hbox); have n2_ := a1z.mk ((by rw [hg]; exact (b5z (by repeat (first | (with_reducible first | exact HB.1 | apply a5z | apply a2z | apply a4z) | exact HB.1))) : w.heap.size ≤ gb101)); have n3_ := a1z.mk ((by rw [hg]; exact (b5z (by repeat (first | (with_reducible first | exact HB.1 | apply a5z | apply a2z | apply a4z) | exact HB.1))) : w.heap.size ≤ gb101)); clear HB; have HB := n0_; have BK101 := n1_; have GW101 := n2_; have GE101 := n3_; clear n0_ n1_ n2_ n3_; clear hb hbox hg; have hcz13_0 : w12.cell? ⟨gb101, 0, none⟩ = some (.int .i64 a0_0) := (a0z BK101.1 0).trans rfl; have hcz13_1 : w12.cell? ⟨gb101, 1, none⟩ = some (.int .i64 a0_1) := (a0z BK101.1 1).trans rfl; have hfz13_0 := a3z BK101.1 0; have hfz13_1 := a3z BK101.1 1) | (go_at_call 71; (with_reducible refine (spec_l1Addr.calls a0_0 false _ A2.1).mono ?_); rintro e w' ⟨rfl, ⟨nd, rfl⟩⟩; (try first | exact ⟨rfl, _, World.drewN_drewN _ _ _⟩ | exact ⟨rfl, _, Eq.trans (World.drewN_drewN _ _ _) (congrArg (World.drewN _) (Nat.add_assoc _ _ _))⟩))); try go_wp2_with (first | ((with_reducible refine d1z (N := 1) rfl ?_); refine d3z ?hg (N := 1) ?hd (cs := #[.int .i64 a0_0, .int .i64 a0_1]) (t := 24) ?hr ?_; (case hd => rfl); (case hg => rfl); (case hr => first | (go_simp; done) | (go_simp; rfl)); intro gb101 hg w12 hbox hb; have n0_ := a1z.mk (b7z (by repeat (first | (with_reducible first | exact HB.1 | apply a5z | apply a2z | apply a4z) | exact HB.1)) hb); have n1_ := a1z.mk (hbox); have n2_ := a1z.mk ((by rw [hg]; exact (b5z (by repeat (first | (with_reducible first | exact HB.1 | apply a5z | apply a2z | apply a4z) | exact HB.1))) : w.heap.size ≤ gb101)); have n3_ := a1z.mk ((by rw [hg]; exact (b5z (by repeat (first | (with_reducible first | exact HB.1 | apply a5z | apply a2z | apply a4z) | exact HB.1))) : w.heap.size ≤ gb101)); clear HB; have HB := n0_; have BK101 := n1_; have GW101 := n2_; have GE101 := n3_; clear n0_ n1_ n2_ n3_; clear hb hbox hg; have hcz13_0 : w12.cell? ⟨gb101, 0, none⟩ = some (.int .i64 a0_0) := (a0z BK101.1 0).trans rfl; have hcz13_1 : w12.cell? ⟨gb101, 1, none⟩ = some (.int .i64 a0_1) := (a0z BK101.1 1).trans rfl; have hfz13_0 := a3z BK101.1 0; have hfz13_1 := a3z BK101.1 1) | (go_at_call 71; (with_reducible refine (spec_l1Addr.calls a0_0 false _ A2.1).mono ?_); rintro e w' ⟨rfl, ⟨nd, rfl⟩⟩; (try first | exact ⟨rfl, _, World.drewN_drewN _ _ _⟩ | exact ⟨rfl, _, Eq.trans (World.drewN_drewN _ _ _) (congrArg (World.drewN _) (Nat.add_assoc _ _ _))⟩))))
  go_ret
  exact ⟨by first | rfl | (simp [c2z, c1z] <;> rfl) | (simp [*, c2z, c1z] <;> rfl), by repeat (first | (with_reducible first | exact HB.1 | apply a5z | apply a2z | apply a4z | refine a9z ?_ GE101.1) | exact HB.1)⟩
end Go.Proofs.Ytbhgkpfbggkgdaa.Q

namespace Go.Proofs.Ytbhgkpfbggkgdaa.Q
open Go.RowKit Go.Proofs.YtbhgkpfbggkgdaaW.PrintWords Go.Proofs.YtbhgkpfbggkgdaaW.PrintLast Go.Proofs.YtbhgkpfbggkgdaaW.PrintMore
attribute [local go_sem] e8z e6z f5z f4z e1z e0z e7z e5z
set_option linter.unusedVariables false
set_option linter.unusedSimpArgs false
def spec_l4Ok.j0 : Nat → Bool → Int → Int → Int → Int → Int → Int → Int → Int → Option (Bool)
 | 0, _, _, _, _, _, _, _, _, _ => none
 | k + 1, x31, x102000, x102001, x102002, x102003, x102004, x102005, x102006, x102007 => if x31 = true then (some false) else (if x102000 = 2 then ((spec_l1In.f x102001 0 3).bind fun t106 => (some t106)) else (some (x102001 == 0)))
def spec_l4Ok.f (k : Nat) (a0_0 : Int) (a0_1 : Int) (a0_2 : Int) (a0_3 : Int) (a0_4 : Int) (a0_5 : Int) (a0_6 : Int) (a0_7 : Int) : Option (Bool) := (spec_BlockOk.f k a0_2 a0_3).bind fun t102 => (if t102 = true then ((spec_BlockOk.f k a0_4 a0_5).bind fun t103 => (if t103 = true then ((spec_l1In.f a0_6 0 a0_7).bind fun t104 => (if t104 = true then (if a0_7 > 65535 then (spec_l4Ok.j0 k true a0_0 a0_1 a0_2 a0_3 a0_4 a0_5 a0_6 a0_7) else ((spec_l1In.f a0_0 0 2).bind fun t105 => (spec_l4Ok.j0 k (!t105) a0_0 a0_1 a0_2 a0_3 a0_4 a0_5 a0_6 a0_7))) else (spec_l4Ok.j0 k true a0_0 a0_1 a0_2 a0_3 a0_4 a0_5 a0_6 a0_7))) else (spec_l4Ok.j0 k true a0_0 a0_1 a0_2 a0_3 a0_4 a0_5 a0_6 a0_7))) else (spec_l4Ok.j0 k true a0_0 a0_1 a0_2 a0_3 a0_4 a0_5 a0_6 a0_7))
set_option maxHeartbeats 8000000 in
set_option maxRecDepth 100000 in
theorem spec_l4Ok.calls (k : Nat) (a0_0 : Int) (a0_1 : Int) (a0_2 : Int) (a0_3 : Int) (a0_4 : Int) (a0_5 : Int) (a0_6 : Int) (a0_7 : Int) (r : Bool) (w : World) (h : spec_l4Ok.f k a0_0 a0_1 a0_2 a0_3 a0_4 a0_5 a0_6 a0_7 = some r) :
  Calls Try.prog 78 #[.agg #[.int .i64 a0_0, .int .i64 a0_1, .int .i64 a0_2, .int .i64 a0_3, .int .i64 a0_4, .int .i64 a0_5, .int .i64 a0_6, .int .i64 a0_7]] w fun e w' => e = .returned (.bool r) ∧ Below w.heap.size w w' := by
 have hu109 := Try.underlying109
 have hu24 := Try.underlying24
 have HB := a1z.mk (Below.refl w.heap.size w)
 have H : ((spec_BlockOk.f k a0_2 a0_3).bind fun t102 => (if t102 = true then ((spec_BlockOk.f k a0_4 a0_5).bind fun t103 => (if t103 = true then ((spec_l1In.f a0_6 0 a0_7).bind fun t104 => (if t104 = true then (if a0_7 > 65535 then (spec_l4Ok.j0 k true a0_0 a0_1 a0_2 a0_3 a0_4 a0_5 a0_6 a0_7) else ((spec_l1In.f a0_0 0 2).bind fun t105 => (spec_l4Ok.j0 k (!t105) a0_0 a0_1 a0_2 a0_3 a0_4 a0_5 a0_6 a0_7))) else (spec_l4Ok.j0 k true a0_0 a0_1 a0_2 a0_3 a0_4 a0_5 a0_6 a0_7))) else (spec_l4Ok.j0 k true a0_0 a0_1 a0_2 a0_3 a0_4 a0_5 a0_6 a0_7))) else (spec_l4Ok.j0 k true a0_0 a0_1 a0_2 a0_3 a0_4 a0_5 a0_6 a0_7))) = some r := h
 clear h
 have HC2 := a1z.mk H
 clear H
 go_enter Try.func78, Try.ntmps78
 go_upto_region 1 with (first | ((with_reducible refine d1z (N := 1) rfl ?_); refine d3z ?hg (N := 1) ?hd (cs := #[.int .i64 a0_0, .int .i64 a0_1, .int .i64 a0_2, .int .i64 a0_3, .int .i64 a0_4, .int .i64 a0_5, .int .i64 a0_6, .int .i64 a0_7]) (t := 109) ?hr ?_; (case hd => rfl); (case hg => rfl); (case hr => first | (go_simp; done) | (go_simp; rfl)); intro gb101 hg w3 hbox hb; have n0_ := a1z.mk (b7z (by repeat (first | (with_reducible first | exact HB.1 | apply a5z | apply a2z | apply a4z) | exact HB.1)) hb); have n1_ := a1z.mk (hbox); have n2_ := a1z.mk ((by rw [hg]; exact (b5z (by repeat (first | (with_reducible first | exact HB.1 | apply a5z | apply a2z | apply a4z) | exact HB.1))) : w.heap.size ≤ gb101)); have n3_ := a1z.mk ((by rw [hg]; exact (b5z (by repeat (first | (with_reducible first | exact HB.1 | apply a5z | apply a2z | apply a4z) | exact HB.1))) : w.heap.size ≤ gb101)); clear HB; have HB := n0_; have BK101 := n1_; have GW101 := n2_; have GE101 := n3_; clear n0_ n1_ n2_ n3_; clear hb hbox hg))
 (try simp only [Act.put, sA_, sZ_, sS_])
 go_cut [31] (fun v31 wc => ∃ (kq : Nat) (x31_1 : Bool), v31 = .bool x31_1 ∧ a1z (spec_l4Ok.j0 kq x31_1 a0_0 a0_1 a0_2 a0_3 a0_4 a0_5 a0_6 a0_7 = some r) ∧ a1z (kq ≤ k) ∧ a1z (wc.heap[gb101]? = some (.cells #[.int .i64 a0_0, .int .i64 a0_1, .int .i64 a0_2, .int .i64 a0_3, .int .i64 a0_4, .int .i64 a0_5, .int .i64 a0_6, .int .i64 a0_7] 109 (0, 0))) ∧ a1z (Below w.heap.size w wc))
 case first =>
  have H := HC2.1
  clear HC2
  replace H := Option.bind_eq_some_iff.mp H
  obtain ⟨t102, A40, H⟩ := H
  replace H : (if t102 = true then ((spec_BlockOk.f k a0_4 a0_5).bind fun t103 => (if t103 = true then ((spec_l1In.f a0_6 0 a0_7).bind fun t104 => (if t104 = true then (if a0_7 > 65535 then (spec_l4Ok.j0 k true a0_0 a0_1 a0_2 a0_3 a0_4 a0_5 a0_6 a0_7) else ((spec_l1In.f a0_0 0 2).bind fun t105 => (spec_l4Ok.j0 k (!t105) a0_0 a0_1 a0_2 a0_3 a0_4 a0_5 a0_6 a0_7))) else (spec_l4Ok.j0 k true a0_0 a0_1 a0_2 a0_3 a0_4 a0_5 a0_6 a0_7))) else (spec_l4Ok.j0 k true a0_0 a0_1 a0_2 a0_3 a0_4 a0_5 a0_6 a0_7))) else (spec_l4Ok.j0 k true a0_0 a0_1 a0_2 a0_3 a0_4 a0_5 a0_6 a0_7)) = some r := H
  have A4 := a1z.mk A40
  clear A40
  by_cases c5 : t102 = true
  ·subst c5
   have H1 : ((spec_BlockOk.f k a0_4 a0_5).bind fun t103 => (if t103 = true then ((spec_l1In.f a0_6 0 a0_7).bind fun t104 => (if t104 = true then (if a0_7 > 65535 then (spec_l4Ok.j0 k true a0_0 a0_1 a0_2 a0_3 a0_4 a0_5 a0_6 a0_7) else ((spec_l1In.f a0_0 0 2).bind fun t105 => (spec_l4Ok.j0 k (!t105) a0_0 a0_1 a0_2 a0_3 a0_4 a0_5 a0_6 a0_7))) else (spec_l4Ok.j0 k true a0_0 a0_1 a0_2 a0_3 a0_4 a0_5 a0_6 a0_7))) else (spec_l4Ok.j0 k true a0_0 a0_1 a0_2 a0_3 a0_4 a0_5 a0_6 a0_7))) = some r := by rw [if_pos rfl] at H; exact H
   clear H
   have H := H1
   clear H1
   replace H := Option.bind_eq_some_iff.mp H
   obtain ⟨t103, A60, H⟩ := H
   replace H : (if t103 = true then ((spec_l1In.f a0_6 0 a0_7).bind fun t104 => (if t104 = true then (if a0_7 > 65535 then (spec_l4Ok.j0 k true a0_0 a0_1 a0_2 a0_3 a0_4 a0_5 a0_6 a0_7) else ((spec_l1In.f a0_0 0 2).bind fun t105 => (spec_l4Ok.j0 k (!t105) a0_0 a0_1 a0_2 a0_3 a0_4 a0_5 a0_6 a0_7))) else (spec_l4Ok.j0 k true a0_0 a0_1 a0_2 a0_3 a0_4 a0_5 a0_6 a0_7))) else (spec_l4Ok.j0 k true a0_0 a0_1 a0_2 a0_3 a0_4 a0_5 a0_6 a0_7)) = some r := H
   have A6 := a1z.mk A60
   clear A60
   by_cases c7 : t103 = true
   ·subst c7
    have H1 : ((spec_l1In.f a0_6 0 a0_7).bind fun t104 => (if t104 = true then (if a0_7 > 65535 then (spec_l4Ok.j0 k true a0_0 a0_1 a0_2 a0_3 a0_4 a0_5 a0_6 a0_7) else ((spec_l1In.f a0_0 0 2).bind fun t105 => (spec_l4Ok.j0 k (!t105) a0_0 a0_1 a0_2 a0_3 a0_4 a0_5 a0_6 a0_7))) else (spec_l4Ok.j0 k true a0_0 a0_1 a0_2 a0_3 a0_4 a0_5 a0_6 a0_7))) = some r := by rw [if_pos rfl] at H; exact H
    clear H
    have H := H1
    clear H1
    replace H := Option.bind_eq_some_iff.mp H
    obtain ⟨t104, A80, H⟩ := H
    replace H : (if t104 = true then (if a0_7 > 65535 then (spec_l4Ok.j0 k true a0_0 a0_1 a0_2 a0_3 a0_4 a0_5 a0_6 a0_7) else ((spec_l1In.f a0_0 0 2).bind fun t105 => (spec_l4Ok.j0 k (!t105) a0_0 a0_1 a0_2 a0_3 a0_4 a0_5 a0_6 a0_7))) else (spec_l4Ok.j0 k true a0_0 a0_1 a0_2 a0_3 a0_4 a0_5 a0_6 a0_7)) = some r := H
    have A8 := a1z.mk A80
    clear A80
    by_cases c9 : t104 = true
    ·subst c9
     have H1 : (if a0_7 > 65535 then (spec_l4Ok.j0 k true a0_0 a0_1 a0_2 a0_3 a0_4 a0_5 a0_6 a0_7) else ((spec_l1In.f a0_0 0 2).bind fun t105 => (spec_l4Ok.j0 k (!t105) a0_0 a0_1 a0_2 a0_3 a0_4 a0_5 a0_6 a0_7))) = some r := by rw [if_pos rfl] at H; exact H
     clear H
     have H := H1
     clear H1
     by_cases c10 : a0_7 > 65535
     ·rw [if_pos c10] at H
      have c10b0 : decide (65535 < a0_7) = true := decide_eq_true c10
      clear c10
      (first | rw [c10b0] | (simp only [i64_w, i32_w]; rw [c10b0]) | skip)
      have H' := a1z.mk H
      clear H
      have hcz11_0 : w3.cell? ⟨gb101, 0, none⟩ = some (.int .i64 a0_0) := (a0z BK101.1 0).trans rfl
      have hcz11_1 : w3.cell? ⟨gb101, 1, none⟩ = some (.int .i64 a0_1) := (a0z BK101.1 1).trans rfl
      have hcz11_2 : w3.cell? ⟨gb101, 2, none⟩ = some (.int .i64 a0_2) := (a0z BK101.1 2).trans rfl
      have hcz11_3 : w3.cell? ⟨gb101, 3, none⟩ = some (.int .i64 a0_3) := (a0z BK101.1 3).trans rfl
      have hcz11_4 : w3.cell? ⟨gb101, 4, none⟩ = some (.int .i64 a0_4) := (a0z BK101.1 4).trans rfl
      have hcz11_5 : w3.cell? ⟨gb101, 5, none⟩ = some (.int .i64 a0_5) := (a0z BK101.1 5).trans rfl
      have hcz11_6 : w3.cell? ⟨gb101, 6, none⟩ = some (.int .i64 a0_6) := (a0z BK101.1 6).trans rfl
      have hcz11_7 : w3.cell? ⟨gb101, 7, none⟩ = some (.int .i64 a0_7) := (a0z BK101.1 7).trans rfl
      have hfz11_0 := a3z BK101.1 0
      have hfz11_1 := a3z BK101.1 1
      have hfz11_2 := a3z BK101.1 2
      have hfz11_3 := a3z BK101.1 3
      have hfz11_4 := a3z BK101.1 4
      have hfz11_5 := a3z BK101.1 5
      have hfz11_6 := a3z BK101.1 6
      have hfz11_7 := a3z BK101.1 7
      go_wp2_with (first | ((with_reducible refine c5z (f := 27) rfl ?_); refine d5z (some 5) rfl rfl Try.func27 (by kernel_rfl) rfl #[.agg #[.int .i64 a0_2, .int .i64 a0_3]] rfl (by (try simp only [List.map_toArray, List.map_cons, List.map_nil]); first | done | rfl | (simp only [List.length_drop, List.length_take]; rfl)) ?_; (with_reducible refine (spec_BlockOk.calls k a0_2 a0_3 true _ A4.1).mono ?_); rintro e w12 ⟨rfl, hb⟩; refine ⟨_, rfl, ?_⟩; have n0_ := a1z.mk (c4z (g := gb101) (o := .cells #[.int .i64 a0_0, .int .i64 a0_1, .int .i64 a0_2, .int .i64 a0_3, .int .i64 a0_4, .int .i64 a0_5, .int .i64 a0_6, .int .i64 a0_7] 109 (0, 0)) (by (with_reducible repeat (first | refine a7z ?_ _ | refine a8z ?_ | refine blk_alloc ?_ _)); exact BK101.1) hb); have n1_ := a1z.mk (b7z (by repeat (first | (with_reducible first | exact HB.1 | apply a5z | apply a2z | apply a4z | refine a9z ?_ GE101.1) | exact HB.1)) hb); clear BK101; clear HB; have BK101 := n0_; have HB := n1_; clear n0_ n1_; (try clear hb); (try clear hb2); (try clear hk); (try clear hi); have hcz13_0 : w12.cell? ⟨gb101, 0, none⟩ = some (.int .i64 a0_0) := (a0z BK101.1 0).trans rfl; have hcz13_1 : w12.cell? ⟨gb101, 1, none⟩ = some (.int .i64 a0_1) := (a0z BK101.1 1).trans rfl; have hcz13_2 : w12.cell? ⟨gb101, 2, none⟩ = some (.int .i64 a0_2) := (a0z BK101.1 2).trans rfl; have hcz13_3 : w12.cell? ⟨gb101, 3, none⟩ = some (.int .i64 a0_3) := (a0z BK101.1 3).trans rfl; have hcz13_4 : w12.cell? ⟨gb101, 4, none⟩ = some (.int .i64 a0_4) := (a0z BK101.1 4).trans rfl; have hcz13_5 : w12.cell? ⟨gb101, 5, none⟩ = some (.int .i64 a0_5) := (a0z BK101.1 5).trans rfl; have hcz13_6 : w12.cell? ⟨gb101, 6, none⟩ = some (.int .i64 a0_6) := (a0z BK101.1 6).trans rfl; have hcz13_7 : w12.cell? ⟨gb101, 7, none⟩ = some (.int .i64 a0_7) := (a0z BK101.1 7).trans rfl; have hfz13_0 := a3z BK101.1 0; have hfz13_1 := a3z BK101.1 1; have hfz13_2 := a3z BK101.1 2; have hfz13_3 := a3z BK101.1 3; have hfz13_4 := a3z BK101.1 4; have hfz13_5 := a3z BK101.1 5; have hfz13_6 := a3z BK101.1 6; have hfz13_7 := a3z BK101.1 7) | (go_at_call 27; (with_reducible refine (spec_BlockOk.calls k a0_4 a0_5 true _ A6.1).mono ?_); rintro e w14 ⟨rfl, hb⟩; have n0_ := a1z.mk (c4z (g := gb101) (o := .cells #[.int .i64 a0_0, .int .i64 a0_1, .int .i64 a0_2, .int .i64 a0_3, .int .i64 a0_4, .int .i64 a0_5, .int .i64 a0_6, .int .i64 a0_7] 109 (0, 0)) (by (with_reducible repeat (first | refine a7z ?_ _ | refine a8z ?_ | refine blk_alloc ?_ _)); exact BK101.1) hb); have n1_ := a1z.mk (b7z (by repeat (first | (with_reducible first | exact HB.1 | apply a5z | apply a2z | apply a4z | refine a9z ?_ GE101.1) | exact HB.1)) hb); clear BK101; clear HB; have BK101 := n0_; have HB := n1_; clear n0_ n1_; (try clear hb); (try clear hb2); (try clear hk); (try clear hi); have hcz15_0 : w14.cell? ⟨gb101, 0, none⟩ = some (.int .i64 a0_0) := (a0z BK101.1 0).trans rfl; have hcz15_1 : w14.cell? ⟨gb101, 1, none⟩ = some (.int .i64 a0_1) := (a0z BK101.1 1).trans rfl; have hcz15_2 : w14.cell? ⟨gb101, 2, none⟩ = some (.int .i64 a0_2) := (a0z BK101.1 2).trans rfl; have hcz15_3 : w14.cell? ⟨gb101, 3, none⟩ = some (.int .i64 a0_3) := (a0z BK101.1 3).trans rfl; have hcz15_4 : w14.cell? ⟨gb101, 4, none⟩ = some (.int .i64 a0_4) := (a0z BK101.1 4).trans rfl; have hcz15_5 : w14.cell? ⟨gb101, 5, none⟩ = some (.int .i64 a0_5) := (a0z BK101.1 5).trans rfl; have hcz15_6 : w14.cell? ⟨gb101, 6, none⟩ = some (.int .i64 a0_6) := (a0z BK101.1 6).trans rfl; have hcz15_7 : w14.cell? ⟨gb101, 7, none⟩ = some (.int .i64 a0_7) := (a0z BK101.1 7).trans rfl; have hfz15_0 := a3z BK101.1 0; have hfz15_1 := a3z BK101.1 1; have hfz15_2 := a3z BK101.1 2; have hfz15_3 := a3z BK101.1 3; have hfz15_4 := a3z BK101.1 4; have hfz15_5 := a3z BK101.1 5; have hfz15_6 := a3z BK101.1 6; have hfz15_7 := a3z BK101.1 7) | (go_at_call 72; (with_reducible refine (spec_l1In.calls a0_6 0 a0_7 true _ A8.1).mono ?_); rintro e w' ⟨rfl, ⟨nd, rfl⟩⟩))
      go_meet
      case rel => exact ⟨_, (true), (by first | rfl | (simp; done) | (simp [*]; done)), H', ⟨by first | omega | exact Nat.le_refl _⟩, ⟨by (with_reducible repeat (first | refine a7z ?_ _ | refine a8z ?_ | refine blk_alloc ?_ _)); exact BK101.1⟩, ⟨by repeat (first | (with_reducible first | exact HB.1 | apply a5z | apply a2z | apply a4z | refine a9z ?_ GE101.1) | exact HB.1)⟩⟩
     ·rw [if_neg c10] at H
      have c10b0 : decide (65535 < a0_7) = false := decide_eq_false c10
      clear c10
      (first | rw [c10b0] | (simp only [i64_w, i32_w]; rw [c10b0]) | skip)
      replace H := Option.bind_eq_some_iff.mp H
      obtain ⟨t105, A160, H⟩ := H
      replace H : (spec_l4Ok.j0 k (!t105) a0_0 a0_1 a0_2 a0_3 a0_4 a0_5 a0_6 a0_7) = some r := H
      have A16 := a1z.mk A160
      clear A160
      have H' := a1z.mk H
      clear H
      have hcz17_0 : w3.cell? ⟨gb101, 0, none⟩ = some (.int .i64 a0_0) := (a0z BK101.1 0).trans rfl
      have hcz17_1 : w3.cell? ⟨gb101, 1, none⟩ = some (.int .i64 a0_1) := (a0z BK101.1 1).trans rfl
      have hcz17_2 : w3.cell? ⟨gb101, 2, none⟩ = some (.int .i64 a0_2) := (a0z BK101.1 2).trans rfl
      have hcz17_3 : w3.cell? ⟨gb101, 3, none⟩ = some (.int .i64 a0_3) := (a0z BK101.1 3).trans rfl
      have hcz17_4 : w3.cell? ⟨gb101, 4, none⟩ = some (.int .i64 a0_4) := (a0z BK101.1 4).trans rfl
      have hcz17_5 : w3.cell? ⟨gb101, 5, none⟩ = some (.int .i64 a0_5) := (a0z BK101.1 5).trans rfl
      have hcz17_6 : w3.cell? ⟨gb101, 6, none⟩ = some (.int .i64 a0_6) := (a0z BK101.1 6).trans rfl
      have hcz17_7 : w3.cell? ⟨gb101, 7, none⟩ = some (.int .i64 a0_7) := (a0z BK101.1 7).trans rfl
      have hfz17_0 := a3z BK101.1 0
      have hfz17_1 := a3z BK101.1 1
      have hfz17_2 := a3z BK101.1 2
      have hfz17_3 := a3z BK101.1 3
      have hfz17_4 := a3z BK101.1 4
      have hfz17_5 := a3z BK101.1 5
      have hfz17_6 := a3z BK101.1 6
      have hfz17_7 := a3z BK101.1 7
      go_wp2_with (first | ((with_reducible refine c5z (f := 27) rfl ?_); refine d5z (some 5) rfl rfl Try.func27 (by kernel_rfl) rfl #[.agg #[.int .i64 a0_2, .int .i64 a0_3]] rfl (by (try simp only [List.map_toArray, List.map_cons, List.map_nil]); first | done | rfl | (simp only [List.length_drop, List.length_take]; rfl)) ?_; (with_reducible refine (spec_BlockOk.calls k a0_2 a0_3 true _ A4.1).mono ?_); rintro e w18 ⟨rfl, hb⟩; refine ⟨_, rfl, ?_⟩; have n0_ := a1z.mk (c4z (g := gb101) (o := .cells #[.int .i64 a0_0, .int .i64 a0_1, .int .i64 a0_2, .int .i64 a0_3, .int .i64 a0_4, .int .i64 a0_5, .int .i64 a0_6, .int .i64 a0_7] 109 (0, 0)) (by (with_reducible repeat (first | refine a7z ?_ _ | refine a8z ?_ | refine blk_alloc ?_ _)); exact BK101.1) hb); have n1_ := a1z.mk (b7z (by repeat (first | (with_reducible first | exact HB.1 | apply a5z | apply a2z | apply a4z | refine a9z ?_ GE101.1) | exact HB.1)) hb); clear BK101; clear HB; have BK101 := n0_; have HB := n1_; clear n0_ n1_; (try clear hb); (try clear hb2); (try clear hk); (try clear hi); have hcz19_0 : w18.cell? ⟨gb101, 0, none⟩ = some (.int .i64 a0_0) := (a0z BK101.1 0).trans rfl; have hcz19_1 : w18.cell? ⟨gb101, 1, none⟩ = some (.int .i64 a0_1) := (a0z BK101.1 1).trans rfl; have hcz19_2 : w18.cell? ⟨gb101, 2, none⟩ = some (.int .i64 a0_2) := (a0z BK101.1 2).trans rfl; have hcz19_3 : w18.cell? ⟨gb101, 3, none⟩ = some (.int .i64 a0_3) := (a0z BK101.1 3).trans rfl; have hcz19_4 : w18.cell? ⟨gb101, 4, none⟩ = some (.int .i64 a0_4) := (a0z BK101.1 4).trans rfl; have hcz19_5 : w18.cell? ⟨gb101, 5, none⟩ = some (.int .i64 a0_5) := (a0z BK101.1 5).trans rfl; have hcz19_6 : w18.cell? ⟨gb101, 6, none⟩ = some (.int .i64 a0_6) := (a0z BK101.1 6).trans rfl; have hcz19_7 : w18.cell? ⟨gb101, 7, none⟩ = some (.int .i64 a0_7) := (a0z BK101.1 7).trans rfl; have hfz19_0 := a3z BK101.1 0; have hfz19_1 := a3z BK101.1 1; have hfz19_2 := a3z BK101.1 2; have hfz19_3 := a3z BK101.1 3; have hfz19_4 := a3z BK101.1 4; have hfz19_5 := a3z BK101.1 5; have hfz19_6 := a3z BK101.1 6; have hfz19_7 := a3z BK101.1 7) | (go_at_call 27; (with_reducible refine (spec_BlockOk.calls k a0_4 a0_5 true _ A6.1).mono ?_); rintro e w20 ⟨rfl, hb⟩; have n0_ := a1z.mk (c4z (g := gb101) (o := .cells #[.int .i64 a0_0, .int .i64 a0_1, .int .i64 a0_2, .int .i64 a0_3, .int .i64 a0_4, .int .i64 a0_5, .int .i64 a0_6, .int .i64 a0_7] 109 (0, 0)) (by (with_reducible repeat (first | refine a7z ?_ _ | refine a8z ?_ | refine blk_alloc ?_ _)); exact BK101.1) hb); have n1_ := a1z.mk (b7z (by repeat (first | (with_reducible first | exact HB.1 | apply a5z | apply a2z | apply a4z | refine a9z ?_ GE101.1) | exact HB.1)) hb); clear BK101; clear HB; have BK101 := n0_; have HB := n1_; clear n0_ n1_; (try clear hb); (try clear hb2); (try clear hk); (try clear hi); have hcz21_0 : w20.cell? ⟨gb101, 0, none⟩ = some (.int .i64 a0_0) := (a0z BK101.1 0).trans rfl; have hcz21_1 : w20.cell? ⟨gb101, 1, none⟩ = some (.int .i64 a0_1) := (a0z BK101.1 1).trans rfl; have hcz21_2 : w20.cell? ⟨gb101, 2, none⟩ = some (.int .i64 a0_2) := (a0z BK101.1 2).trans rfl; have hcz21_3 : w20.cell? ⟨gb101, 3, none⟩ = some (.int .i64 a0_3) := (a0z BK101.1 3).trans rfl; have hcz21_4 : w20.cell? ⟨gb101, 4, none⟩ = some (.int .i64 a0_4) := (a0z BK101.1 4).trans rfl; have hcz21_5 : w20.cell? ⟨gb101, 5, none⟩ = some (.int .i64 a0_5) := (a0z BK101.1 5).trans rfl; have hcz21_6 : w20.cell? ⟨gb101, 6, none⟩ = some (.int .i64 a0_6) := (a0z BK101.1 6).trans rfl; have hcz21_7 : w20.cell? ⟨gb101, 7, none⟩ = some (.int .i64 a0_7) := (a0z BK101.1 7).trans rfl; have hfz21_0 := a3z BK101.1 0; have hfz21_1 := a3z BK101.1 1; have hfz21_2 := a3z BK101.1 2; have hfz21_3 := a3z BK101.1 3; have hfz21_4 := a3z BK101.1 4; have hfz21_5 := a3z BK101.1 5; have hfz21_6 := a3z BK101.1 6; have hfz21_7 := a3z BK101.1 7) | (go_at_call 72; (with_reducible refine (spec_l1In.calls a0_6 0 a0_7 true _ A8.1).mono ?_); rintro e w' ⟨rfl, ⟨nd, rfl⟩⟩) | (go_at_call 72; (with_reducible refine (spec_l1In.calls a0_0 0 2 t105 _ A16.1).mono ?_); rintro e w' ⟨rfl, ⟨nd, rfl⟩⟩))
      go_meet
      case rel => exact ⟨_, (!t105), (by first | rfl | (simp; done) | (simp [*]; done)), H', ⟨by first | omega | exact Nat.le_refl _⟩, ⟨by (with_reducible repeat (first | refine a7z ?_ _ | refine a8z ?_ | refine blk_alloc ?_ _)); exact BK101.1⟩, ⟨by repeat (first | (with_reducible first | exact HB.1 | apply a5z | apply a2z | apply a4z | refine a9z ?_ GE101.1) | exact HB.1)⟩⟩
    ·replace c9 := Bool.eq_false_iff.mpr c9
     subst c9
     have H1 : (spec_l4Ok.j0 k true a0_0 a0_1 a0_2 a0_3 a0_4 a0_5 a0_6 a0_7) = some r := by rw [if_neg (show ¬ (false = true) by decide)] at H; exact H
     clear H
     have H := H1
     clear H1
     have H' := a1z.mk H
     clear H
     have hcz22_0 : w3.cell? ⟨gb101, 0, none⟩ = some (.int .i64 a0_0) := (a0z BK101.1 0).trans rfl
     have hcz22_1 : w3.cell? ⟨gb101, 1, none⟩ = some (.int .i64 a0_1) := (a0z BK101.1 1).trans rfl
     have hcz22_2 : w3.cell? ⟨gb101, 2, none⟩ = some (.int .i64 a0_2) := (a0z BK101.1 2).trans rfl
     have hcz22_3 : w3.cell? ⟨gb101, 3, none⟩ = some (.int .i64 a0_3) := (a0z BK101.1 3).trans rfl
     have hcz22_4 : w3.cell? ⟨gb101, 4, none⟩ = some (.int .i64 a0_4) := (a0z BK101.1 4).trans rfl
     have hcz22_5 : w3.cell? ⟨gb101, 5, none⟩ = some (.int .i64 a0_5) := (a0z BK101.1 5).trans rfl
     have hcz22_6 : w3.cell? ⟨gb101, 6, none⟩ = some (.int .i64 a0_6) := (a0z BK101.1 6).trans rfl
     have hcz22_7 : w3.cell? ⟨gb101, 7, none⟩ = some (.int .i64 a0_7) := (a0z BK101.1 7).trans rfl
     have hfz22_0 := a3z BK101.1 0
     have hfz22_1 := a3z BK101.1 1
     have hfz22_2 := a3z BK101.1 2
     have hfz22_3 := a3z BK101.1 3
     have hfz22_4 := a3z BK101.1 4
     have hfz22_5 := a3z BK101.1 5
     have hfz22_6 := a3z BK101.1 6
     have hfz22_7 := a3z BK101.1 7
     go_wp2_with (first | ((with_reducible refine c5z (f := 27) rfl ?_); refine d5z (some 5) rfl rfl Try.func27 (by kernel_rfl) rfl #[.agg #[.int .i64 a0_2, .int .i64 a0_3]] rfl (by (try simp only [List.map_toArray, List.map_cons, List.map_nil]); first | done | rfl | (simp only [List.length_drop, List.length_take]; rfl)) ?_; (with_reducible refine (spec_BlockOk.calls k a0_2 a0_3 true _ A4.1).mono ?_); rintro e w23 ⟨rfl, hb⟩; refine ⟨_, rfl, ?_⟩; have n0_ := a1z.mk (c4z (g := gb101) (o := .cells #[.int .i64 a0_0, .int .i64 a0_1, .int .i64 a0_2, .int .i64 a0_3, .int .i64 a0_4, .int .i64 a0_5, .int .i64 a0_6, .int .i64 a0_7] 109 (0, 0)) (by (with_reducible repeat (first | refine a7z ?_ _ | refine a8z ?_ | refine blk_alloc ?_ _)); exact BK101.1) hb); have n1_ := a1z.mk (b7z (by repeat (first | (with_reducible first | exact HB.1 | apply a5z | apply a2z | apply a4z | refine a9z ?_ GE101.1) | exact HB.1)) hb); clear BK101; clear HB; have BK101 := n0_; have HB := n1_; clear n0_ n1_; (try clear hb); (try clear hb2); (try clear hk); (try clear hi); have hcz24_0 : w23.cell? ⟨gb101, 0, none⟩ = some (.int .i64 a0_0) := (a0z BK101.1 0).trans rfl; have hcz24_1 : w23.cell? ⟨gb101, 1, none⟩ = some (.int .i64 a0_1) := (a0z BK101.1 1).trans rfl; have hcz24_2 : w23.cell? ⟨gb101, 2, none⟩ = some (.int .i64 a0_2) := (a0z BK101.1 2).trans rfl; have hcz24_3 : w23.cell? ⟨gb101, 3, none⟩ = some (.int .i64 a0_3) := (a0z BK101.1 3).trans rfl; have hcz24_4 : w23.cell? ⟨gb101, 4, none⟩ = some (.int .i64 a0_4) := (a0z BK101.1 4).trans rfl; have hcz24_5 : w23.cell? ⟨gb101, 5, none⟩ = some (.int .i64 a0_5) := (a0z BK101.1 5).trans rfl; have hcz24_6 : w23.cell? ⟨gb101, 6, none⟩ = some (.int .i64 a0_6) := (a0z BK101.1 6).trans rfl; have hcz24_7 : w23.cell? ⟨gb101, 7, none⟩ = some (.int .i64 a0_7) := (a0z BK101.1 7).trans rfl; have hfz24_0 := a3z BK101.1 0; have hfz24_1 := a3z BK101.1 1; have hfz24_2 := a3z BK101.1 2; have hfz24_3 := a3z BK101.1 3; have hfz24_4 := a3z BK101.1 4; have hfz24_5 := a3z BK101.1 5; have hfz24_6 := a3z BK101.1 6; have hfz24_7 := a3z BK101.1 7) | (go_at_call 27; (with_reducible refine (spec_BlockOk.calls k a0_4 a0_5 true _ A6.1).mono ?_); rintro e w25 ⟨rfl, hb⟩; have n0_ := a1z.mk (c4z (g := gb101) (o := .cells #[.int .i64 a0_0, .int .i64 a0_1, .int .i64 a0_2, .int .i64 a0_3, .int .i64 a0_4, .int .i64 a0_5, .int .i64 a0_6, .int .i64 a0_7] 109 (0, 0)) (by (with_reducible repeat (first | refine a7z ?_ _ | refine a8z ?_ | refine blk_alloc ?_ _)); exact BK101.1) hb); have n1_ := a1z.mk (b7z (by repeat (first | (with_reducible first | exact HB.1 | apply a5z | apply a2z | apply a4z | refine a9z ?_ GE101.1) | exact HB.1)) hb); clear BK101; clear HB; have BK101 := n0_; have HB := n1_; clear n0_ n1_; (try clear hb); (try clear hb2); (try clear hk); (try clear hi); have hcz26_0 : w25.cell? ⟨gb101, 0, none⟩ = some (.int .i64 a0_0) := (a0z BK101.1 0).trans rfl; have hcz26_1 : w25.cell? ⟨gb101, 1, none⟩ = some (.int .i64 a0_1) := (a0z BK101.1 1).trans rfl; have hcz26_2 : w25.cell? ⟨gb101, 2, none⟩ = some (.int .i64 a0_2) := (a0z BK101.1 2).trans rfl; have hcz26_3 : w25.cell? ⟨gb101, 3, none⟩ = some (.int .i64 a0_3) := (a0z BK101.1 3).trans rfl; have hcz26_4 : w25.cell? ⟨gb101, 4, none⟩ = some (.int .i64 a0_4) := (a0z BK101.1 4).trans rfl; have hcz26_5 : w25.cell? ⟨gb101, 5, none⟩ = some (.int .i64 a0_5) := (a0z BK101.1 5).trans rfl; have hcz26_6 : w25.cell? ⟨gb101, 6, none⟩ = some (.int .i64 a0_6) := (a0z BK101.1 6).trans rfl; have hcz26_7 : w25.cell? ⟨gb101, 7, none⟩ = some (.int .i64 a0_7) := (a0z BK101.1 7).trans rfl; have hfz26_0 := a3z BK101.1 0; have hfz26_1 := a3z BK101.1 1; have hfz26_2 := a3z BK101.1 2; have hfz26_3 := a3z BK101.1 3; have hfz26_4 := a3z BK101.1 4; have hfz26_5 := a3z BK101.1 5; have hfz26_6 := a3z BK101.1 6; have hfz26_7 := a3z BK101.1 7) | (go_at_call 72; (with_reducible refine (spec_l1In.calls a0_6 0 a0_7 false _ A8.1).mono ?_); rintro e w' ⟨rfl, ⟨nd, rfl⟩⟩))
     go_meet
     case rel => exact ⟨_, (true), (by first | rfl | (simp; done) | (simp [*]; done)), H', ⟨by first | omega | exact Nat.le_refl _⟩, ⟨by (with_reducible repeat (first | refine a7z ?_ _ | refine a8z ?_ | refine blk_alloc ?_ _)); exact BK101.1⟩, ⟨by repeat (first | (with_reducible first | exact HB.1 | apply a5z | apply a2z | apply a4z | refine a9z ?_ GE101.1) | exact HB.1)⟩⟩
   ·replace c7 := Bool.eq_false_iff.mpr c7
    subst c7
    have H1 : (spec_l4Ok.j0 k true a0_0 a0_1 a0_2 a0_3 a0_4 a0_5 a0_6 a0_7) = some r := by rw [if_neg (show ¬ (false = true) by decide)] at H; exact H
    clear H
    have H := H1
    clear H1
    have H' := a1z.mk H
    clear H
    have hcz27_0 : w3.cell? ⟨gb101, 0, none⟩ = some (.int .i64 a0_0) := (a0z BK101.1 0).trans rfl
    have hcz27_1 : w3.cell? ⟨gb101, 1, none⟩ = some (.int .i64 a0_1) := (a0z BK101.1 1).trans rfl
    have hcz27_2 : w3.cell? ⟨gb101, 2, none⟩ = some (.int .i64 a0_2) := (a0z BK101.1 2).trans rfl
    have hcz27_3 : w3.cell? ⟨gb101, 3, none⟩ = some (.int .i64 a0_3) := (a0z BK101.1 3).trans rfl
    have hcz27_4 : w3.cell? ⟨gb101, 4, none⟩ = some (.int .i64 a0_4) := (a0z BK101.1 4).trans rfl
    have hcz27_5 : w3.cell? ⟨gb101, 5, none⟩ = some (.int .i64 a0_5) := (a0z BK101.1 5).trans rfl
    have hcz27_6 : w3.cell? ⟨gb101, 6, none⟩ = some (.int .i64 a0_6) := (a0z BK101.1 6).trans rfl
    have hcz27_7 : w3.cell? ⟨gb101, 7, none⟩ = some (.int .i64 a0_7) := (a0z BK101.1 7).trans rfl
    have hfz27_0 := a3z BK101.1 0
    have hfz27_1 := a3z BK101.1 1
    have hfz27_2 := a3z BK101.1 2
    have hfz27_3 := a3z BK101.1 3
    have hfz27_4 := a3z BK101.1 4
    have hfz27_5 := a3z BK101.1 5
    have hfz27_6 := a3z BK101.1 6
    have hfz27_7 := a3z BK101.1 7
    go_wp2_with (first | ((with_reducible refine c5z (f := 27) rfl ?_); refine d5z (some 5) rfl rfl Try.func27 (by kernel_rfl) rfl #[.agg #[.int .i64 a0_2, .int .i64 a0_3]] rfl (by (try simp only [List.map_toArray, List.map_cons, List.map_nil]); first | done | rfl | (simp only [List.length_drop, List.length_take]; rfl)) ?_; (with_reducible refine (spec_BlockOk.calls k a0_2 a0_3 true _ A4.1).mono ?_); rintro e w28 ⟨rfl, hb⟩; refine ⟨_, rfl, ?_⟩; have n0_ := a1z.mk (c4z (g := gb101) (o := .cells #[.int .i64 a0_0, .int .i64 a0_1, .int .i64 a0_2, .int .i64 a0_3, .int .i64 a0_4, .int .i64 a0_5, .int .i64 a0_6, .int .i64 a0_7] 109 (0, 0)) (by (with_reducible repeat (first | refine a7z ?_ _ | refine a8z ?_ | refine blk_alloc ?_ _)); exact BK101.1) hb); have n1_ := a1z.mk (b7z (by repeat (first | (with_reducible first | exact HB.1 | apply a5z | apply a2z | apply a4z | refine a9z ?_ GE101.1) | exact HB.1)) hb); clear BK101; clear HB; have BK101 := n0_; have HB := n1_; clear n0_ n1_; (try clear hb); (try clear hb2); (try clear hk); (try clear hi); have hcz29_0 : w28.cell? ⟨gb101, 0, none⟩ = some (.int .i64 a0_0) := (a0z BK101.1 0).trans rfl; have hcz29_1 : w28.cell? ⟨gb101, 1, none⟩ = some (.int .i64 a0_1) := (a0z BK101.1 1).trans rfl; have hcz29_2 : w28.cell? ⟨gb101, 2, none⟩ = some (.int .i64 a0_2) := (a0z BK101.1 2).trans rfl; have hcz29_3 : w28.cell? ⟨gb101, 3, none⟩ = some (.int .i64 a0_3) := (a0z BK101.1 3).trans rfl; have hcz29_4 : w28.cell? ⟨gb101, 4, none⟩ = some (.int .i64 a0_4) := (a0z BK101.1 4).trans rfl; have hcz29_5 : w28.cell? ⟨gb101, 5, none⟩ = some (.int .i64 a0_5) := (a0z BK101.1 5).trans rfl; have hcz29_6 : w28.cell? ⟨gb101, 6, none⟩ = some (.int .i64 a0_6) := (a0z BK101.1 6).trans rfl; have hcz29_7 : w28.cell? ⟨gb101, 7, none⟩ = some (.int .i64 a0_7) := (a0z BK101.1 7).trans rfl; have hfz29_0 := a3z BK101.1 0; have hfz29_1 := a3z BK101.1 1; have hfz29_2 := a3z BK101.1 2; have hfz29_3 := a3z BK101.1 3; have hfz29_4 := a3z BK101.1 4; have hfz29_5 := a3z BK101.1 5; have hfz29_6 := a3z BK101.1 6; have hfz29_7 := a3z BK101.1 7) | (go_at_call 27; (with_reducible refine (spec_BlockOk.calls k a0_4 a0_5 false _ A6.1).mono ?_); rintro e w30 ⟨rfl, hb⟩; have n0_ := a1z.mk (c4z (g := gb101) (o := .cells #[.int .i64 a0_0, .int .i64 a0_1, .int .i64 a0_2, .int .i64 a0_3, .int .i64 a0_4, .int .i64 a0_5, .int .i64 a0_6, .int .i64 a0_7] 109 (0, 0)) (by (with_reducible repeat (first | refine a7z ?_ _ | refine a8z ?_ | refine blk_alloc ?_ _)); exact BK101.1) hb); have n1_ := a1z.mk (b7z (by repeat (first | (with_reducible first | exact HB.1 | apply a5z | apply a2z | apply a4z | refine a9z ?_ GE101.1) | exact HB.1)) hb); clear BK101; clear HB; have BK101 := n0_; have HB := n1_; clear n0_ n1_; (try clear hb); (try clear hb2); (try clear hk); (try clear hi)))
    go_meet
    case rel => exact ⟨_, (true), (by first | rfl | (simp; done) | (simp [*]; done)), H', ⟨by first | omega | exact Nat.le_refl _⟩, ⟨by (with_reducible repeat (first | refine a7z ?_ _ | refine a8z ?_ | refine blk_alloc ?_ _)); exact BK101.1⟩, ⟨by repeat (first | (with_reducible first | exact HB.1 | apply a5z | apply a2z | apply a4z | refine a9z ?_ GE101.1) | exact HB.1)⟩⟩
  ·replace c5 := Bool.eq_false_iff.mpr c5
   subst c5
   have H1 : (spec_l4Ok.j0 k true a0_0 a0_1 a0_2 a0_3 a0_4 a0_5 a0_6 a0_7) = some r := by rw [if_neg (show ¬ (false = true) by decide)] at H; exact H
   clear H
   have H := H1
   clear H1
   have H' := a1z.mk H
   clear H
   have hcz31_0 : w3.cell? ⟨gb101, 0, none⟩ = some (.int .i64 a0_0) := (a0z BK101.1 0).trans rfl
   have hcz31_1 : w3.cell? ⟨gb101, 1, none⟩ = some (.int .i64 a0_1) := (a0z BK101.1 1).trans rfl
   have hcz31_2 : w3.cell? ⟨gb101, 2, none⟩ = some (.int .i64 a0_2) := (a0z BK101.1 2).trans rfl
   have hcz31_3 : w3.cell? ⟨gb101, 3, none⟩ = some (.int .i64 a0_3) := (a0z BK101.1 3).trans rfl
   have hcz31_4 : w3.cell? ⟨gb101, 4, none⟩ = some (.int .i64 a0_4) := (a0z BK101.1 4).trans rfl
   have hcz31_5 : w3.cell? ⟨gb101, 5, none⟩ = some (.int .i64 a0_5) := (a0z BK101.1 5).trans rfl
   have hcz31_6 : w3.cell? ⟨gb101, 6, none⟩ = some (.int .i64 a0_6) := (a0z BK101.1 6).trans rfl
   have hcz31_7 : w3.cell? ⟨gb101, 7, none⟩ = some (.int .i64 a0_7) := (a0z BK101.1 7).trans rfl
   have hfz31_0 := a3z BK101.1 0
   have hfz31_1 := a3z BK101.1 1
   have hfz31_2 := a3z BK101.1 2
   have hfz31_3 := a3z BK101.1 3
   have hfz31_4 := a3z BK101.1 4
   have hfz31_5 := a3z BK101.1 5
   have hfz31_6 := a3z BK101.1 6
   have hfz31_7 := a3z BK101.1 7
   go_wp2_with (first | ((with_reducible refine c5z (f := 27) rfl ?_); refine d5z (some 5) rfl rfl Try.func27 (by kernel_rfl) rfl #[.agg #[.int .i64 a0_2, .int .i64 a0_3]] rfl (by (try simp only [List.map_toArray, List.map_cons, List.map_nil]); first | done | rfl | (simp only [List.length_drop, List.length_take]; rfl)) ?_; (with_reducible refine (spec_BlockOk.calls k a0_2 a0_3 false _ A4.1).mono ?_); rintro e w32 ⟨rfl, hb⟩; refine ⟨_, rfl, ?_⟩; have n0_ := a1z.mk (c4z (g := gb101) (o := .cells #[.int .i64 a0_0, .int .i64 a0_1, .int .i64 a0_2, .int .i64 a0_3, .int .i64 a0_4, .int .i64 a0_5, .int .i64 a0_6, .int .i64 a0_7] 109 (0, 0)) (by (with_reducible repeat (first | refine a7z ?_ _ | refine a8z ?_ | refine blk_alloc ?_ _)); exact BK101.1) hb); have n1_ := a1z.mk (b7z (by repeat (first | (with_reducible first | exact HB.1 | apply a5z | apply a2z | apply a4z | refine a9z ?_ GE101.1) | exact HB.1)) hb); clear BK101; clear HB; have BK101 := n0_; have HB := n1_; clear n0_ n1_; (try clear hb); (try clear hb2); (try clear hk); (try clear hi)))
   go_meet
   case rel => exact ⟨_, (true), (by first | rfl | (simp; done) | (simp [*]; done)), H', ⟨by first | omega | exact Nat.le_refl _⟩, ⟨by (with_reducible repeat (first | refine a7z ?_ _ | refine a8z ?_ | refine blk_alloc ?_ _)); exact BK101.1⟩, ⟨by repeat (first | (with_reducible first | exact HB.1 | apply a5z | apply a2z | apply a4z | refine a9z ?_ GE101.1) | exact HB.1)⟩⟩
 case rest =>
  clear HC2
  try clear c1
  try clear c2
  try clear p2
  try clear c5
  try clear c7
  try clear c9
  try clear c10
  try clear c10b0
  try clear c27
  try clear hcz11_0
  try clear hcz11_1
  try clear hcz11_2
  try clear hcz11_3
  try clear hcz11_4
  try clear hcz11_5
  try clear hcz11_6
  try clear hcz11_7
  try clear hcz13_0
  try clear hcz13_1
  try clear hcz13_2
  try clear hcz13_3
  try clear hcz13_4
  try clear hcz13_5
  try clear hcz13_6
  try clear hcz13_7
  try clear hcz15_0
  try clear hcz15_1
  try clear hcz15_2
  try clear hcz15_3
  try clear hcz15_4
  try clear hcz15_5
  try clear hcz15_6
  try clear hcz15_7
  try clear hcz17_0
  try clear hcz17_1
  try clear hcz17_2
  try clear hcz17_3
  try clear hcz17_4
  try clear hcz17_5
  try clear hcz17_6
  try clear hcz17_7
  try clear hcz19_0
  try clear hcz19_1
  try clear hcz19_2
  try clear hcz19_3
  try clear hcz19_4
  try clear hcz19_5
  try clear hcz19_6
  try clear hcz19_7
  try clear hcz21_0
  try clear hcz21_1
  try clear hcz21_2
  try clear hcz21_3
  try clear hcz21_4
  try clear hcz21_5
  try clear hcz21_6
  try clear hcz21_7
  try clear hcz22_0
  try clear hcz22_1
  try clear hcz22_2
  try clear hcz22_3
  try clear hcz22_4
  try clear hcz22_5
  try clear hcz22_6
  try clear hcz22_7
  try clear hcz24_0
  try clear hcz24_1
  try clear hcz24_2
  try clear hcz24_3
  try clear hcz24_4
  try clear hcz24_5
  try clear hcz24_6
  try clear hcz24_7
  try clear hcz26_0
  try clear hcz26_1
  try clear hcz26_2
  try clear hcz26_3
  try clear hcz26_4
  try clear hcz26_5
  try clear hcz26_6
  try clear hcz26_7
  try clear hcz27_0
  try clear hcz27_1
  try clear hcz27_2
  try clear hcz27_3
  try clear hcz27_4
  try clear hcz27_5
  try clear hcz27_6
  try clear hcz27_7
  try clear hcz29_0
  try clear hcz29_1
  try clear hcz29_2
  try clear hcz29_3
  try clear hcz29_4
  try clear hcz29_5
  try clear hcz29_6
  try clear hcz29_7
  try clear hcz31_0
  try clear hcz31_1
  try clear hcz31_2
  try clear hcz31_3
  try clear hcz31_4
  try clear hcz31_5
  try clear hcz31_6
  try clear hcz31_7
  try clear hfz11_0
  try clear hfz11_1
  try clear hfz11_2
  try clear hfz11_3
  try clear hfz11_4
  try clear hfz11_5
  try clear hfz11_6
  try clear hfz11_7
  try clear hfz13_0
  try clear hfz13_1
  try clear hfz13_2
  try clear hfz13_3
  try clear hfz13_4
  try clear hfz13_5
  try clear hfz13_6
  try clear hfz13_7
  try clear hfz15_0
  try clear hfz15_1
  try clear hfz15_2
  try clear hfz15_3
  try clear hfz15_4
  try clear hfz15_5
  try clear hfz15_6
  try clear hfz15_7
  try clear hfz17_0
  try clear hfz17_1
  try clear hfz17_2
  try clear hfz17_3
  try clear hfz17_4
  try clear hfz17_5
  try clear hfz17_6
  try clear hfz17_7
  try clear hfz19_0
  try clear hfz19_1
  try clear hfz19_2
  try clear hfz19_3
  try clear hfz19_4
  try clear hfz19_5
  try clear hfz19_6
  try clear hfz19_7
  try clear hfz21_0
  try clear hfz21_1
  try clear hfz21_2
  try clear hfz21_3
  try clear hfz21_4
  try clear hfz21_5
  try clear hfz21_6
  try clear hfz21_7
  try clear hfz22_0
  try clear hfz22_1
  try clear hfz22_2
  try clear hfz22_3
  try clear hfz22_4
  try clear hfz22_5
  try clear hfz22_6
  try clear hfz22_7
  try clear hfz24_0
  try clear hfz24_1
  try clear hfz24_2
  try clear hfz24_3
  try clear hfz24_4
  try clear hfz24_5
  try clear hfz24_6
  try clear hfz24_7
  try clear hfz26_0
  try clear hfz26_1
  try clear hfz26_2
  try clear hfz26_3
  try clear hfz26_4
  try clear hfz26_5
  try clear hfz26_6
  try clear hfz26_7
  try clear hfz27_0
  try clear hfz27_1
  try clear hfz27_2
  try clear hfz27_3
  try clear hfz27_4
  try clear hfz27_5
  try clear hfz27_6
  try clear hfz27_7
  try clear hfz29_0
  try clear hfz29_1
  try clear hfz29_2
  try clear hfz29_3
  try clear hfz29_4
  try clear hfz29_5
  try clear hfz29_6
  try clear hfz29_7
  try clear hfz31_0
  try clear hfz31_1
  try clear hfz31_2
  try clear hfz31_3
  try clear hfz31_4
  try clear hfz31_5
  try clear hfz31_6
  try clear hfz31_7
  obtain ⟨kq, x31_1, rfl, HA, HJ1, BK101, HB⟩ := hcut
  cases kq with
  | zero => exact absurd HA.1 (by simp [spec_l4Ok.j0])
  | succ kj1 =>
   have H := HA.1
   clear HA
   simp only [spec_l4Ok.j0] at H
   by_cases c33 : x31_1 = true
   ·subst c33
    have H1 : (some false) = some r := by rw [if_pos rfl] at H; exact H
    clear H
    have H := H1
    clear H1
    obtain rfl := Option.some.inj H
    go_wp2
    go_ret
    exact ⟨by first | rfl | (simp [c2z, c1z] <;> rfl) | (simp [*, c2z, c1z] <;> rfl), by repeat (first | (with_reducible first | exact HB.1 | apply a5z | apply a2z | apply a4z | refine a9z ?_ GE101.1) | exact HB.1)⟩
   ·replace c33 := Bool.eq_false_iff.mpr c33
    subst c33
    have H1 : (if a0_0 = 2 then ((spec_l1In.f a0_1 0 3).bind fun t106 => (some t106)) else (some (a0_1 == 0))) = some r := by rw [if_neg (show ¬ (false = true) by decide)] at H; exact H
    clear H
    have H := H1
    clear H1
    by_cases c34 : a0_0 = 2
    ·rw [if_pos c34] at H
     have c34b0 : (a0_0 == 2) = true := beq_iff_eq.mpr c34
     have c34b1 : (a0_0 != 2) = false := bne_eq_false_iff_eq.mpr c34
     clear c34
     replace H := Option.bind_eq_some_iff.mp H
     obtain ⟨t106, A350, H⟩ := H
     replace H : (some t106) = some r := H
     have A35 := a1z.mk A350
     clear A350
     obtain rfl := Option.some.inj H
     have hcz36_0 : wc.cell? ⟨gb101, 0, none⟩ = some (.int .i64 a0_0) := (a0z BK101.1 0).trans rfl
     have hcz36_1 : wc.cell? ⟨gb101, 1, none⟩ = some (.int .i64 a0_1) := (a0z BK101.1 1).trans rfl
     have hcz36_2 : wc.cell? ⟨gb101, 2, none⟩ = some (.int .i64 a0_2) := (a0z BK101.1 2).trans rfl
     have hcz36_3 : wc.cell? ⟨gb101, 3, none⟩ = some (.int .i64 a0_3) := (a0z BK101.1 3).trans rfl
     have hcz36_4 : wc.cell? ⟨gb101, 4, none⟩ = some (.int .i64 a0_4) := (a0z BK101.1 4).trans rfl
     have hcz36_5 : wc.cell? ⟨gb101, 5, none⟩ = some (.int .i64 a0_5) := (a0z BK101.1 5).trans rfl
     have hcz36_6 : wc.cell? ⟨gb101, 6, none⟩ = some (.int .i64 a0_6) := (a0z BK101.1 6).trans rfl
     have hcz36_7 : wc.cell? ⟨gb101, 7, none⟩ = some (.int .i64 a0_7) := (a0z BK101.1 7).trans rfl
     have hfz36_0 := a3z BK101.1 0
     have hfz36_1 := a3z BK101.1 1
     have hfz36_2 := a3z BK101.1 2
     have hfz36_3 := a3z BK101.1 3
     have hfz36_4 := a3z BK101.1 4
     have hfz36_5 := a3z BK101.1 5
     have hfz36_6 := a3z BK101.1 6
     have hfz36_7 := a3z BK101.1 7
     go_wp2_with (first | ((with_reducible refine c5z (f := 72) rfl ?_); refine d5z (some 37) rfl rfl Try.func72 (by kernel_rfl) rfl #[.int .i64 a0_1, .int .i64 0, .int .i64 3] rfl (by (try simp only [List.map_toArray, List.map_cons, List.map_nil]); first | done | rfl | (simp only [List.length_drop, List.length_take]; rfl)) ?_; (with_reducible refine (spec_l1In.calls a0_1 0 3 t106 _ A35.1).mono ?_); rintro e w' ⟨rfl, ⟨nd, rfl⟩⟩; refine ⟨_, rfl, ?_⟩))
     go_ret
     exact ⟨by first | rfl | (simp [c2z, c1z] <;> rfl) | (simp [*, c2z, c1z] <;> rfl), by repeat (first | (with_reducible first | exact HB.1 | apply a5z | apply a2z | apply a4z | refine a9z ?_ GE101.1) | exact HB.1)⟩
    ·rw [if_neg c34] at H
     have c34b0 : (a0_0 == 2) = false := beq_eq_false_iff_ne.mpr c34
     have c34b1 : (a0_0 != 2) = true := bne_iff_ne.mpr c34
     obtain rfl := Option.some.inj H
     have hcz37_0 : wc.cell? ⟨gb101, 0, none⟩ = some (.int .i64 a0_0) := (a0z BK101.1 0).trans rfl
     have hcz37_1 : wc.cell? ⟨gb101, 1, none⟩ = some (.int .i64 a0_1) := (a0z BK101.1 1).trans rfl
     have hcz37_2 : wc.cell? ⟨gb101, 2, none⟩ = some (.int .i64 a0_2) := (a0z BK101.1 2).trans rfl
     have hcz37_3 : wc.cell? ⟨gb101, 3, none⟩ = some (.int .i64 a0_3) := (a0z BK101.1 3).trans rfl
     have hcz37_4 : wc.cell? ⟨gb101, 4, none⟩ = some (.int .i64 a0_4) := (a0z BK101.1 4).trans rfl
     have hcz37_5 : wc.cell? ⟨gb101, 5, none⟩ = some (.int .i64 a0_5) := (a0z BK101.1 5).trans rfl
     have hcz37_6 : wc.cell? ⟨gb101, 6, none⟩ = some (.int .i64 a0_6) := (a0z BK101.1 6).trans rfl
     have hcz37_7 : wc.cell? ⟨gb101, 7, none⟩ = some (.int .i64 a0_7) := (a0z BK101.1 7).trans rfl
     have hfz37_0 := a3z BK101.1 0
     have hfz37_1 := a3z BK101.1 1
     have hfz37_2 := a3z BK101.1 2
     have hfz37_3 := a3z BK101.1 3
     have hfz37_4 := a3z BK101.1 4
     have hfz37_5 := a3z BK101.1 5
     have hfz37_6 := a3z BK101.1 6
     have hfz37_7 := a3z BK101.1 7
     go_wp2
     go_ret
     exact ⟨by first | rfl | (simp [c2z, c1z] <;> rfl) | (simp [*, c2z, c1z] <;> rfl), by repeat (first | (with_reducible first | exact HB.1 | apply a5z | apply a2z | apply a4z | refine a9z ?_ GE101.1) | exact HB.1)⟩
end Go.Proofs.Ytbhgkpfbggkgdaa.Q

namespace Go.Proofs.Ytbhgkpfbggkgdaa.Q
open Go.RowKit Go.Proofs.YtbhgkpfbggkgdaaW.PrintWords Go.Proofs.YtbhgkpfbggkgdaaW.PrintLast Go.Proofs.YtbhgkpfbggkgdaaW.PrintMore
attribute [local go_sem] e8z e6z f5z f4z e1z e0z e7z e5z
set_option linter.unusedVariables false
set_option linter.unusedSimpArgs false
def spec_RulesOk.l0 : Nat → List (S109) → Int → Option (Bool)
 | 0, _, _ => none
 | k + 1, x0, x3 => if x3 < (x0.length : Int) then (if 0 ≤ x3 then ((spec_l4Ok.f k ((c7z x0 x3).f0) ((c7z x0 x3).f1) ((c7z x0 x3).f2.f0) ((c7z x0 x3).f2.f1) ((c7z x0 x3).f3.f0) ((c7z x0 x3).f3.f1) ((c7z x0 x3).f4) ((c7z x0 x3).f5)).bind fun t102 => (if t102 = true then (spec_RulesOk.l0 k x0 (wrap64 (x3 + 1))) else (some false))) else (none)) else (some (decide ((x0.length : Int) ≤ 8)))
def spec_RulesOk.f (k : Nat) (l0 : List (S109)) : Option (Bool) := spec_RulesOk.l0 k l0 0
set_option maxHeartbeats 8000000 in
set_option maxRecDepth 100000 in
theorem spec_RulesOk.calls (k : Nat) (A0 : Option Addr) (c0 : Nat) (l0 : List (S109)) (r : Bool) (w : World) (hr0 : Kd.C k109 w A0 l0.length l0) (hc0 : l0.length ≤ c0) (h : spec_RulesOk.f k l0 = some r) :
  Calls Try.prog 36 #[.slice A0 l0.length c0] w fun e w' => e = .returned (.bool r) ∧ Below w.heap.size w w' := by
 have hu109 := Try.underlying109
 have HR0 := a1z.mk hr0
 have HC0 := a1z.mk hc0
 clear hr0 hc0
 have HB := a1z.mk (Below.refl w.heap.size w)
 have H : (spec_RulesOk.l0 k l0 0) = some r := h
 clear h
 have H' := a1z.mk H
 clear H
 go_enter Try.func36, Try.ntmps36
 go_wp2
 go_loopg [3] k (fun kq v3 w' => ∃ (x3_1 : Int), v3 = .int .i64 x3_1 ∧ a1z (spec_RulesOk.l0 kq l0 x3_1 = some r) ∧ a1z (kq ≤ k) ∧ a1z (Below w.heap.size w w'))
 case atStart => exact ⟨(0), (by first | rfl | (simp; done) | (simp [*]; done)), H', ⟨Nat.le_refl _⟩, ⟨by repeat (first | (with_reducible first | exact HB.1 | apply a5z | apply a2z | apply a4z) | exact HB.1)⟩⟩
 case round =>
  clear H'
  obtain ⟨x3_1, rfl, HA, HK1, HB⟩ := hrel
  cases gk with
  | zero => exact absurd HA.1 (by simp [spec_RulesOk.l0])
  | succ k1 =>
   have H := HA.1
   clear HA
   simp only [spec_RulesOk.l0] at H
   by_cases c2 : x3_1 < (l0.length : Int)
   ·rw [if_pos c2] at H
    have c2b0 : decide (x3_1 < (l0.length : Int)) = true := decide_eq_true c2
    clear c2
    by_cases c3 : 0 ≤ x3_1
    ·rw [if_pos c3] at H
     have c3b0 : decide (0 ≤ x3_1) = true := decide_eq_true c3
     clear c3
     replace H := Option.bind_eq_some_iff.mp H
     obtain ⟨t102, A40, H⟩ := H
     replace H : (if t102 = true then (spec_RulesOk.l0 k1 l0 (wrap64 (x3_1 + 1))) else (some false)) = some r := H
     have A4 := a1z.mk A40
     clear A40
     by_cases c5 : t102 = true
     ·subst c5
      have H1 : (spec_RulesOk.l0 k1 l0 (wrap64 (x3_1 + 1))) = some r := by rw [if_pos rfl] at H; exact H
      clear H
      have H := H1
      clear H1
      have H' := a1z.mk H
      clear H
      have p101 : 0 ≤ (x3_1 : Int) := of_decide_eq_true (by first | (with_reducible assumption) | assumption)
      have q101 : x3_1 < (l0.length : Int) := of_decide_eq_true (by first | (with_reducible assumption) | assumption)
      obtain ⟨ad101, e101, hx101_0, hx101_1, hx101_2, hx101_3, hx101_4, hx101_5, hx101_6, hx101_7⟩ := at_T109 HR0.1 x3_1 p101 q101
      cases e101
      replace hx101_0 := (HB.1.cell (World.block_lt_of_cell? w _ hx101_0)).trans hx101_0
      replace hx101_1 := (HB.1.cell (World.block_lt_of_cell? w _ hx101_1)).trans hx101_1
      replace hx101_2 := (HB.1.cell (World.block_lt_of_cell? w _ hx101_2)).trans hx101_2
      replace hx101_3 := (HB.1.cell (World.block_lt_of_cell? w _ hx101_3)).trans hx101_3
      replace hx101_4 := (HB.1.cell (World.block_lt_of_cell? w _ hx101_4)).trans hx101_4
      replace hx101_5 := (HB.1.cell (World.block_lt_of_cell? w _ hx101_5)).trans hx101_5
      replace hx101_6 := (HB.1.cell (World.block_lt_of_cell? w _ hx101_6)).trans hx101_6
      replace hx101_7 := (HB.1.cell (World.block_lt_of_cell? w _ hx101_7)).trans hx101_7
      replace p101 := eq_true p101
      replace q101 := eq_true q101
      go_wp2_with (first | ((with_reducible refine c5z (f := 78) rfl ?_); refine d5z (some 14) rfl rfl Try.func78 (by kernel_rfl) rfl #[.agg #[.int .i64 ((c7z l0 x3_1).f0), .int .i64 ((c7z l0 x3_1).f1), .int .i64 ((c7z l0 x3_1).f2.f0), .int .i64 ((c7z l0 x3_1).f2.f1), .int .i64 ((c7z l0 x3_1).f3.f0), .int .i64 ((c7z l0 x3_1).f3.f1), .int .i64 ((c7z l0 x3_1).f4), .int .i64 ((c7z l0 x3_1).f5)]] rfl (by (try simp only [List.map_toArray, List.map_cons, List.map_nil]); first | done | rfl | (simp only [List.length_drop, List.length_take]; rfl)) ?_; (with_reducible refine (spec_l4Ok.calls k1 ((c7z l0 x3_1).f0) ((c7z l0 x3_1).f1) ((c7z l0 x3_1).f2.f0) ((c7z l0 x3_1).f2.f1) ((c7z l0 x3_1).f3.f0) ((c7z l0 x3_1).f3.f1) ((c7z l0 x3_1).f4) ((c7z l0 x3_1).f5) true _ A4.1).mono ?_); rintro e w6 ⟨rfl, hb⟩; refine ⟨_, rfl, ?_⟩; have n0_ := a1z.mk (b7z (by repeat (first | (with_reducible first | exact HB.1 | apply a5z | apply a2z | apply a4z) | exact HB.1)) hb); clear HB; have HB := n0_; clear n0_; (try clear hb); (try clear hb2); (try clear hk); (try clear hi)))
      go_roundg k1
      case measure => have := HK1.1; omega
      case rel => exact ⟨(wrap64 (x3_1 + 1)), (by first | rfl | (simp; done) | (simp [*]; done)), H', ⟨by have := HK1.1; omega⟩, ⟨by repeat (first | (with_reducible first | exact HB.1 | apply a5z | apply a2z | apply a4z) | exact HB.1)⟩⟩
     ·replace c5 := Bool.eq_false_iff.mpr c5
      subst c5
      have H1 : (some false) = some r := by rw [if_neg (show ¬ (false = true) by decide)] at H; exact H
      clear H
      have H := H1
      clear H1
      obtain rfl := Option.some.inj H
      have p101 : 0 ≤ (x3_1 : Int) := of_decide_eq_true (by first | (with_reducible assumption) | assumption)
      have q101 : x3_1 < (l0.length : Int) := of_decide_eq_true (by first | (with_reducible assumption) | assumption)
      obtain ⟨ad101, e101, hx101_0, hx101_1, hx101_2, hx101_3, hx101_4, hx101_5, hx101_6, hx101_7⟩ := at_T109 HR0.1 x3_1 p101 q101
      cases e101
      replace hx101_0 := (HB.1.cell (World.block_lt_of_cell? w _ hx101_0)).trans hx101_0
      replace hx101_1 := (HB.1.cell (World.block_lt_of_cell? w _ hx101_1)).trans hx101_1
      replace hx101_2 := (HB.1.cell (World.block_lt_of_cell? w _ hx101_2)).trans hx101_2
      replace hx101_3 := (HB.1.cell (World.block_lt_of_cell? w _ hx101_3)).trans hx101_3
      replace hx101_4 := (HB.1.cell (World.block_lt_of_cell? w _ hx101_4)).trans hx101_4
      replace hx101_5 := (HB.1.cell (World.block_lt_of_cell? w _ hx101_5)).trans hx101_5
      replace hx101_6 := (HB.1.cell (World.block_lt_of_cell? w _ hx101_6)).trans hx101_6
      replace hx101_7 := (HB.1.cell (World.block_lt_of_cell? w _ hx101_7)).trans hx101_7
      replace p101 := eq_true p101
      replace q101 := eq_true q101
      go_wp2_with (first | ((with_reducible refine c5z (f := 78) rfl ?_); refine d5z (some 14) rfl rfl Try.func78 (by kernel_rfl) rfl #[.agg #[.int .i64 ((c7z l0 x3_1).f0), .int .i64 ((c7z l0 x3_1).f1), .int .i64 ((c7z l0 x3_1).f2.f0), .int .i64 ((c7z l0 x3_1).f2.f1), .int .i64 ((c7z l0 x3_1).f3.f0), .int .i64 ((c7z l0 x3_1).f3.f1), .int .i64 ((c7z l0 x3_1).f4), .int .i64 ((c7z l0 x3_1).f5)]] rfl (by (try simp only [List.map_toArray, List.map_cons, List.map_nil]); first | done | rfl | (simp only [List.length_drop, List.length_take]; rfl)) ?_; (with_reducible refine (spec_l4Ok.calls k1 ((c7z l0 x3_1).f0) ((c7z l0 x3_1).f1) ((c7z l0 x3_1).f2.f0) ((c7z l0 x3_1).f2.f1) ((c7z l0 x3_1).f3.f0) ((c7z l0 x3_1).f3.f1) ((c7z l0 x3_1).f4) ((c7z l0 x3_1).f5) false _ A4.1).mono ?_); rintro e w7 ⟨rfl, hb⟩; refine ⟨_, rfl, ?_⟩; have n0_ := a1z.mk (b7z (by repeat (first | (with_reducible first | exact HB.1 | apply a5z | apply a2z | apply a4z) | exact HB.1)) hb); clear HB; have HB := n0_; clear n0_; (try clear hb); (try clear hb2); (try clear hk); (try clear hi)))
      go_ret
      exact ⟨by first | rfl | (simp [c2z, c1z] <;> rfl) | (simp [*, c2z, c1z] <;> rfl), by repeat (first | (with_reducible first | exact HB.1 | apply a5z | apply a2z | apply a4z) | exact HB.1)⟩
    ·rw [if_neg c3] at H
     exact absurd H (by simp)
   ·rw [if_neg c2] at H
    have c2b0 : decide (x3_1 < (l0.length : Int)) = false := decide_eq_false c2
    clear c2
    obtain rfl := Option.some.inj H
    go_wp2
    go_ret
    exact ⟨by first | rfl | (simp [c2z, c1z] <;> rfl) | (simp [*, c2z, c1z] <;> rfl), by repeat (first | (with_reducible first | exact HB.1 | apply a5z | apply a2z | apply a4z) | exact HB.1)⟩
end Go.Proofs.Ytbhgkpfbggkgdaa.Q

namespace Go.Proofs.Ytbhgkpfbggkgdaa.Q
open Go.RowKit Go.Proofs.YtbhgkpfbggkgdaaW.PrintWords Go.Proofs.YtbhgkpfbggkgdaaW.PrintLast Go.Proofs.YtbhgkpfbggkgdaaW.PrintMore
attribute [local go_sem] e8z e6z f5z f4z e1z e0z e7z e5z
set_option linter.unusedVariables false
set_option linter.unusedSimpArgs false
def spec_l1Last.f (k : Nat) (a0_0 : Int) (a0_1 : Int) : Option (Int) := (spec_l1Size.f k a0_1).bind fun t102 => (some (wrap64 ((wrap64 (a0_0 + t102)) - 1)))
set_option maxHeartbeats 8000000 in
set_option maxRecDepth 100000 in
theorem spec_l1Last.calls (k : Nat) (a0_0 : Int) (a0_1 : Int) (r : Int) (w : World) (h : spec_l1Last.f k a0_0 a0_1 = some r) :
  Calls Try.prog 99 #[.agg #[.int .i64 a0_0, .int .i64 a0_1]] w fun e w' => e = .returned (.int .i64 r) ∧ Below w.heap.size w w' := by
 have hu24 := Try.underlying24
 have HB := a1z.mk (Below.refl w.heap.size w)
 have H : ((spec_l1Size.f k a0_1).bind fun t102 => (some (wrap64 ((wrap64 (a0_0 + t102)) - 1)))) = some r := h
 clear h
 replace H := Option.bind_eq_some_iff.mp H
 obtain ⟨t102, A20, H⟩ := H
 replace H : (some (wrap64 ((wrap64 (a0_0 + t102)) - 1))) = some r := H
 have A2 := a1z.mk A20
 clear A20
 obtain rfl := Option.some.inj H
 go_enter Try.func99, Try.ntmps99
 go_wp2_with (first | ((with_reducible refine d1z (N := 1) rfl ?_); refine d3z ?hg (N := 1) ?hd (cs := #[.int .i64 a0_0, .int .i64 a0_1]) (t := 24) ?hr ?_; (case hd => rfl); (case hg => rfl); (case hr => first | (go_simp; done) | (go_simp; rfl)); intro gb101 hg w3 hbox hb; have n0_ := a1z.mk (b7z (by repeat (first | (with_reducible first | exact HB.1 | apply a5z | apply a2z | apply a4z) | exact HB.1)) hb); have n1_ := a1z.mk (hbox); have n2_ := a1z.mk ((by rw [hg]; exact (b5z (by repeat (first | (with_reducible first | exact HB.1 | apply a5z | apply a2z | apply a4z) | exact HB.1))) : w.heap.size ≤ gb101)); have n3_ := a1z.mk ((by rw [hg]; exact (b5z (by repeat (first | (with_reducible first | exact HB.1 | apply a5z | apply a2z | apply a4z) | exact HB.1))) : w.heap.size ≤ gb101)); clear HB; have HB := n0_; have BK101 := n1_; have GW101 := n2_; have GE101 := n3_; clear n0_ n1_ n2_ n3_; clear hb hbox hg; have hcz4_0 : w3.cell? ⟨gb101, 0, none⟩ = some (.int .i64 a0_0) := (a0z BK101.1 0).trans rfl; have hcz4_1 : w3.cell? ⟨gb101, 1, none⟩ = some (.int .i64 a0_1) := (a0z BK101.1 1).trans rfl; have hfz4_0 := a3z BK101.1 0; have hfz4_1 := a3z BK101.1 1) | (go_at_call 73; (with_reducible refine (spec_l1Size.calls k a0_1 t102 _ A2.1).mono ?_); rintro e w' ⟨rfl, ⟨nd, rfl⟩⟩; (try first | exact ⟨rfl, _, World.drewN_drewN _ _ _⟩ | exact ⟨rfl, _, Eq.trans (World.drewN_drewN _ _ _) (congrArg (World.drewN _) (Nat.add_assoc _ _ _))⟩)))
 repeat (go_quiet (first | ((with_reducible refine d1z (N := 1) rfl ?_); refine d3z ?hg (N := 1) ?hd (cs := #[.int .i64 a0_0, .int .i64 a0_1]) (t := 24) ?hr ?_; (case hd => rfl); (case hg => rfl); (case hr => first | (go_simp; done) | (go_simp; rfl)); intro gb101 hg w3 hbox hb; have n0_ := a1z.mk (b7z (by repeat (first | (with_reducible first | exact HB.1 | apply a5z | apply a2z | apply a4z) | exact HB.1)) hb); have n1_ := a1z.mk (hbox); have n2_ := a1z.mk ((by rw [hg]; exact (b5z (by repeat (first | (with_reducible first | exact HB.1 | apply a5z | apply a2z | apply a4z) | exact HB.1))) : w.heap.size ≤ gb101)); have n3_ := a1z.mk ((by rw [hg]; exact (b5z (by repeat (first | (with_reducible first | exact HB.1 | apply a5z | apply a2z | apply a4z) | exact HB.1))) : w.heap.size ≤ gb101)); clear HB; have HB := n0_; have BK101 := n1_; have GW101 := n2_; have GE101 := n3_; clear n0_ n1_ n2_ n3_; clear hb hbox hg; have hcz4_0 : w3.cell? ⟨gb101, 0, none⟩ = some (.int .i64 a0_0) := (a0z BK101.1 0).trans rfl; have hcz4_1 : w3.cell? ⟨gb101, 1, none⟩ = some (.int .i64 a0_1) := (a0z BK101.1 1).trans rfl; have hfz4_0 := a3z BK101.1 0; have hfz4_1 := a3z BK101.1 1) | (go_at_call 73; (with_reducible refine (spec_l1Size.calls k a0_1 t102 _ A2.1).mono ?_); rintro e w' ⟨rfl, ⟨nd, rfl⟩⟩; (try first | exact ⟨rfl, _, World.drewN_drewN _ _ _⟩ | exact ⟨rfl, _, Eq.trans (World.drewN_drewN _ _ _) (congrArg (World.drewN _) (Nat.add_assoc _ _ _))⟩))); try go_wp2_with (first | ((with_reducible refine d1z (N := 1) rfl ?_); refine d3z ?hg (N := 1) ?hd (cs := #[.int .i64 a0_0, .int .i64 a0_1]) (t := 24) ?hr ?_; (case hd => rfl); (case hg => rfl); (case hr => first | (go_simp; done) | (go_simp; rfl)); intro gb101 hg w3 hbox hb; have n0_ := a1z.mk (b7z (by repeat (first | (with_reducible first | exact HB.1 | apply a5z | apply a2z | apply a4z) | exact HB.1)) hb); have n1_ := a1z.mk (hbox); have n2_ := a1z.mk ((by rw [hg]; exact (b5z (by repeat (first | (with_reducible first | exact HB.1 | apply a5z | apply a2z | apply a4z) | exact HB.1))) : w.heap.size ≤ gb101)); have n3_ := a1z.mk ((by rw [hg]; exact (b5z (by repeat (first | (with_reducible first | exact HB.1 | apply a5z | apply a2z | apply a4z) | exact HB.1))) : w.heap.size ≤ gb101)); clear HB; have HB := n0_; have BK101 := n1_; have GW101 := n2_; have GE101 := n3_; clear n0_ n1_ n2_ n3_; clear hb hbox hg; have hcz4_0 : w3.cell? ⟨gb101, 0, none⟩ = some (.int .i64 a0_0) := (a0z BK101.1 0).trans rfl; have hcz4_1 : w3.cell? ⟨gb101, 1, none⟩ = some (.int .i64 a0_1) := (a0z BK101.1 1).trans rfl; have hfz4_0 := a3z BK101.1 0; have hfz4_1 := a3z BK101.1 1) | (go_at_call 73; (with_reducible refine (spec_l1Size.calls k a0_1 t102 _ A2.1).mono ?_); rintro e w' ⟨rfl, ⟨nd, rfl⟩⟩; (try first | exact ⟨rfl, _, World.drewN_drewN _ _ _⟩ | exact ⟨rfl, _, Eq.trans (World.drewN_drewN _ _ _) (congrArg (World.drewN _) (Nat.add_assoc _ _ _))⟩))))
 go_ret
 exact ⟨by first | rfl | (simp [c2z, c1z] <;> rfl) | (simp [*, c2z, c1z] <;> rfl), by repeat (first | (with_reducible first | exact HB.1 | apply a5z | apply a2z | apply a4z | refine a9z ?_ GE101.1) | exact HB.1)⟩
end Go.Proofs.Ytbhgkpfbggkgdaa.Q

namespace Go.Proofs.Ytbhgkpfbggkgdaa.Q
open Go.RowKit Go.Proofs.YtbhgkpfbggkgdaaW.PrintWords Go.Proofs.YtbhgkpfbggkgdaaW.PrintLast Go.Proofs.YtbhgkpfbggkgdaaW.PrintMore
attribute [local go_sem] e8z e6z f5z f4z e1z e0z e7z e5z
set_option linter.unusedVariables false
set_option linter.unusedSimpArgs false
def spec_l3Num.l0 : Nat → List Int → Int → Int → Option (List Int)
 | 0, _, _, _ => none
 | k + 1, x0, x1, x5 => if x5 < (x0.length : Int) then (if 0 ≤ x5 then (if (rd x0 x5) < x1 then (spec_l3Num.l0 k x0 x1 (wrap64 (x5 + 1))) else (if (rd x0 x5) = x1 then (some x0) else ((some (([] : List Int) : List Int)).bind fun y103 => (if x5 ≤ (x0.length : Int) then ((some (x0.take (x5 : Int).toNat : List Int)).bind fun y106 => (if y103.length + y106.length < 17592186044416 then ((some (y103 ++ y106 : List Int)).bind fun y110 => ((some (([x1] : List Int) : List Int)).bind fun y113 => (if y110.length + y113.length < 17592186044416 then ((some (y110 ++ y113 : List Int)).bind fun y116 => ((some (x0.drop (x5 : Int).toNat : List Int)).bind fun y119 => (if y116.length + y119.length < 17592186044416 then (some (y116 ++ y119)) else (none)))) else (none)))) else (none))) else (none))))) else (none)) else ((some (([] : List Int) : List Int)).bind fun y126 => (if 0 ≤ x5 then (if x5 ≤ (x0.length : Int) then ((some (x0.take (x5 : Int).toNat : List Int)).bind fun y129 => (if y126.length + y129.length < 17592186044416 then ((some (y126 ++ y129 : List Int)).bind fun y133 => ((some (([x1] : List Int) : List Int)).bind fun y136 => (if y133.length + y136.length < 17592186044416 then ((some (y133 ++ y136 : List Int)).bind fun y139 => ((some (x0.drop (x5 : Int).toNat : List Int)).bind fun y142 => (if y139.length + y142.length < 17592186044416 then (some (y139 ++ y142)) else (none)))) else (none)))) else (none))) else (none)) else (none)))
def spec_l3Num.f (k : Nat) (l0 : List Int) (a1 : Int) : Option (List Int) := spec_l3Num.l0 k l0 a1 0
def spec_l3Num.T6 : Bool × List (List Nat × List Nat) := (true, [([], []), ([], []), ([], []), ([1, 2], [1, 2]), ([0, 3], [0, 3]), ([], []), ([5], [5]), ([4, 6, 4], [4, 6]), ([], []), ([], []), ([8, 9], [8, 9]), ([7, 10, 7], [7, 10]), ([11, 11, 0, 1, 2, 3, 4, 5, 6, 7, 8, 9, 10, 11], [11])])
def spec_l3Num.B6 : List Nat := [0, 0, 0, 6, 15, 0, 32, 127, 0, 0, 768, 2047, 4095]
theorem spec_l3Num.tab6 : rtab .any (opsOf Try.f130 6) = spec_l3Num.T6 := by kernel_rfl
theorem spec_l3Num.bits6 : waitsOk spec_l3Num.T6.2 spec_l3Num.B6 = true := by kernel_rfl
set_option maxHeartbeats 8000000 in
set_option maxRecDepth 100000 in
theorem spec_l3Num.calls (k : Nat) (P0_ : Nat → Prop) (u9000_ : Value) (l0 : List Int) (a1 : Int) (r : List Int) (w0 w : World) (hB : Below w0.heap.size w0 w) (ho0 : Kd.R (Kd.int .i64) 3 w w0.heap.size P0_ u9000_ l0) (h : spec_l3Num.f k l0 a1 = some r) :
  Calls Try.prog 130 #[u9000_, .int .i64 a1] w fun e w' => ∃ v0_ : Value, e = .returned (v0_) ∧ Kd.R (Kd.int .i64) 3 w' w0.heap.size (fun k_ => (P0_ k_ ∨ w.heap.size ≤ k_)) v0_ r ∧ Below w0.heap.size w0 w' ∧ Kept w w' (fun k_ => P0_ k_) := by
 have HO0 := a1z.mk (show Kd.R (Kd.int .i64) 3 w w0.heap.size (fun k_ => (P0_ k_ ∨ w.heap.size ≤ k_)) u9000_ l0 from Kd.c6z ho0 (fun k_ hk => (.inl hk)))
 have HK := a1z.mk (Kept.refl w (fun k_ => P0_ k_))
 have HW0 := a1z.mk hB.size
 have HB := a1z.mk hB
 clear hB
 have H : (spec_l3Num.l0 k l0 a1 0) = some r := h
 clear h
 have H' := a1z.mk H
 clear H
 go_enter Try.func130, Try.ntmps130
 go_wp2
 go_loopg [5] k (fun kq v5 w' => ∃ (x5_1 : Int), v5 = .int .i64 x5_1 ∧ a1z (spec_l3Num.l0 kq l0 a1 x5_1 = some r) ∧ a1z (kq ≤ k) ∧ a1z (Kd.R (Kd.int .i64) 3 w' w0.heap.size (fun k_ => (P0_ k_ ∨ w.heap.size ≤ k_)) u9000_ l0) ∧ a1z (Kept w w' (fun k_ => P0_ k_)) ∧ a1z (Below w0.heap.size w0 w'))
 case atStart => exact ⟨(0), (by first | rfl | (simp; done) | (simp [*]; done)), H', ⟨Nat.le_refl _⟩, ⟨by (with_reducible repeat (first | apply Kd.R_alloc | apply Kd.b1z | apply Kd.b3z)); exact HO0.1⟩, ⟨by repeat (first | (with_reducible first | exact HK.1 | apply Kept.alloc | apply Kept.drewN | apply Kept.drew) | exact HK.1)⟩, ⟨by repeat (first | (with_reducible first | exact HB.1 | apply a5z | apply a2z | apply a4z) | exact HB.1)⟩⟩
 case round =>
  clear H'
  try clear c1
  try clear p2
  obtain ⟨x5_1, rfl, HA, HK1, HO_0, HK, HB⟩ := hrel
  cases gk with
  | zero => exact absurd HA.1 (by simp [spec_l3Num.l0])
  | succ k1 =>
   have H := HA.1
   clear HA
   simp only [spec_l3Num.l0] at H
   by_cases c3 : x5_1 < (l0.length : Int)
   ·rw [if_pos c3] at H
    have c3b0 : decide (x5_1 < (l0.length : Int)) = true := decide_eq_true c3
    clear c3
    by_cases c4 : 0 ≤ x5_1
    ·rw [if_pos c4] at H
     have c4b0 : decide (0 ≤ x5_1) = true := decide_eq_true c4
     clear c4
     by_cases c5 : (rd l0 x5_1) < a1
     ·rw [if_pos c5] at H
      have c5b0 : decide ((rd l0 x5_1) < a1) = true := decide_eq_true c5
      clear c5
      have H' := a1z.mk H
      clear H
      obtain ⟨Ao6, co6, eo6⟩ := Kd.d6z HO_0.1
      subst eo6
      have p101 : 0 ≤ (x5_1 : Int) := of_decide_eq_true (by first | (with_reducible assumption) | assumption)
      have q101 : x5_1 < (l0.length : Int) := of_decide_eq_true (by first | (with_reducible assumption) | assumption)
      obtain ⟨ad101, e101, hx101_0⟩ := Kd.g9z (Kd.b9z HO_0.1).2.2 x5_1 p101 q101
      cases e101
      replace p101 := eq_true p101
      replace q101 := eq_true q101
      go_wp2
      go_roundg k1
      case measure => have := HK1.1; omega
      case rel => exact ⟨(wrap64 (x5_1 + 1)), (by first | rfl | (simp; done) | (simp [*]; done)), H', ⟨by have := HK1.1; omega⟩, ⟨by (with_reducible repeat (first | apply Kd.R_alloc | apply Kd.b1z | apply Kd.b3z)); exact HO_0.1⟩, ⟨by repeat (first | (with_reducible first | exact HK.1 | apply Kept.alloc | apply Kept.drewN | apply Kept.drew) | exact HK.1)⟩, ⟨by repeat (first | (with_reducible first | exact HB.1 | apply a5z | apply a2z | apply a4z) | exact HB.1)⟩⟩
     ·rw [if_neg c5] at H
      have c5b0 : decide ((rd l0 x5_1) < a1) = false := decide_eq_false c5
      clear c5
      by_cases c7 : (rd l0 x5_1) = a1
      ·rw [if_pos c7] at H
       have c7b0 : ((rd l0 x5_1) == a1) = true := beq_iff_eq.mpr c7
       have c7b1 : ((rd l0 x5_1) != a1) = false := bne_eq_false_iff_eq.mpr c7
       clear c7
       obtain rfl := Option.some.inj H
       obtain ⟨Ao8, co8, eo8⟩ := Kd.d6z HO_0.1
       subst eo8
       have p101 : 0 ≤ (x5_1 : Int) := of_decide_eq_true (by first | (with_reducible assumption) | assumption)
       have q101 : x5_1 < (l0.length : Int) := of_decide_eq_true (by first | (with_reducible assumption) | assumption)
       obtain ⟨ad101, e101, hx101_0⟩ := Kd.g9z (Kd.b9z HO_0.1).2.2 x5_1 p101 q101
       cases e101
       replace p101 := eq_true p101
       replace q101 := eq_true q101
       have p102 : 0 ≤ (x5_1 : Int) := of_decide_eq_true (by first | (with_reducible assumption) | assumption)
       have q102 : x5_1 < (l0.length : Int) := of_decide_eq_true (by first | (with_reducible assumption) | assumption)
       obtain ⟨ad102, e102, hx102_0⟩ := Kd.g9z (Kd.b9z HO_0.1).2.2 x5_1 p102 q102
       obtain rfl : ad101 = ad102 := (by injection e102)
       replace p102 := eq_true p102
       replace q102 := eq_true q102
       go_wp2
       go_ret
       exact ⟨_, by first | rfl | (simp [c2z, c1z] <;> rfl) | (simp [*, c2z, c1z] <;> rfl), by (with_reducible repeat (first | apply Kd.R_alloc | apply Kd.b1z | apply Kd.b3z)); exact HO_0.1, by repeat (first | (with_reducible first | exact HB.1 | apply a5z | apply a2z | apply a4z) | exact HB.1), by repeat (first | (with_reducible first | exact HK.1 | apply Kept.alloc | apply Kept.drewN | apply Kept.drew) | exact HK.1)⟩
      ·rw [if_neg c7] at H
       have c7b0 : ((rd l0 x5_1) == a1) = false := beq_eq_false_iff_ne.mpr c7
       have c7b1 : ((rd l0 x5_1) != a1) = true := bne_iff_ne.mpr c7
       obtain ⟨y103, hy103⟩ : ∃ y_ : List Int, y_ = (([] : List Int)) := ⟨_, rfl⟩
       replace H : (if x5_1 ≤ (l0.length : Int) then ((some (l0.take (x5_1 : Int).toNat : List Int)).bind fun y106 => (if y103.length + y106.length < 17592186044416 then ((some (y103 ++ y106 : List Int)).bind fun y110 => ((some (([a1] : List Int) : List Int)).bind fun y113 => (if y110.length + y113.length < 17592186044416 then ((some (y110 ++ y113 : List Int)).bind fun y116 => ((some (l0.drop (x5_1 : Int).toNat : List Int)).bind fun y119 => (if y116.length + y119.length < 17592186044416 then (some (y116 ++ y119)) else (none)))) else (none)))) else (none))) else (none)) = some r := by first | (rw [hy103]; with_reducible exact H) | (have H2_ := (Option.bind_some _ _).symm.trans H; rw [hy103]; with_reducible exact H2_) | (have H2_ := (Option.bind_some _ _).symm.trans H; with_reducible exact H2_) | with_reducible exact H | (rw [hy103]; exact H) | exact H
       have Ny103 := a1z.mk hy103
       clear hy103
       have c9b0 := eq_true (of_decide_eq_true (by first | (with_reducible assumption) | assumption) : 0 ≤ x5_1)
       by_cases c10 : x5_1 ≤ (l0.length : Int)
       ·rw [if_pos c10] at H
        have c10b0 := eq_true c10
        have c10b1 : decide (x5_1 ≤ (l0.length : Int)) = true := decide_eq_true c10
        clear c10
        obtain ⟨y106, hy106⟩ : ∃ y_ : List Int, y_ = (l0.take (x5_1 : Int).toNat) := ⟨_, rfl⟩
        replace H : (if y103.length + y106.length < 17592186044416 then ((some (y103 ++ y106 : List Int)).bind fun y110 => ((some (([a1] : List Int) : List Int)).bind fun y113 => (if y110.length + y113.length < 17592186044416 then ((some (y110 ++ y113 : List Int)).bind fun y116 => ((some (l0.drop (x5_1 : Int).toNat : List Int)).bind fun y119 => (if y116.length + y119.length < 17592186044416 then (some (y116 ++ y119)) else (none)))) else (none)))) else (none)) = some r := by first | (rw [hy106]; with_reducible exact H) | (have H2_ := (Option.bind_some _ _).symm.trans H; rw [hy106]; with_reducible exact H2_) | (have H2_ := (Option.bind_some _ _).symm.trans H; with_reducible exact H2_) | with_reducible exact H | (rw [hy106]; exact H) | exact H
        have Ny106 := a1z.mk hy106
        clear hy106
        by_cases c11 : y103.length + y106.length < 17592186044416
        ·rw [if_pos c11] at H
         have LMc11 := a1z.mk c11
         clear c11
         obtain ⟨y110, hy110⟩ : ∃ y_ : List Int, y_ = (y103 ++ y106) := ⟨_, rfl⟩
         replace H : ((some (([a1] : List Int) : List Int)).bind fun y113 => (if y110.length + y113.length < 17592186044416 then ((some (y110 ++ y113 : List Int)).bind fun y116 => ((some (l0.drop (x5_1 : Int).toNat : List Int)).bind fun y119 => (if y116.length + y119.length < 17592186044416 then (some (y116 ++ y119)) else (none)))) else (none))) = some r := by first | (rw [hy110]; with_reducible exact H) | (have H2_ := (Option.bind_some _ _).symm.trans H; rw [hy110]; with_reducible exact H2_) | (have H2_ := (Option.bind_some _ _).symm.trans H; with_reducible exact H2_) | with_reducible exact H | (rw [hy110]; exact H) | exact H
         have Ny110 := a1z.mk hy110
         clear hy110
         obtain ⟨y113, hy113⟩ : ∃ y_ : List Int, y_ = (([a1] : List Int)) := ⟨_, rfl⟩
         replace H : (if y110.length + y113.length < 17592186044416 then ((some (y110 ++ y113 : List Int)).bind fun y116 => ((some (l0.drop (x5_1 : Int).toNat : List Int)).bind fun y119 => (if y116.length + y119.length < 17592186044416 then (some (y116 ++ y119)) else (none)))) else (none)) = some r := by first | (rw [hy113]; with_reducible exact H) | (have H2_ := (Option.bind_some _ _).symm.trans H; rw [hy113]; with_reducible exact H2_) | (have H2_ := (Option.bind_some _ _).symm.trans H; with_reducible exact H2_) | with_reducible exact H | (rw [hy113]; exact H) | exact H
         have Ny113 := a1z.mk hy113
         clear hy113
         by_cases c12 : y110.length + y113.length < 17592186044416
         ·rw [if_pos c12] at H
          have LMc12 := a1z.mk c12
          clear c12
          obtain ⟨y116, hy116⟩ : ∃ y_ : List Int, y_ = (y110 ++ y113) := ⟨_, rfl⟩
          replace H : ((some (l0.drop (x5_1 : Int).toNat : List Int)).bind fun y119 => (if y116.length + y119.length < 17592186044416 then (some (y116 ++ y119)) else (none))) = some r := by first | (rw [hy116]; with_reducible exact H) | (have H2_ := (Option.bind_some _ _).symm.trans H; rw [hy116]; with_reducible exact H2_) | (have H2_ := (Option.bind_some _ _).symm.trans H; with_reducible exact H2_) | with_reducible exact H | (rw [hy116]; exact H) | exact H
          have Ny116 := a1z.mk hy116
          clear hy116
          have c13b0 := eq_true (of_decide_eq_true (by first | (with_reducible assumption) | assumption) : 0 ≤ x5_1)
          have c14b0 := eq_true (of_decide_eq_true (by first | (with_reducible assumption) | assumption) : x5_1 ≤ (l0.length : Int))
          obtain ⟨y119, hy119⟩ : ∃ y_ : List Int, y_ = (l0.drop (x5_1 : Int).toNat) := ⟨_, rfl⟩
          replace H : (if y116.length + y119.length < 17592186044416 then (some (y116 ++ y119)) else (none)) = some r := by first | (rw [hy119]; with_reducible exact H) | (have H2_ := (Option.bind_some _ _).symm.trans H; rw [hy119]; with_reducible exact H2_) | (have H2_ := (Option.bind_some _ _).symm.trans H; with_reducible exact H2_) | with_reducible exact H | (rw [hy119]; exact H) | exact H
          have Ny119 := a1z.mk hy119
          clear hy119
          by_cases c15 : y116.length + y119.length < 17592186044416
          ·rw [if_pos c15] at H
           have LMc15 := a1z.mk c15
           clear c15
           obtain ⟨y123, hy123⟩ : ∃ y_ : List Int, y_ = (y116 ++ y119) := ⟨_, rfl⟩
           replace H : (some y123) = some r := by first | (rw [hy123]; with_reducible exact H) | (have H2_ := (Option.bind_some _ _).symm.trans H; rw [hy123]; with_reducible exact H2_) | (have H2_ := (Option.bind_some _ _).symm.trans H; with_reducible exact H2_) | with_reducible exact H | (rw [hy123]; exact H) | exact H
           have Ny123 := a1z.mk hy123
           clear hy123
           obtain rfl := Option.some.inj H
           obtain ⟨Ao16, co16, eo16⟩ := Kd.d6z HO_0.1
           subst eo16
           have p101 : 0 ≤ (x5_1 : Int) := of_decide_eq_true (by first | (with_reducible assumption) | assumption)
           have q101 : x5_1 < (l0.length : Int) := of_decide_eq_true (by first | (with_reducible assumption) | assumption)
           obtain ⟨ad101, e101, hx101_0⟩ := Kd.g9z (Kd.b9z HO_0.1).2.2 x5_1 p101 q101
           cases e101
           replace p101 := eq_true p101
           replace q101 := eq_true q101
           have p102 : 0 ≤ (x5_1 : Int) := of_decide_eq_true (by first | (with_reducible assumption) | assumption)
           have q102 : x5_1 < (l0.length : Int) := of_decide_eq_true (by first | (with_reducible assumption) | assumption)
           obtain ⟨ad102, e102, hx102_0⟩ := Kd.g9z (Kd.b9z HO_0.1).2.2 x5_1 p102 q102
           obtain rfl : ad101 = ad102 := (by injection e102)
           replace p102 := eq_true p102
           replace q102 := eq_true q102
           try go_wp2
           have n0_ := a1z.mk (Kd.b3z HO_0.1)
           have n1_ := a1z.mk (Kept.drew HK.1)
           have n2_ := a1z.mk (a4z HB.1)
           clear HO_0
           clear HK
           clear HB
           have HO_0 := n0_
           have HK := n1_
           have HB := n2_
           clear n0_ n1_ n2_
           have q18 : (x5_1 : Int) ≤ ((l0.length : Int) : Int) := of_decide_eq_true (by first | (with_reducible assumption) | assumption)
           obtain ⟨i018, hi018, _, hsz18, _⟩ := info_parts info3
           have hroom18 : l0.length ≤ co16 := (Kd.b9z HO_0.1).2.1
           have hC18 : Kd.C (Kd.int .i64) _ (some ad101) l0.length l0 := (Kd.b9z HO_0.1).2.2
           have hcut18 := cut_to (P := Try.prog) 132 3 .i64 Try.underlying132 hi018 (some ad101) l0.length co16 x5_1 (of_decide_eq_true (by first | (with_reducible assumption) | assumption)) q18 hroom18
           have hr18 := Kd.C_take (m := (x5_1 : Int).toNat) hC18 (by omega)
           have hy18 : y106.length = (x5_1 : Int).toNat := (by rw [Ny106.1, List.length_take]; omega)
           rw [← Ny106.1] at hr18
           rw [← hy18] at hcut18
           have HR109 := a1z.mk hr18
           have HC109 := a1z.mk (show y106.length ≤ co16 from by omega)
           clear hr18 hC18 hroom18 hi018 hsz18
           have KY18 := a1z.mk hy18
           clear hy18
           have KL18 := a1z.mk (show (x5_1 : Int).toNat ≤ l0.length from by omega)
           replace q18 := eq_true q18
           have q19 : (x5_1 : Int) ≤ ((l0.length : Int) : Int) := of_decide_eq_true (by first | (with_reducible assumption) | assumption)
           obtain ⟨i019, hi019, _, hsz19, _⟩ := info_parts info3
           have hroom19 : l0.length ≤ co16 := (Kd.b9z HO_0.1).2.1
           have hC19 : Kd.C (Kd.int .i64) _ (some ad101) l0.length l0 := (Kd.b9z HO_0.1).2.2
           have q019 : (0 : Int) ≤ (x5_1 : Int) := of_decide_eq_true (by first | (with_reducible assumption) | assumption)
           have hcut19 := cut_from (P := Try.prog) 132 3 .i64 Try.underlying132 hi019 1 hsz19 (some ad101) l0.length co16 x5_1 q019 q19
           have hr19 := Kd.C_drop (m := (x5_1 : Int).toNat) (c := co16) hC19 (by omega) hroom19
           obtain ⟨A19, hA19⟩ : ∃ A1, A1 = (if co16 = (x5_1 : Int).toNat then (some ad101) else ((some ad101) : Option Addr).map (·.add ((x5_1 : Int).toNat * 1))) := ⟨_, rfl⟩
           obtain ⟨c19, hc19⟩ : ∃ c1, c1 = co16 - (x5_1 : Int).toNat := ⟨_, rfl⟩
           have hy19 : y119.length = l0.length - (x5_1 : Int).toNat := (by rw [Ny119.1, List.length_drop] <;> omega)
           rw [show (l0).drop (x5_1 : Int).toNat = y119 from Ny119.1.symm] at hr19
           replace hr19 : Kd.C (Kd.int .i64) _ A19 y119.length y119 := (by rw [hA19]; exact hr19)
           rw [← hy19, ← hA19, ← hc19] at hcut19
           have HR122 := a1z.mk hr19
           have HC122 := a1z.mk (show y119.length ≤ c19 from by rw [hy19, hc19]; exact Nat.sub_le_sub_right hroom19 _)
           clear hr19 hC19 hroom19 hi019 hsz19 hc19
           have KY19 := a1z.mk hy19
           have KA19 := a1z.mk hA19
           clear hy19 hA19
           have KL19 := a1z.mk (show (x5_1 : Int).toNat ≤ l0.length from by omega)
           replace q19 := eq_true q19
           refine h9z (n := 13) (S := fun w' => True) (ds := []) #[false, false, false, false, false, false, false, false, false, false, false, false, false] (by kernel_rfl) rfl rfl trivial (fun hHeld => ?_); refine g7z spec_l3Num.tab6 spec_l3Num.bits6 (fun HT_ HW_ => ?_)
           generalize wr.drew = w17 at HO_0 HK HB HR109 HR122 hHeld ⊢
           refine pure_ (i := 1) (N := some 34) (v := ?_) (a' := ?_) #[false, true, false, false, false, false, false, false, false, false, false, false, false] rfl rfl (c9z HT_.1 (by kernel_rfl)) (fun _ _ _ h => h) (Or.inl ⟨by rfl, ?_⟩) ?_ ?_
           rotate_left
           ·intro w'
            go_simp
            with_reducible rfl
           rotate_left
           ·simp only [Act.put, sA_, sZ_, sS_, i64_w, i32_w]
            rfl
           refine pure_ (i := 2) (N := some 35) (v := ?_) (a' := ?_) #[false, true, true, false, false, false, false, false, false, false, false, false, false] rfl rfl (c9z HT_.1 (by kernel_rfl)) (fun _ _ _ h => h) (Or.inl ⟨by rfl, ?_⟩) ?_ ?_
           rotate_left
           ·intro w'
            go_simp
            with_reducible rfl
           rotate_left
           ·simp only [Act.put, sA_, sZ_, sS_, i64_w, i32_w]
            rfl
           refine pure_ (i := 3) (N := some 36) (v := ?_) (a' := ?_) #[false, true, true, true, false, false, false, false, false, false, false, false, false] rfl rfl (c9z HT_.1 (by kernel_rfl)) (fun _ _ _ h => h) (Or.inl ⟨by rfl, ?_⟩) ?_ ?_
           rotate_left
           ·intro w'
            go_simp
            with_reducible rfl
           rotate_left
           ·simp only [Act.put, sA_, sZ_, sS_, i64_w, i32_w]
            rfl
           refine pure_ (i := 5) (N := some 38) (v := ?_) (a' := ?_) #[false, true, true, true, false, true, false, false, false, false, false, false, false] rfl rfl (c9z HT_.1 (by kernel_rfl)) (fun _ _ _ h => h) (Or.inl ⟨by rfl, ?_⟩) ?_ ?_
           rotate_left
           ·intro w'
            go_simp
            with_reducible rfl
           rotate_left
           ·simp only [Act.put, sA_, sZ_, sS_, i64_w, i32_w]
            rfl
           refine pure_ (i := 8) (N := some 41) (v := ?_) (a' := ?_) #[false, true, true, true, false, true, false, false, true, false, false, false, false] rfl rfl (c9z HT_.1 (by kernel_rfl)) (fun _ _ _ h => h) (Or.inl ⟨by rfl, ?_⟩) ?_ ?_
           rotate_left
           ·intro w'
            go_simp
            with_reducible rfl
           rotate_left
           ·simp only [Act.put, sA_, sZ_, sS_, i64_w, i32_w]
            rfl
           refine pure_ (i := 9) (N := some 42) (v := ?_) (a' := ?_) #[false, true, true, true, false, true, false, false, true, true, false, false, false] rfl rfl (c9z HT_.1 (by kernel_rfl)) (fun _ _ _ h => h) (Or.inl ⟨by rfl, ?_⟩) ?_ ?_
           rotate_left
           ·intro w'
            go_simp
            with_reducible rfl
           rotate_left
           ·simp only [Act.put, sA_, sZ_, sS_, i64_w, i32_w]
            rfl
           refine pure_ (i := 10) (N := some 43) (v := ?_) (a' := ?_) #[false, true, true, true, false, true, false, false, true, true, true, false, false] rfl rfl (c9z HT_.1 (by kernel_rfl)) (fun _ _ _ h => h) (Or.inl ⟨by rfl, ?_⟩) ?_ ?_
           rotate_left
           ·intro w'
            go_simp
            with_reducible rfl
           rotate_left
           ·simp only [Act.put, sA_, sZ_, sS_, i64_w, i32_w]
            rfl
           refine join_ (σ := Value × Value × Value) 3 #[true, true, true, true, true, true, true, false, true, true, true, false, false] (fun s_ => [(33, s_.1), (37, s_.2.1), (39, s_.2.2)]) (fun s_ w' => (Kd.R (Kd.int .i64) 3 w' w0.heap.size (fun k_ => (P0_ k_ ∨ w.heap.size ≤ k_) ∧ some k_ ≠ (s_.2.2 : Value).ownBlock ∧ some k_ ≠ (.slice (some ad101) l0.length co16 : Value).ownBlock) s_.2.1 y110) ∧ (Kd.R (Kd.int .i64) 3 w' w0.heap.size (fun k_ => (P0_ k_ ∨ w.heap.size ≤ k_) ∧ some k_ ≠ (s_.2.1 : Value).ownBlock ∧ some k_ ≠ (.slice (some ad101) l0.length co16 : Value).ownBlock) s_.2.2 y113) ∧ (Kd.R (Kd.int .i64) 3 w' w0.heap.size (fun k_ => (P0_ k_ ∨ w.heap.size ≤ k_) ∧ some k_ ≠ (s_.2.1 : Value).ownBlock ∧ some k_ ≠ (s_.2.2 : Value).ownBlock) (.slice (some ad101) l0.length co16) l0) ∧ (Kd.C (Kd.int .i64) w' (some ad101) y106.length y106) ∧ (Kd.C (Kd.int .i64) w' A19 y119.length y119) ∧ (Kept w w' (fun k_ => P0_ k_)) ∧ (Below w0.heap.size w0 w')) ?_ ?_
           rotate_left
           ·intro hCont
            refine two_ (i := 0) (j := 6) (Ni := some 33) (Nj := some 39) #[true, true, true, true, false, true, false, false, true, true, true, false, false] #[false, true, true, true, false, true, true, false, true, true, true, false, false] rfl rfl rfl rfl (two_of HT_.1 (by kernel_rfl)) (by decide) (by decide) (fun K hK => ?_) (fun K hK => ?_)
            ·skip
             refine Kd.g8z (Kd.int .i64) _ 3 ?hg (N := 33) ?hd (xs := ([] : List Int)) (inner := []) (ok := fun _ => True) (okp := fun _ => True) ?hr ?hp (fun _ hk => hk) trivial (Below.refl _ _) (Nat.le_refl _) (by simp) ?_; (case hd => rfl); (case hg => rfl); (case hr => first | (go_simp; done) | (go_simp; rfl)); (case hp => exact (Reps.none _ _))
             intro v104 w20 ho21 hb hg_ hnew_
             clear hg_ hnew_
             (first | rw [← Ny103.1] at ho21 | (simp only [Int.reduceToNat] at ho21; rw [← Ny103.1] at ho21))
             have n0_ := a1z.mk (Kd.f0z (by (with_reducible repeat (first | apply Kd.R_alloc | apply Kd.b1z | apply Kd.b3z)); exact HO_0.1) (Kd.f8z ho21) hb)
             have n1_ := a1z.mk (Kd.e4z (Kd.f9z (Kd.R_newM (M := fun k_ => (P0_ k_ ∨ w.heap.size ≤ k_)) ho21 (by first | exact HK.1.1 | exact (show Kept w _ (fun k_ => P0_ k_) from by repeat (first | (with_reducible first | exact HK.1 | apply Kept.alloc | apply Kept.drewN | apply Kept.drew) | exact HK.1)).1) (fun k_ h_ => .inr h_)) (Kd.R_lt (by (with_reducible repeat (first | apply Kd.R_alloc | apply Kd.b1z | apply Kd.b3z)); exact HO_0.1))) (b5z (by repeat (first | (with_reducible first | exact HB.1 | apply a5z | apply a2z | apply a4z) | exact HB.1))))
             have n2_ := a1z.mk (Kd.g1z (by repeat (first | (with_reducible exact HR109.1) | (with_reducible refine Kd.C_alloc ?_ _) | (with_reducible refine Kd.C_drewN ?_ _) | (with_reducible refine Kd.C_drew ?_) | exact HR109.1)) hb)
             have n3_ := a1z.mk (Kd.g1z (by repeat (first | (with_reducible exact HR122.1) | (with_reducible refine Kd.C_alloc ?_ _) | (with_reducible refine Kd.C_drewN ?_ _) | (with_reducible refine Kd.C_drew ?_) | exact HR122.1)) hb)
             have n4_ := a1z.mk (Kept.below (S := (fun k_ => P0_ k_)) (by repeat (first | (with_reducible first | exact HK.1 | apply Kept.alloc | apply Kept.drewN | apply Kept.drew) | exact HK.1)) hb)
             have n5_ := a1z.mk (b7z (by repeat (first | (with_reducible first | exact HB.1 | apply a5z | apply a2z | apply a4z) | exact HB.1)) hb)
             clear HO_0
             clear HR109
             clear HR122
             clear HK
             clear HB
             have HO_0 := n0_
             have HO105 := n1_
             have HR109 := n2_
             have HR122 := n3_
             have HK := n4_
             have HB := n5_
             clear n0_ n1_ n2_ n3_ n4_ n5_
             clear hb ho21
             refine hK.out _ _ trivial (fun hHeld => ?_)
             clear hK K
             refine norm_ (a' := ?_) ?_ ?_
             rotate_left
             ·show Act.put _ (some 33) _ = _
              simp only [Act.put, sA_, sZ_, sS_, i64_w, i32_w]
              rfl
             refine two_ (i := 4) (j := 6) (Ni := some 37) (Nj := some 39) #[true, true, true, true, true, true, false, false, true, true, true, false, false] #[true, true, true, true, false, true, true, false, true, true, true, false, false] rfl rfl rfl rfl (two_of HT_.1 (by kernel_rfl)) (by decide) (by decide) (fun K hK => ?_) (fun K hK => ?_)
             ·skip
              refine Kd.f7z (Kd.int .i64) (w0 := w0) w0.heap.size (by rfl) (.tmp 33) (.tmp 36) 132 3 (.int .i64 0) 8 rfl Try.underlying132 info3 rfl (by decide) (by omega) v104 y103 y106 _ _ _ (fun k_ => (P0_ k_ ∨ w.heap.size ≤ k_) ∧ some k_ ≠ (.slice (some ad101) l0.length co16 : Value).ownBlock) (fun _ => False) rfl rfl ?aO ?aR (fun _ _ h => h) (fun _ h => h.elim) ?aF ?aB ?aS ?aL ?_
              (case aR => repeat (first | exact (by repeat (first | (with_reducible exact HR109.1) | (with_reducible refine Kd.C_alloc ?_ _) | (with_reducible refine Kd.C_drewN ?_ _) | (with_reducible refine Kd.C_drew ?_) | exact HR109.1)) | (with_reducible refine Kd.C_alloc ?_ _) | (with_reducible refine Kd.C_drewN ?_ _) | (with_reducible refine Kd.C_drew ?_)))
              (case aB => exact (by repeat (first | (with_reducible first | exact HB.1 | apply a5z | apply a2z | apply a4z) | exact HB.1)))
              (case aF => exact (fun k_ hk => ⟨(.inr (Nat.le_trans (by first | exact HK.1.1 | exact (show Kept w _ (fun k_ => P0_ k_) from by repeat (first | (with_reducible first | exact HK.1 | apply Kept.alloc | apply Kept.drewN | apply Kept.drew) | exact HK.1)).1) hk)), Kd.fresh' (Kd.R_lt (by (with_reducible repeat (first | apply Kd.R_alloc | apply Kd.b1z | apply Kd.b3z)); exact HO_0.1)) k_ hk⟩))
              (case aO => exact (by (with_reducible repeat (first | apply Kd.R_alloc | apply Kd.b1z | apply Kd.b3z)); exact Kd.c6z HO105.1 (fun _ hk => ⟨hk.1.1, hk.2⟩)))
              (case aS => exact (b5z (by repeat (first | (with_reducible first | exact HB.1 | apply a5z | apply a2z | apply a4z) | exact HB.1))))
              (case aL => have := LMc11.1; omega)
              intro v111 w22 ho hb hg hat
              rw [← Ny110.1] at ho
              have n0_ := a1z.mk (Kd.e3z (ok := (fun k_ => (P0_ k_ ∨ w.heap.size ≤ k_))) (by (with_reducible repeat (first | apply Kd.R_alloc | apply Kd.b1z | apply Kd.b3z)); exact HO_0.1) hg hat)
              have n1_ := a1z.mk (hb)
              have n2_ := a1z.mk (Kept.of_grown (S := (fun k_ => P0_ k_)) hg (by repeat (first | (with_reducible first | exact HK.1 | apply Kept.alloc | apply Kept.drewN | apply Kept.drew) | exact HK.1)) (fun k_ e_ => (HO105.1.1 k_ e_).1.1))
              have n3_ := a1z.mk ((show Kd.C (Kd.int .i64) w22 (some ad101) y106.length y106 from by rw [Ny106.1]; exact Kd.C_take (m := (x5_1 : Int).toNat) ((Kd.b9z (Kd.e3z (ok := (fun k_ => (P0_ k_ ∨ w.heap.size ≤ k_))) (by (with_reducible repeat (first | apply Kd.R_alloc | apply Kd.b1z | apply Kd.b3z)); exact HO_0.1) hg hat)).2.2) KL18.1))
              have n4_ := a1z.mk ((show Kd.C (Kd.int .i64) w22 A19 y119.length y119 from by rw [Ny119.1, KA19.1]; exact Kd.C_drop (m := (x5_1 : Int).toNat) (c := co16) ((Kd.b9z (Kd.e3z (ok := (fun k_ => (P0_ k_ ∨ w.heap.size ≤ k_))) (by (with_reducible repeat (first | apply Kd.R_alloc | apply Kd.b1z | apply Kd.b3z)); exact HO_0.1) hg hat)).2.2) KL19.1 ((Kd.b9z (Kd.e3z (ok := (fun k_ => (P0_ k_ ∨ w.heap.size ≤ k_))) (by (with_reducible repeat (first | apply Kd.R_alloc | apply Kd.b1z | apply Kd.b3z)); exact HO_0.1) hg hat)).2.1)))
              have n5_ := a1z.mk (ho)
              clear HO_0
              clear HB
              clear HK
              clear HR109
              clear HR122
              clear HO105
              have HO_0 := n0_
              have HB := n1_
              have HK := n2_
              have HR109 := n3_
              have HR122 := n4_
              have HO112 := n5_
              clear n0_ n1_ n2_ n3_ n4_ n5_
              clear ho hb hg hat
              refine hK.out _ _ trivial (fun hHeld => ?_)
              clear hK K
              refine norm_ (a' := ?_) ?_ ?_
              rotate_left
              ·show Act.put _ (some 37) _ = _
               simp only [Act.put, sA_, sZ_, sS_, i64_w, i32_w]
               rfl
              refine one_ (i := 6) (N := some 39) #[true, true, true, true, true, true, true, false, true, true, true, false, false] rfl rfl (f1z HT_.1 (by kernel_rfl)) (by decide) (fun K hK => ?_)
              refine Kd.g8z (Kd.int .i64) _ 3 ?hg (N := 39) ?hd (xs := ([a1] : List Int)) (inner := [.int .i64 a1]) (ok := fun _ => True) (okp := fun _ => True) ?hr ?hp (fun _ hk => hk) trivial (Below.refl _ _) (Nat.le_refl _) (by simp) ?_; (case hd => rfl); (case hg => rfl); (case hr => first | (go_simp; done) | (go_simp; rfl)); (case hp => exact (Reps.one (show Kd.M (Kd.int .i64) _ _ _ a1 [.int .i64 a1] from rfl) (Reps.none _ _)))
              intro v114 w23 ho24 hb hg_ hnew_
              clear hg_ hnew_
              (first | rw [← Ny113.1] at ho24 | (simp only [Int.reduceToNat] at ho24; rw [← Ny113.1] at ho24))
              have n0_ := a1z.mk (Kd.f0z (by (with_reducible repeat (first | apply Kd.R_alloc | apply Kd.b1z | apply Kd.b3z)); exact HO_0.1) (Kd.f8z ho24) hb)
              have n1_ := a1z.mk (Kd.f0z (by (with_reducible repeat (first | apply Kd.R_alloc | apply Kd.b1z | apply Kd.b3z)); exact HO112.1) (Kd.f8z ho24) hb)
              have n2_ := a1z.mk (Kd.e4z (Kd.f9z (Kd.f9z (Kd.R_newM (M := fun k_ => (P0_ k_ ∨ w.heap.size ≤ k_)) ho24 (by first | exact HK.1.1 | exact (show Kept w _ (fun k_ => P0_ k_) from by repeat (first | (with_reducible first | exact HK.1 | apply Kept.alloc | apply Kept.drewN | apply Kept.drew) | exact HK.1)).1) (fun k_ h_ => .inr h_)) (Kd.R_lt (by (with_reducible repeat (first | apply Kd.R_alloc | apply Kd.b1z | apply Kd.b3z)); exact HO_0.1))) (Kd.R_lt (by (with_reducible repeat (first | apply Kd.R_alloc | apply Kd.b1z | apply Kd.b3z)); exact HO112.1))) (b5z (by repeat (first | (with_reducible first | exact HB.1 | apply a5z | apply a2z | apply a4z) | exact HB.1))))
              have n3_ := a1z.mk (Kd.g1z (by repeat (first | (with_reducible exact HR109.1) | (with_reducible refine Kd.C_alloc ?_ _) | (with_reducible refine Kd.C_drewN ?_ _) | (with_reducible refine Kd.C_drew ?_) | exact HR109.1)) hb)
              have n4_ := a1z.mk (Kd.g1z (by repeat (first | (with_reducible exact HR122.1) | (with_reducible refine Kd.C_alloc ?_ _) | (with_reducible refine Kd.C_drewN ?_ _) | (with_reducible refine Kd.C_drew ?_) | exact HR122.1)) hb)
              have n5_ := a1z.mk (Kept.below (S := (fun k_ => P0_ k_)) (by repeat (first | (with_reducible first | exact HK.1 | apply Kept.alloc | apply Kept.drewN | apply Kept.drew) | exact HK.1)) hb)
              have n6_ := a1z.mk (b7z (by repeat (first | (with_reducible first | exact HB.1 | apply a5z | apply a2z | apply a4z) | exact HB.1)) hb)
              clear HO_0
              clear HO112
              clear HR109
              clear HR122
              clear HK
              clear HB
              have HO_0 := n0_
              have HO112 := n1_
              have HO115 := n2_
              have HR109 := n3_
              have HR122 := n4_
              have HK := n5_
              have HB := n6_
              clear n0_ n1_ n2_ n3_ n4_ n5_ n6_
              clear hb ho24
              refine hK.out _ _ trivial (fun hHeld => ?_)
              clear hK K
              refine norm_ (a' := ?_) ?_ ?_
              rotate_left
              ·show Act.put _ (some 39) _ = _
               simp only [Act.put, sA_, sZ_, sS_, i64_w, i32_w]
               rfl
              exact norm_ (by simp only [putAll, Act.put, sA_, sZ_, sS_]) (hCont (v104, v111, v114) _ ⟨(by (with_reducible repeat (first | apply Kd.R_alloc | apply Kd.b1z | apply Kd.b3z)); exact Kd.c6z HO112.1 (fun _ hk => ⟨hk.1.1, ⟨hk.2, hk.1.2⟩⟩)), (by (with_reducible repeat (first | apply Kd.R_alloc | apply Kd.b1z | apply Kd.b3z)); exact Kd.c6z HO115.1 (fun _ hk => ⟨hk.1.1.1, ⟨hk.2, hk.1.2⟩⟩)), (by (with_reducible repeat (first | apply Kd.R_alloc | apply Kd.b1z | apply Kd.b3z)); exact Kd.c6z HO_0.1 (fun _ hk => ⟨hk.1.1, ⟨hk.1.2, hk.2⟩⟩)), (by repeat (first | (with_reducible exact HR109.1) | (with_reducible refine Kd.C_alloc ?_ _) | (with_reducible refine Kd.C_drewN ?_ _) | (with_reducible refine Kd.C_drew ?_) | exact HR109.1)), (by repeat (first | (with_reducible exact HR122.1) | (with_reducible refine Kd.C_alloc ?_ _) | (with_reducible refine Kd.C_drewN ?_ _) | (with_reducible refine Kd.C_drew ?_) | exact HR122.1)), (by repeat (first | (with_reducible first | exact HK.1 | apply Kept.alloc | apply Kept.drewN | apply Kept.drew) | exact HK.1)), (by repeat (first | (with_reducible first | exact HB.1 | apply a5z | apply a2z | apply a4z) | exact HB.1))⟩)
             ·skip
              refine Kd.g8z (Kd.int .i64) _ 3 ?hg (N := 39) ?hd (xs := ([a1] : List Int)) (inner := [.int .i64 a1]) (ok := fun _ => True) (okp := fun _ => True) ?hr ?hp (fun _ hk => hk) trivial (Below.refl _ _) (Nat.le_refl _) (by simp) ?_; (case hd => rfl); (case hg => rfl); (case hr => first | (go_simp; done) | (go_simp; rfl)); (case hp => exact (Reps.one (show Kd.M (Kd.int .i64) _ _ _ a1 [.int .i64 a1] from rfl) (Reps.none _ _)))
              intro v114 w22 ho23 hb hg_ hnew_
              clear hg_ hnew_
              (first | rw [← Ny113.1] at ho23 | (simp only [Int.reduceToNat] at ho23; rw [← Ny113.1] at ho23))
              have n0_ := a1z.mk (Kd.f0z (by (with_reducible repeat (first | apply Kd.R_alloc | apply Kd.b1z | apply Kd.b3z)); exact HO_0.1) (Kd.f8z ho23) hb)
              have n1_ := a1z.mk (Kd.f0z (by (with_reducible repeat (first | apply Kd.R_alloc | apply Kd.b1z | apply Kd.b3z)); exact HO105.1) (Kd.f8z ho23) hb)
              have n2_ := a1z.mk (Kd.e4z (Kd.f9z (Kd.f9z (Kd.R_newM (M := fun k_ => (P0_ k_ ∨ w.heap.size ≤ k_)) ho23 (by first | exact HK.1.1 | exact (show Kept w _ (fun k_ => P0_ k_) from by repeat (first | (with_reducible first | exact HK.1 | apply Kept.alloc | apply Kept.drewN | apply Kept.drew) | exact HK.1)).1) (fun k_ h_ => .inr h_)) (Kd.R_lt (by (with_reducible repeat (first | apply Kd.R_alloc | apply Kd.b1z | apply Kd.b3z)); exact HO_0.1))) (Kd.R_lt (by (with_reducible repeat (first | apply Kd.R_alloc | apply Kd.b1z | apply Kd.b3z)); exact HO105.1))) (b5z (by repeat (first | (with_reducible first | exact HB.1 | apply a5z | apply a2z | apply a4z) | exact HB.1))))
              have n3_ := a1z.mk (Kd.g1z (by repeat (first | (with_reducible exact HR109.1) | (with_reducible refine Kd.C_alloc ?_ _) | (with_reducible refine Kd.C_drewN ?_ _) | (with_reducible refine Kd.C_drew ?_) | exact HR109.1)) hb)
              have n4_ := a1z.mk (Kd.g1z (by repeat (first | (with_reducible exact HR122.1) | (with_reducible refine Kd.C_alloc ?_ _) | (with_reducible refine Kd.C_drewN ?_ _) | (with_reducible refine Kd.C_drew ?_) | exact HR122.1)) hb)
              have n5_ := a1z.mk (Kept.below (S := (fun k_ => P0_ k_)) (by repeat (first | (with_reducible first | exact HK.1 | apply Kept.alloc | apply Kept.drewN | apply Kept.drew) | exact HK.1)) hb)
              have n6_ := a1z.mk (b7z (by repeat (first | (with_reducible first | exact HB.1 | apply a5z | apply a2z | apply a4z) | exact HB.1)) hb)
              clear HO_0
              clear HO105
              clear HR109
              clear HR122
              clear HK
              clear HB
              have HO_0 := n0_
              have HO105 := n1_
              have HO115 := n2_
              have HR109 := n3_
              have HR122 := n4_
              have HK := n5_
              have HB := n6_
              clear n0_ n1_ n2_ n3_ n4_ n5_ n6_
              clear hb ho23
              refine hK.out _ _ trivial (fun hHeld => ?_)
              clear hK K
              refine norm_ (a' := ?_) ?_ ?_
              rotate_left
              ·show Act.put _ (some 39) _ = _
               simp only [Act.put, sA_, sZ_, sS_, i64_w, i32_w]
               rfl
              refine one_ (i := 4) (N := some 37) #[true, true, true, true, true, true, true, false, true, true, true, false, false] rfl rfl (f1z HT_.1 (by kernel_rfl)) (by decide) (fun K hK => ?_)
              refine Kd.f7z (Kd.int .i64) (w0 := w0) w0.heap.size (by rfl) (.tmp 33) (.tmp 36) 132 3 (.int .i64 0) 8 rfl Try.underlying132 info3 rfl (by decide) (by omega) v104 y103 y106 _ _ _ (fun k_ => (P0_ k_ ∨ w.heap.size ≤ k_) ∧ some k_ ≠ (.slice (some ad101) l0.length co16 : Value).ownBlock ∧ some k_ ≠ (v114 : Value).ownBlock) (fun _ => False) rfl rfl ?aO ?aR (fun _ _ h => h) (fun _ h => h.elim) ?aF ?aB ?aS ?aL ?_
              (case aR => repeat (first | exact (by repeat (first | (with_reducible exact HR109.1) | (with_reducible refine Kd.C_alloc ?_ _) | (with_reducible refine Kd.C_drewN ?_ _) | (with_reducible refine Kd.C_drew ?_) | exact HR109.1)) | (with_reducible refine Kd.C_alloc ?_ _) | (with_reducible refine Kd.C_drewN ?_ _) | (with_reducible refine Kd.C_drew ?_)))
              (case aB => exact (by repeat (first | (with_reducible first | exact HB.1 | apply a5z | apply a2z | apply a4z) | exact HB.1)))
              (case aF => exact (fun k_ hk => ⟨(.inr (Nat.le_trans (by first | exact HK.1.1 | exact (show Kept w _ (fun k_ => P0_ k_) from by repeat (first | (with_reducible first | exact HK.1 | apply Kept.alloc | apply Kept.drewN | apply Kept.drew) | exact HK.1)).1) hk)), Kd.fresh' (Kd.R_lt (by (with_reducible repeat (first | apply Kd.R_alloc | apply Kd.b1z | apply Kd.b3z)); exact HO_0.1)) k_ hk, Kd.fresh' (Kd.R_lt (by (with_reducible repeat (first | apply Kd.R_alloc | apply Kd.b1z | apply Kd.b3z)); exact HO115.1)) k_ hk⟩))
              (case aO => exact (by (with_reducible repeat (first | apply Kd.R_alloc | apply Kd.b1z | apply Kd.b3z)); exact Kd.c6z HO105.1 (fun _ hk => ⟨hk.1.1.1, ⟨hk.1.2, hk.2⟩⟩)))
              (case aS => exact (b5z (by repeat (first | (with_reducible first | exact HB.1 | apply a5z | apply a2z | apply a4z) | exact HB.1))))
              (case aL => have := LMc11.1; omega)
              intro v111 w24 ho hb hg hat
              rw [← Ny110.1] at ho
              have n0_ := a1z.mk (Kd.e3z (ok := (fun k_ => (P0_ k_ ∨ w.heap.size ≤ k_) ∧ some k_ ≠ (v114 : Value).ownBlock)) (by (with_reducible repeat (first | apply Kd.R_alloc | apply Kd.b1z | apply Kd.b3z)); exact Kd.c6z HO_0.1 (fun _ hk => ⟨⟨hk.1.1, hk.2⟩, hk.1.2⟩)) hg hat)
              have n1_ := a1z.mk (Kd.e3z (ok := (fun k_ => (P0_ k_ ∨ w.heap.size ≤ k_) ∧ some k_ ≠ (.slice (some ad101) l0.length co16 : Value).ownBlock)) (by (with_reducible repeat (first | apply Kd.R_alloc | apply Kd.b1z | apply Kd.b3z)); exact Kd.c6z HO115.1 (fun _ hk => ⟨⟨hk.1.1.1, hk.1.2⟩, hk.2⟩)) hg hat)
              have n2_ := a1z.mk (hb)
              have n3_ := a1z.mk (Kept.of_grown (S := (fun k_ => P0_ k_)) hg (by repeat (first | (with_reducible first | exact HK.1 | apply Kept.alloc | apply Kept.drewN | apply Kept.drew) | exact HK.1)) (fun k_ e_ => (HO105.1.1 k_ e_).1.1.1))
              have n4_ := a1z.mk ((show Kd.C (Kd.int .i64) w24 (some ad101) y106.length y106 from by rw [Ny106.1]; exact Kd.C_take (m := (x5_1 : Int).toNat) ((Kd.b9z (Kd.e3z (ok := (fun k_ => (P0_ k_ ∨ w.heap.size ≤ k_) ∧ some k_ ≠ (v114 : Value).ownBlock)) (by (with_reducible repeat (first | apply Kd.R_alloc | apply Kd.b1z | apply Kd.b3z)); exact Kd.c6z HO_0.1 (fun _ hk => ⟨⟨hk.1.1, hk.2⟩, hk.1.2⟩)) hg hat)).2.2) KL18.1))
              have n5_ := a1z.mk ((show Kd.C (Kd.int .i64) w24 A19 y119.length y119 from by rw [Ny119.1, KA19.1]; exact Kd.C_drop (m := (x5_1 : Int).toNat) (c := co16) ((Kd.b9z (Kd.e3z (ok := (fun k_ => (P0_ k_ ∨ w.heap.size ≤ k_) ∧ some k_ ≠ (v114 : Value).ownBlock)) (by (with_reducible repeat (first | apply Kd.R_alloc | apply Kd.b1z | apply Kd.b3z)); exact Kd.c6z HO_0.1 (fun _ hk => ⟨⟨hk.1.1, hk.2⟩, hk.1.2⟩)) hg hat)).2.2) KL19.1 ((Kd.b9z (Kd.e3z (ok := (fun k_ => (P0_ k_ ∨ w.heap.size ≤ k_) ∧ some k_ ≠ (v114 : Value).ownBlock)) (by (with_reducible repeat (first | apply Kd.R_alloc | apply Kd.b1z | apply Kd.b3z)); exact Kd.c6z HO_0.1 (fun _ hk => ⟨⟨hk.1.1, hk.2⟩, hk.1.2⟩)) hg hat)).2.1)))
              have n6_ := a1z.mk (ho)
              clear HO_0
              clear HO115
              clear HB
              clear HK
              clear HR109
              clear HR122
              clear HO105
              have HO_0 := n0_
              have HO115 := n1_
              have HB := n2_
              have HK := n3_
              have HR109 := n4_
              have HR122 := n5_
              have HO112 := n6_
              clear n0_ n1_ n2_ n3_ n4_ n5_ n6_
              clear ho hb hg hat
              refine hK.out _ _ trivial (fun hHeld => ?_)
              clear hK K
              refine norm_ (a' := ?_) ?_ ?_
              rotate_left
              ·show Act.put _ (some 37) _ = _
               simp only [Act.put, sA_, sZ_, sS_, i64_w, i32_w]
               rfl
              exact norm_ (by simp only [putAll, Act.put, sA_, sZ_, sS_]) (hCont (v104, v111, v114) _ ⟨(by (with_reducible repeat (first | apply Kd.R_alloc | apply Kd.b1z | apply Kd.b3z)); exact Kd.c6z HO112.1 (fun _ hk => ⟨hk.1, ⟨hk.2.2, hk.2.1⟩⟩)), (by (with_reducible repeat (first | apply Kd.R_alloc | apply Kd.b1z | apply Kd.b3z)); exact Kd.c6z HO115.1 (fun _ hk => ⟨hk.1.1, ⟨hk.2, hk.1.2⟩⟩)), (by (with_reducible repeat (first | apply Kd.R_alloc | apply Kd.b1z | apply Kd.b3z)); exact Kd.c6z HO_0.1 (fun _ hk => ⟨hk.1.1, ⟨hk.2, hk.1.2⟩⟩)), (by repeat (first | (with_reducible exact HR109.1) | (with_reducible refine Kd.C_alloc ?_ _) | (with_reducible refine Kd.C_drewN ?_ _) | (with_reducible refine Kd.C_drew ?_) | exact HR109.1)), (by repeat (first | (with_reducible exact HR122.1) | (with_reducible refine Kd.C_alloc ?_ _) | (with_reducible refine Kd.C_drewN ?_ _) | (with_reducible refine Kd.C_drew ?_) | exact HR122.1)), (by repeat (first | (with_reducible first | exact HK.1 | apply Kept.alloc | apply Kept.drewN | apply Kept.drew) | exact HK.1)), (by repeat (first | (with_reducible first | exact HB.1 | apply a5z | apply a2z | apply a4z) | exact HB.1))⟩)
            ·skip
             refine Kd.g8z (Kd.int .i64) _ 3 ?hg (N := 39) ?hd (xs := ([a1] : List Int)) (inner := [.int .i64 a1]) (ok := fun _ => True) (okp := fun _ => True) ?hr ?hp (fun _ hk => hk) trivial (Below.refl _ _) (Nat.le_refl _) (by simp) ?_; (case hd => rfl); (case hg => rfl); (case hr => first | (go_simp; done) | (go_simp; rfl)); (case hp => exact (Reps.one (show Kd.M (Kd.int .i64) _ _ _ a1 [.int .i64 a1] from rfl) (Reps.none _ _)))
             intro v114 w20 ho21 hb hg_ hnew_
             clear hg_ hnew_
             (first | rw [← Ny113.1] at ho21 | (simp only [Int.reduceToNat] at ho21; rw [← Ny113.1] at ho21))
             have n0_ := a1z.mk (Kd.f0z (by (with_reducible repeat (first | apply Kd.R_alloc | apply Kd.b1z | apply Kd.b3z)); exact HO_0.1) (Kd.f8z ho21) hb)
             have n1_ := a1z.mk (Kd.e4z (Kd.f9z (Kd.R_newM (M := fun k_ => (P0_ k_ ∨ w.heap.size ≤ k_)) ho21 (by first | exact HK.1.1 | exact (show Kept w _ (fun k_ => P0_ k_) from by repeat (first | (with_reducible first | exact HK.1 | apply Kept.alloc | apply Kept.drewN | apply Kept.drew) | exact HK.1)).1) (fun k_ h_ => .inr h_)) (Kd.R_lt (by (with_reducible repeat (first | apply Kd.R_alloc | apply Kd.b1z | apply Kd.b3z)); exact HO_0.1))) (b5z (by repeat (first | (with_reducible first | exact HB.1 | apply a5z | apply a2z | apply a4z) | exact HB.1))))
             have n2_ := a1z.mk (Kd.g1z (by repeat (first | (with_reducible exact HR109.1) | (with_reducible refine Kd.C_alloc ?_ _) | (with_reducible refine Kd.C_drewN ?_ _) | (with_reducible refine Kd.C_drew ?_) | exact HR109.1)) hb)
             have n3_ := a1z.mk (Kd.g1z (by repeat (first | (with_reducible exact HR122.1) | (with_reducible refine Kd.C_alloc ?_ _) | (with_reducible refine Kd.C_drewN ?_ _) | (with_reducible refine Kd.C_drew ?_) | exact HR122.1)) hb)
             have n4_ := a1z.mk (Kept.below (S := (fun k_ => P0_ k_)) (by repeat (first | (with_reducible first | exact HK.1 | apply Kept.alloc | apply Kept.drewN | apply Kept.drew) | exact HK.1)) hb)
             have n5_ := a1z.mk (b7z (by repeat (first | (with_reducible first | exact HB.1 | apply a5z | apply a2z | apply a4z) | exact HB.1)) hb)
             clear HO_0
             clear HR109
             clear HR122
             clear HK
             clear HB
             have HO_0 := n0_
             have HO115 := n1_
             have HR109 := n2_
             have HR122 := n3_
             have HK := n4_
             have HB := n5_
             clear n0_ n1_ n2_ n3_ n4_ n5_
             clear hb ho21
             refine hK.out _ _ trivial (fun hHeld => ?_)
             clear hK K
             refine norm_ (a' := ?_) ?_ ?_
             rotate_left
             ·show Act.put _ (some 39) _ = _
              simp only [Act.put, sA_, sZ_, sS_, i64_w, i32_w]
              rfl
             refine one_ (i := 0) (N := some 33) #[true, true, true, true, false, true, true, false, true, true, true, false, false] rfl rfl (f1z HT_.1 (by kernel_rfl)) (by decide) (fun K hK => ?_)
             refine Kd.g8z (Kd.int .i64) _ 3 ?hg (N := 33) ?hd (xs := ([] : List Int)) (inner := []) (ok := fun _ => True) (okp := fun _ => True) ?hr ?hp (fun _ hk => hk) trivial (Below.refl _ _) (Nat.le_refl _) (by simp) ?_; (case hd => rfl); (case hg => rfl); (case hr => first | (go_simp; done) | (go_simp; rfl)); (case hp => exact (Reps.none _ _))
             intro v104 w22 ho23 hb hg_ hnew_
             clear hg_ hnew_
             (first | rw [← Ny103.1] at ho23 | (simp only [Int.reduceToNat] at ho23; rw [← Ny103.1] at ho23))
             have n0_ := a1z.mk (Kd.f0z (by (with_reducible repeat (first | apply Kd.R_alloc | apply Kd.b1z | apply Kd.b3z)); exact HO_0.1) (Kd.f8z ho23) hb)
             have n1_ := a1z.mk (Kd.f0z (by (with_reducible repeat (first | apply Kd.R_alloc | apply Kd.b1z | apply Kd.b3z)); exact HO115.1) (Kd.f8z ho23) hb)
             have n2_ := a1z.mk (Kd.e4z (Kd.f9z (Kd.f9z (Kd.R_newM (M := fun k_ => (P0_ k_ ∨ w.heap.size ≤ k_)) ho23 (by first | exact HK.1.1 | exact (show Kept w _ (fun k_ => P0_ k_) from by repeat (first | (with_reducible first | exact HK.1 | apply Kept.alloc | apply Kept.drewN | apply Kept.drew) | exact HK.1)).1) (fun k_ h_ => .inr h_)) (Kd.R_lt (by (with_reducible repeat (first | apply Kd.R_alloc | apply Kd.b1z | apply Kd.b3z)); exact HO_0.1))) (Kd.R_lt (by (with_reducible repeat (first | apply Kd.R_alloc | apply Kd.b1z | apply Kd.b3z)); exact HO115.1))) (b5z (by repeat (first | (with_reducible first | exact HB.1 | apply a5z | apply a2z | apply a4z) | exact HB.1))))
             have n3_ := a1z.mk (Kd.g1z (by repeat (first | (with_reducible exact HR109.1) | (with_reducible refine Kd.C_alloc ?_ _) | (with_reducible refine Kd.C_drewN ?_ _) | (with_reducible refine Kd.C_drew ?_) | exact HR109.1)) hb)
             have n4_ := a1z.mk (Kd.g1z (by repeat (first | (with_reducible exact HR122.1) | (with_reducible refine Kd.C_alloc ?_ _) | (with_reducible refine Kd.C_drewN ?_ _) | (with_reducible refine Kd.C_drew ?_) | exact HR122.1)) hb)
             have n5_ := a1z.mk (Kept.below (S := (fun k_ => P0_ k_)) (by repeat (first | (with_reducible first | exact HK.1 | apply Kept.alloc | apply Kept.drewN | apply Kept.drew) | exact HK.1)) hb)
             have n6_ := a1z.mk (b7z (by repeat (first | (with_reducible first | exact HB.1 | apply a5z | apply a2z | apply a4z) | exact HB.1)) hb)
             clear HO_0
             clear HO115
             clear HR109
             clear HR122
             clear HK
             clear HB
             have HO_0 := n0_
             have HO115 := n1_
             have HO105 := n2_
             have HR109 := n3_
             have HR122 := n4_
             have HK := n5_
             have HB := n6_
             clear n0_ n1_ n2_ n3_ n4_ n5_ n6_
             clear hb ho23
             refine hK.out _ _ trivial (fun hHeld => ?_)
             clear hK K
             refine norm_ (a' := ?_) ?_ ?_
             rotate_left
             ·show Act.put _ (some 33) _ = _
              simp only [Act.put, sA_, sZ_, sS_, i64_w, i32_w]
              rfl
             refine one_ (i := 4) (N := some 37) #[true, true, true, true, true, true, true, false, true, true, true, false, false] rfl rfl (f1z HT_.1 (by kernel_rfl)) (by decide) (fun K hK => ?_)
             refine Kd.f7z (Kd.int .i64) (w0 := w0) w0.heap.size (by rfl) (.tmp 33) (.tmp 36) 132 3 (.int .i64 0) 8 rfl Try.underlying132 info3 rfl (by decide) (by omega) v104 y103 y106 _ _ _ (fun k_ => (P0_ k_ ∨ w.heap.size ≤ k_) ∧ some k_ ≠ (.slice (some ad101) l0.length co16 : Value).ownBlock ∧ some k_ ≠ (v114 : Value).ownBlock) (fun _ => False) rfl rfl ?aO ?aR (fun _ _ h => h) (fun _ h => h.elim) ?aF ?aB ?aS ?aL ?_
             (case aR => repeat (first | exact (by repeat (first | (with_reducible exact HR109.1) | (with_reducible refine Kd.C_alloc ?_ _) | (with_reducible refine Kd.C_drewN ?_ _) | (with_reducible refine Kd.C_drew ?_) | exact HR109.1)) | (with_reducible refine Kd.C_alloc ?_ _) | (with_reducible refine Kd.C_drewN ?_ _) | (with_reducible refine Kd.C_drew ?_)))
             (case aB => exact (by repeat (first | (with_reducible first | exact HB.1 | apply a5z | apply a2z | apply a4z) | exact HB.1)))
             (case aF => exact (fun k_ hk => ⟨(.inr (Nat.le_trans (by first | exact HK.1.1 | exact (show Kept w _ (fun k_ => P0_ k_) from by repeat (first | (with_reducible first | exact HK.1 | apply Kept.alloc | apply Kept.drewN | apply Kept.drew) | exact HK.1)).1) hk)), Kd.fresh' (Kd.R_lt (by (with_reducible repeat (first | apply Kd.R_alloc | apply Kd.b1z | apply Kd.b3z)); exact HO_0.1)) k_ hk, Kd.fresh' (Kd.R_lt (by (with_reducible repeat (first | apply Kd.R_alloc | apply Kd.b1z | apply Kd.b3z)); exact HO115.1)) k_ hk⟩))
             (case aO => exact (by (with_reducible repeat (first | apply Kd.R_alloc | apply Kd.b1z | apply Kd.b3z)); exact Kd.c6z HO105.1 (fun _ hk => ⟨hk.1.1.1, ⟨hk.1.2, hk.2⟩⟩)))
             (case aS => exact (b5z (by repeat (first | (with_reducible first | exact HB.1 | apply a5z | apply a2z | apply a4z) | exact HB.1))))
             (case aL => have := LMc11.1; omega)
             intro v111 w24 ho hb hg hat
             rw [← Ny110.1] at ho
             have n0_ := a1z.mk (Kd.e3z (ok := (fun k_ => (P0_ k_ ∨ w.heap.size ≤ k_) ∧ some k_ ≠ (v114 : Value).ownBlock)) (by (with_reducible repeat (first | apply Kd.R_alloc | apply Kd.b1z | apply Kd.b3z)); exact HO_0.1) hg hat)
             have n1_ := a1z.mk (Kd.e3z (ok := (fun k_ => (P0_ k_ ∨ w.heap.size ≤ k_) ∧ some k_ ≠ (.slice (some ad101) l0.length co16 : Value).ownBlock)) (by (with_reducible repeat (first | apply Kd.R_alloc | apply Kd.b1z | apply Kd.b3z)); exact Kd.c6z HO115.1 (fun _ hk => ⟨⟨hk.1.1.1, hk.1.2⟩, hk.2⟩)) hg hat)
             have n2_ := a1z.mk (hb)
             have n3_ := a1z.mk (Kept.of_grown (S := (fun k_ => P0_ k_)) hg (by repeat (first | (with_reducible first | exact HK.1 | apply Kept.alloc | apply Kept.drewN | apply Kept.drew) | exact HK.1)) (fun k_ e_ => (HO105.1.1 k_ e_).1.1.1))
             have n4_ := a1z.mk ((show Kd.C (Kd.int .i64) w24 (some ad101) y106.length y106 from by rw [Ny106.1]; exact Kd.C_take (m := (x5_1 : Int).toNat) ((Kd.b9z (Kd.e3z (ok := (fun k_ => (P0_ k_ ∨ w.heap.size ≤ k_) ∧ some k_ ≠ (v114 : Value).ownBlock)) (by (with_reducible repeat (first | apply Kd.R_alloc | apply Kd.b1z | apply Kd.b3z)); exact HO_0.1) hg hat)).2.2) KL18.1))
             have n5_ := a1z.mk ((show Kd.C (Kd.int .i64) w24 A19 y119.length y119 from by rw [Ny119.1, KA19.1]; exact Kd.C_drop (m := (x5_1 : Int).toNat) (c := co16) ((Kd.b9z (Kd.e3z (ok := (fun k_ => (P0_ k_ ∨ w.heap.size ≤ k_) ∧ some k_ ≠ (v114 : Value).ownBlock)) (by (with_reducible repeat (first | apply Kd.R_alloc | apply Kd.b1z | apply Kd.b3z)); exact HO_0.1) hg hat)).2.2) KL19.1 ((Kd.b9z (Kd.e3z (ok := (fun k_ => (P0_ k_ ∨ w.heap.size ≤ k_) ∧ some k_ ≠ (v114 : Value).ownBlock)) (by (with_reducible repeat (first | apply Kd.R_alloc | apply Kd.b1z | apply Kd.b3z)); exact HO_0.1) hg hat)).2.1)))
             have n6_ := a1z.mk (ho)
             clear HO_0
             clear HO115
             clear HB
             clear HK
             clear HR109
             clear HR122
             clear HO105
             have HO_0 := n0_
             have HO115 := n1_
             have HB := n2_
             have HK := n3_
             have HR109 := n4_
             have HR122 := n5_
             have HO112 := n6_
             clear n0_ n1_ n2_ n3_ n4_ n5_ n6_
             clear ho hb hg hat
             refine hK.out _ _ trivial (fun hHeld => ?_)
             clear hK K
             refine norm_ (a' := ?_) ?_ ?_
             rotate_left
             ·show Act.put _ (some 37) _ = _
              simp only [Act.put, sA_, sZ_, sS_, i64_w, i32_w]
              rfl
             exact norm_ (by simp only [putAll, Act.put, sA_, sZ_, sS_]) (hCont (v104, v111, v114) _ ⟨(by (with_reducible repeat (first | apply Kd.R_alloc | apply Kd.b1z | apply Kd.b3z)); exact Kd.c6z HO112.1 (fun _ hk => ⟨hk.1, ⟨hk.2.2, hk.2.1⟩⟩)), (by (with_reducible repeat (first | apply Kd.R_alloc | apply Kd.b1z | apply Kd.b3z)); exact Kd.c6z HO115.1 (fun _ hk => ⟨hk.1.1, ⟨hk.2, hk.1.2⟩⟩)), (by (with_reducible repeat (first | apply Kd.R_alloc | apply Kd.b1z | apply Kd.b3z)); exact Kd.c6z HO_0.1 (fun _ hk => ⟨hk.1.1, ⟨hk.2, hk.1.2⟩⟩)), (by repeat (first | (with_reducible exact HR109.1) | (with_reducible refine Kd.C_alloc ?_ _) | (with_reducible refine Kd.C_drewN ?_ _) | (with_reducible refine Kd.C_drew ?_) | exact HR109.1)), (by repeat (first | (with_reducible exact HR122.1) | (with_reducible refine Kd.C_alloc ?_ _) | (with_reducible refine Kd.C_drewN ?_ _) | (with_reducible refine Kd.C_drew ?_) | exact HR122.1)), (by repeat (first | (with_reducible first | exact HK.1 | apply Kept.alloc | apply Kept.drewN | apply Kept.drew) | exact HK.1)), (by repeat (first | (with_reducible first | exact HB.1 | apply a5z | apply a2z | apply a4z) | exact HB.1))⟩)
           rintro ⟨v104, v111, v114⟩ w25 ⟨h0_, h1_, h2_, h3_, h4_, h5_, h6_⟩
           have n0_ : a1z (Kd.R (Kd.int .i64) 3 w25 w0.heap.size (fun k_ => (P0_ k_ ∨ w.heap.size ≤ k_) ∧ some k_ ≠ (v114 : Value).ownBlock ∧ some k_ ≠ (.slice (some ad101) l0.length co16 : Value).ownBlock) v111 y110) := ⟨h0_⟩
           have n1_ : a1z (Kd.R (Kd.int .i64) 3 w25 w0.heap.size (fun k_ => (P0_ k_ ∨ w.heap.size ≤ k_) ∧ some k_ ≠ (v111 : Value).ownBlock ∧ some k_ ≠ (.slice (some ad101) l0.length co16 : Value).ownBlock) v114 y113) := ⟨h1_⟩
           have n2_ : a1z (Kd.R (Kd.int .i64) 3 w25 w0.heap.size (fun k_ => (P0_ k_ ∨ w.heap.size ≤ k_) ∧ some k_ ≠ (v111 : Value).ownBlock ∧ some k_ ≠ (v114 : Value).ownBlock) (.slice (some ad101) l0.length co16) l0) := ⟨h2_⟩
           have n3_ : a1z (Kd.C (Kd.int .i64) w25 (some ad101) y106.length y106) := ⟨h3_⟩
           have n4_ : a1z (Kd.C (Kd.int .i64) w25 A19 y119.length y119) := ⟨h4_⟩
           have n5_ : a1z (Kept w w25 (fun k_ => P0_ k_)) := ⟨h5_⟩
           have n6_ : a1z (Below w0.heap.size w0 w25) := ⟨h6_⟩
           clear HO_0
           clear HK
           clear HB
           clear h0_ h1_ h2_ h3_ h4_ h5_ h6_
           have HO112 := n0_
           have HO115 := n1_
           have HO_0 := n2_
           have HR109 := n3_
           have HR122 := n4_
           have HK := n5_
           have HB := n6_
           clear n0_ n1_ n2_ n3_ n4_ n5_ n6_
           have hHeld := trivial
           obtain ⟨Ao27, co27, eo27⟩ := Kd.d6z HO115.1
           (first | subst eo27 | (injection eo27 with f1_ f2_ f3_; have f4_ := f1_.symm; have f5_ := f3_.symm; clear f1_ f2_ f3_; subst f4_; subst f5_))
           refine norm_ (a' := ?_) ?_ ?_
           rotate_left
           ·simp only [putAll, Act.put, sA_, sZ_, sS_]
            rfl
           refine one_ (i := 7) (N := some 40) #[true, true, true, true, true, true, true, true, true, true, true, false, false] rfl rfl (f1z HT_.1 (by kernel_rfl)) (by decide) (fun K hK => ?_)
           refine Kd.f7z (Kd.int .i64) (w0 := w0) w0.heap.size (by rfl) (.tmp 37) (.tmp 39) 132 3 (.int .i64 0) 8 rfl Try.underlying132 info3 rfl (by decide) (by omega) v111 y110 y113 _ _ _ (fun k_ => (P0_ k_ ∨ w.heap.size ≤ k_) ∧ some k_ ≠ (.slice (some ad101) l0.length co16 : Value).ownBlock ∧ some k_ ≠ (.slice Ao27 y113.length co27 : Value).ownBlock) (fun _ => False) rfl rfl ?aO ?aR (fun _ _ h => h) (fun _ h => h.elim) ?aF ?aB ?aS ?aL ?_
           (case aR => repeat (first | exact (Kd.b9z HO115.1).2.2 | (with_reducible refine Kd.C_alloc ?_ _) | (with_reducible refine Kd.C_drewN ?_ _) | (with_reducible refine Kd.C_drew ?_)))
           (case aB => exact (by repeat (first | (with_reducible first | exact HB.1 | apply a5z | apply a2z | apply a4z) | exact HB.1)))
           (case aF => exact (fun k_ hk => ⟨(.inr (Nat.le_trans (by first | exact HK.1.1 | exact (show Kept w _ (fun k_ => P0_ k_) from by repeat (first | (with_reducible first | exact HK.1 | apply Kept.alloc | apply Kept.drewN | apply Kept.drew) | exact HK.1)).1) hk)), Kd.fresh' (Kd.R_lt (by (with_reducible repeat (first | apply Kd.R_alloc | apply Kd.b1z | apply Kd.b3z)); exact HO_0.1)) k_ hk, Kd.fresh' (Kd.R_lt (by (with_reducible repeat (first | apply Kd.R_alloc | apply Kd.b1z | apply Kd.b3z)); exact HO115.1)) k_ hk⟩))
           (case aO => exact (by (with_reducible repeat (first | apply Kd.R_alloc | apply Kd.b1z | apply Kd.b3z)); exact Kd.c6z HO112.1 (fun _ hk => ⟨hk.1, ⟨hk.2.2, hk.2.1⟩⟩)))
           (case aS => exact (b5z (by repeat (first | (with_reducible first | exact HB.1 | apply a5z | apply a2z | apply a4z) | exact HB.1))))
           (case aL => have := LMc12.1; omega)
           intro v117 w26 ho hb hg hat
           rw [← Ny116.1] at ho
           have n0_ := a1z.mk (Kd.e3z (ok := (fun k_ => (P0_ k_ ∨ w.heap.size ≤ k_) ∧ some k_ ≠ (.slice Ao27 y113.length co27 : Value).ownBlock)) (by (with_reducible repeat (first | apply Kd.R_alloc | apply Kd.b1z | apply Kd.b3z)); exact Kd.c6z HO_0.1 (fun _ hk => ⟨⟨hk.1, hk.2.2⟩, hk.2.1⟩)) hg hat)
           have n1_ := a1z.mk (Kd.e3z (ok := (fun k_ => (P0_ k_ ∨ w.heap.size ≤ k_) ∧ some k_ ≠ (.slice (some ad101) l0.length co16 : Value).ownBlock)) (by (with_reducible repeat (first | apply Kd.R_alloc | apply Kd.b1z | apply Kd.b3z)); exact Kd.c6z HO115.1 (fun _ hk => ⟨⟨hk.1, hk.2.2⟩, hk.2.1⟩)) hg hat)
           have n2_ := a1z.mk (hb)
           have n3_ := a1z.mk (Kept.of_grown (S := (fun k_ => P0_ k_)) hg (by repeat (first | (with_reducible first | exact HK.1 | apply Kept.alloc | apply Kept.drewN | apply Kept.drew) | exact HK.1)) (fun k_ e_ => (HO112.1.1 k_ e_).1))
           have n4_ := a1z.mk ((show Kd.C (Kd.int .i64) w26 (some ad101) y106.length y106 from by rw [Ny106.1]; exact Kd.C_take (m := (x5_1 : Int).toNat) ((Kd.b9z (Kd.e3z (ok := (fun k_ => (P0_ k_ ∨ w.heap.size ≤ k_) ∧ some k_ ≠ (.slice Ao27 y113.length co27 : Value).ownBlock)) (by (with_reducible repeat (first | apply Kd.R_alloc | apply Kd.b1z | apply Kd.b3z)); exact Kd.c6z HO_0.1 (fun _ hk => ⟨⟨hk.1, hk.2.2⟩, hk.2.1⟩)) hg hat)).2.2) KL18.1))
           have n5_ := a1z.mk ((show Kd.C (Kd.int .i64) w26 A19 y119.length y119 from by rw [Ny119.1, KA19.1]; exact Kd.C_drop (m := (x5_1 : Int).toNat) (c := co16) ((Kd.b9z (Kd.e3z (ok := (fun k_ => (P0_ k_ ∨ w.heap.size ≤ k_) ∧ some k_ ≠ (.slice Ao27 y113.length co27 : Value).ownBlock)) (by (with_reducible repeat (first | apply Kd.R_alloc | apply Kd.b1z | apply Kd.b3z)); exact Kd.c6z HO_0.1 (fun _ hk => ⟨⟨hk.1, hk.2.2⟩, hk.2.1⟩)) hg hat)).2.2) KL19.1 ((Kd.b9z (Kd.e3z (ok := (fun k_ => (P0_ k_ ∨ w.heap.size ≤ k_) ∧ some k_ ≠ (.slice Ao27 y113.length co27 : Value).ownBlock)) (by (with_reducible repeat (first | apply Kd.R_alloc | apply Kd.b1z | apply Kd.b3z)); exact Kd.c6z HO_0.1 (fun _ hk => ⟨⟨hk.1, hk.2.2⟩, hk.2.1⟩)) hg hat)).2.1)))
           have n6_ := a1z.mk (ho)
           clear HO_0
           clear HO115
           clear HB
           clear HK
           clear HR109
           clear HR122
           clear HO112
           have HO_0 := n0_
           have HO115 := n1_
           have HB := n2_
           have HK := n3_
           have HR109 := n4_
           have HR122 := n5_
           have HO118 := n6_
           clear n0_ n1_ n2_ n3_ n4_ n5_ n6_
           clear ho hb hg hat
           refine hK.out _ _ trivial (fun hHeld => ?_)
           clear hK K
           refine norm_ (a' := ?_) ?_ ?_
           rotate_left
           ·show Act.put _ (some 40) _ = _
            simp only [Act.put, sA_, sZ_, sS_, i64_w, i32_w]
            rfl
           refine one_ (i := 11) (N := some 44) #[true, true, true, true, true, true, true, true, true, true, true, true, false] rfl rfl (f1z HT_.1 (by kernel_rfl)) (by decide) (fun K hK => ?_)
           refine Kd.f7z (Kd.int .i64) (w0 := w0) w0.heap.size (by rfl) (.tmp 40) (.tmp 43) 132 3 (.int .i64 0) 8 rfl Try.underlying132 info3 rfl (by decide) (by omega) v117 y116 y119 _ _ _ (fun k_ => (P0_ k_ ∨ w.heap.size ≤ k_) ∧ some k_ ≠ (.slice (some ad101) l0.length co16 : Value).ownBlock ∧ some k_ ≠ (.slice Ao27 y113.length co27 : Value).ownBlock) (fun _ => False) rfl rfl ?aO ?aR (fun _ _ h => h) (fun _ h => h.elim) ?aF ?aB ?aS ?aL ?_
           (case aR => repeat (first | exact (by repeat (first | (with_reducible exact HR122.1) | (with_reducible refine Kd.C_alloc ?_ _) | (with_reducible refine Kd.C_drewN ?_ _) | (with_reducible refine Kd.C_drew ?_) | exact HR122.1)) | (with_reducible refine Kd.C_alloc ?_ _) | (with_reducible refine Kd.C_drewN ?_ _) | (with_reducible refine Kd.C_drew ?_)))
           (case aB => exact (by repeat (first | (with_reducible first | exact HB.1 | apply a5z | apply a2z | apply a4z) | exact HB.1)))
           (case aF => exact (fun k_ hk => ⟨(.inr (Nat.le_trans (by first | exact HK.1.1 | exact (show Kept w _ (fun k_ => P0_ k_) from by repeat (first | (with_reducible first | exact HK.1 | apply Kept.alloc | apply Kept.drewN | apply Kept.drew) | exact HK.1)).1) hk)), Kd.fresh' (Kd.R_lt (by (with_reducible repeat (first | apply Kd.R_alloc | apply Kd.b1z | apply Kd.b3z)); exact HO_0.1)) k_ hk, Kd.fresh' (Kd.R_lt (by (with_reducible repeat (first | apply Kd.R_alloc | apply Kd.b1z | apply Kd.b3z)); exact HO115.1)) k_ hk⟩))
           (case aO => exact (by (with_reducible repeat (first | apply Kd.R_alloc | apply Kd.b1z | apply Kd.b3z)); exact HO118.1))
           (case aS => exact (b5z (by repeat (first | (with_reducible first | exact HB.1 | apply a5z | apply a2z | apply a4z) | exact HB.1))))
           (case aL => have := LMc15.1; omega)
           intro v124 w28 ho hb hg hat
           rw [← Ny123.1] at ho
           have n0_ := a1z.mk (Kd.e3z (ok := (fun k_ => (P0_ k_ ∨ w.heap.size ≤ k_) ∧ some k_ ≠ (.slice Ao27 y113.length co27 : Value).ownBlock)) (by (with_reducible repeat (first | apply Kd.R_alloc | apply Kd.b1z | apply Kd.b3z)); exact HO_0.1) hg hat)
           have n1_ := a1z.mk (Kd.e3z (ok := (fun k_ => (P0_ k_ ∨ w.heap.size ≤ k_) ∧ some k_ ≠ (.slice (some ad101) l0.length co16 : Value).ownBlock)) (by (with_reducible repeat (first | apply Kd.R_alloc | apply Kd.b1z | apply Kd.b3z)); exact HO115.1) hg hat)
           have n2_ := a1z.mk (hb)
           have n3_ := a1z.mk (Kept.of_grown (S := (fun k_ => P0_ k_)) hg (by repeat (first | (with_reducible first | exact HK.1 | apply Kept.alloc | apply Kept.drewN | apply Kept.drew) | exact HK.1)) (fun k_ e_ => (HO118.1.1 k_ e_).1))
           have n4_ := a1z.mk ((show Kd.C (Kd.int .i64) w28 (some ad101) y106.length y106 from by rw [Ny106.1]; exact Kd.C_take (m := (x5_1 : Int).toNat) ((Kd.b9z (Kd.e3z (ok := (fun k_ => (P0_ k_ ∨ w.heap.size ≤ k_) ∧ some k_ ≠ (.slice Ao27 y113.length co27 : Value).ownBlock)) (by (with_reducible repeat (first | apply Kd.R_alloc | apply Kd.b1z | apply Kd.b3z)); exact HO_0.1) hg hat)).2.2) KL18.1))
           have n5_ := a1z.mk ((show Kd.C (Kd.int .i64) w28 A19 y119.length y119 from by rw [Ny119.1, KA19.1]; exact Kd.C_drop (m := (x5_1 : Int).toNat) (c := co16) ((Kd.b9z (Kd.e3z (ok := (fun k_ => (P0_ k_ ∨ w.heap.size ≤ k_) ∧ some k_ ≠ (.slice Ao27 y113.length co27 : Value).ownBlock)) (by (with_reducible repeat (first | apply Kd.R_alloc | apply Kd.b1z | apply Kd.b3z)); exact HO_0.1) hg hat)).2.2) KL19.1 ((Kd.b9z (Kd.e3z (ok := (fun k_ => (P0_ k_ ∨ w.heap.size ≤ k_) ∧ some k_ ≠ (.slice Ao27 y113.length co27 : Value).ownBlock)) (by (with_reducible repeat (first | apply Kd.R_alloc | apply Kd.b1z | apply Kd.b3z)); exact HO_0.1) hg hat)).2.1)))
           have n6_ := a1z.mk (ho)
           clear HO_0
           clear HO115
           clear HB
           clear HK
           clear HR109
           clear HR122
           clear HO118
           have HO_0 := n0_
           have HO115 := n1_
           have HB := n2_
           have HK := n3_
           have HR109 := n4_
           have HR122 := n5_
           have HO125 := n6_
           clear n0_ n1_ n2_ n3_ n4_ n5_ n6_
           clear ho hb hg hat
           refine hK.out _ _ trivial (fun hHeld => ?_)
           clear hK K
           refine norm_ (a' := ?_) ?_ ?_
           rotate_left
           ·show Act.put _ (some 44) _ = _
            simp only [Act.put, sA_, sZ_, sS_, i64_w, i32_w]
            rfl
           refine pure_ (i := 12) (N := some 4) (v := ?_) (a' := ?_) #[true, true, true, true, true, true, true, true, true, true, true, true, true] rfl rfl (c9z HT_.1 (by kernel_rfl)) (fun _ _ _ h => h) (Or.inl ⟨by rfl, ?_⟩) ?_ ?_
           rotate_left
           ·intro w'
            go_simp
            with_reducible rfl
           rotate_left
           ·simp only [Act.put, sA_, sZ_, sS_, i64_w, i32_w]
            rfl
           refine done_ (h7z HT_.1 (by kernel_rfl)) ?_
           try go_wp2
           go_ret
           exact ⟨_, by first | rfl | (simp [c2z, c1z] <;> rfl) | (simp [*, c2z, c1z] <;> rfl), by (with_reducible repeat (first | apply Kd.R_alloc | apply Kd.b1z | apply Kd.b3z)); exact Kd.c6z HO125.1 (fun _ hk => hk.1), by repeat (first | (with_reducible first | exact HB.1 | apply a5z | apply a2z | apply a4z) | exact HB.1), by repeat (first | (with_reducible first | exact HK.1 | apply Kept.alloc | apply Kept.drewN | apply Kept.drew) | exact HK.1)⟩
          ·rw [if_neg c15] at H
           exact absurd H (by simp)
         ·rw [if_neg c12] at H
          exact absurd H (by simp)
        ·rw [if_neg c11] at H
         exact absurd H (by simp)
       ·rw [if_neg c10] at H
        exact absurd H (by simp)
    ·rw [if_neg c4] at H
     exact absurd H (by simp)
   ·rw [if_neg c3] at H
    have c3b0 : decide (x5_1 < (l0.length : Int)) = false := decide_eq_false c3
    clear c3
    obtain ⟨y126, hy126⟩ : ∃ y_ : List Int, y_ = (([] : List Int)) := ⟨_, rfl⟩
    replace H : (if 0 ≤ x5_1 then (if x5_1 ≤ (l0.length : Int) then ((some (l0.take (x5_1 : Int).toNat : List Int)).bind fun y129 => (if y126.length + y129.length < 17592186044416 then ((some (y126 ++ y129 : List Int)).bind fun y133 => ((some (([a1] : List Int) : List Int)).bind fun y136 => (if y133.length + y136.length < 17592186044416 then ((some (y133 ++ y136 : List Int)).bind fun y139 => ((some (l0.drop (x5_1 : Int).toNat : List Int)).bind fun y142 => (if y139.length + y142.length < 17592186044416 then (some (y139 ++ y142)) else (none)))) else (none)))) else (none))) else (none)) else (none)) = some r := by first | (rw [hy126]; with_reducible exact H) | (have H2_ := (Option.bind_some _ _).symm.trans H; rw [hy126]; with_reducible exact H2_) | (have H2_ := (Option.bind_some _ _).symm.trans H; with_reducible exact H2_) | with_reducible exact H | (rw [hy126]; exact H) | exact H
    have Ny126 := a1z.mk hy126
    clear hy126
    by_cases c29 : 0 ≤ x5_1
    ·rw [if_pos c29] at H
     have c29b0 := eq_true c29
     have c29b1 : decide (0 ≤ x5_1) = true := decide_eq_true c29
     clear c29
     by_cases c30 : x5_1 ≤ (l0.length : Int)
     ·rw [if_pos c30] at H
      have c30b0 := eq_true c30
      have c30b1 : decide (x5_1 ≤ (l0.length : Int)) = true := decide_eq_true c30
      clear c30
      obtain ⟨y129, hy129⟩ : ∃ y_ : List Int, y_ = (l0.take (x5_1 : Int).toNat) := ⟨_, rfl⟩
      replace H : (if y126.length + y129.length < 17592186044416 then ((some (y126 ++ y129 : List Int)).bind fun y133 => ((some (([a1] : List Int) : List Int)).bind fun y136 => (if y133.length + y136.length < 17592186044416 then ((some (y133 ++ y136 : List Int)).bind fun y139 => ((some (l0.drop (x5_1 : Int).toNat : List Int)).bind fun y142 => (if y139.length + y142.length < 17592186044416 then (some (y139 ++ y142)) else (none)))) else (none)))) else (none)) = some r := by first | (rw [hy129]; with_reducible exact H) | (have H2_ := (Option.bind_some _ _).symm.trans H; rw [hy129]; with_reducible exact H2_) | (have H2_ := (Option.bind_some _ _).symm.trans H; with_reducible exact H2_) | with_reducible exact H | (rw [hy129]; exact H) | exact H
      have Ny129 := a1z.mk hy129
      clear hy129
      by_cases c31 : y126.length + y129.length < 17592186044416
      ·rw [if_pos c31] at H
       have LMc31 := a1z.mk c31
       clear c31
       obtain ⟨y133, hy133⟩ : ∃ y_ : List Int, y_ = (y126 ++ y129) := ⟨_, rfl⟩
       replace H : ((some (([a1] : List Int) : List Int)).bind fun y136 => (if y133.length + y136.length < 17592186044416 then ((some (y133 ++ y136 : List Int)).bind fun y139 => ((some (l0.drop (x5_1 : Int).toNat : List Int)).bind fun y142 => (if y139.length + y142.length < 17592186044416 then (some (y139 ++ y142)) else (none)))) else (none))) = some r := by first | (rw [hy133]; with_reducible exact H) | (have H2_ := (Option.bind_some _ _).symm.trans H; rw [hy133]; with_reducible exact H2_) | (have H2_ := (Option.bind_some _ _).symm.trans H; with_reducible exact H2_) | with_reducible exact H | (rw [hy133]; exact H) | exact H
       have Ny133 := a1z.mk hy133
       clear hy133
       obtain ⟨y136, hy136⟩ : ∃ y_ : List Int, y_ = (([a1] : List Int)) := ⟨_, rfl⟩
       replace H : (if y133.length + y136.length < 17592186044416 then ((some (y133 ++ y136 : List Int)).bind fun y139 => ((some (l0.drop (x5_1 : Int).toNat : List Int)).bind fun y142 => (if y139.length + y142.length < 17592186044416 then (some (y139 ++ y142)) else (none)))) else (none)) = some r := by first | (rw [hy136]; with_reducible exact H) | (have H2_ := (Option.bind_some _ _).symm.trans H; rw [hy136]; with_reducible exact H2_) | (have H2_ := (Option.bind_some _ _).symm.trans H; with_reducible exact H2_) | with_reducible exact H | (rw [hy136]; exact H) | exact H
       have Ny136 := a1z.mk hy136
       clear hy136
       by_cases c32 : y133.length + y136.length < 17592186044416
       ·rw [if_pos c32] at H
        have LMc32 := a1z.mk c32
        clear c32
        obtain ⟨y139, hy139⟩ : ∃ y_ : List Int, y_ = (y133 ++ y136) := ⟨_, rfl⟩
        replace H : ((some (l0.drop (x5_1 : Int).toNat : List Int)).bind fun y142 => (if y139.length + y142.length < 17592186044416 then (some (y139 ++ y142)) else (none))) = some r := by first | (rw [hy139]; with_reducible exact H) | (have H2_ := (Option.bind_some _ _).symm.trans H; rw [hy139]; with_reducible exact H2_) | (have H2_ := (Option.bind_some _ _).symm.trans H; with_reducible exact H2_) | with_reducible exact H | (rw [hy139]; exact H) | exact H
        have Ny139 := a1z.mk hy139
        clear hy139
        have c33b0 := eq_true (of_decide_eq_true (by first | (with_reducible assumption) | assumption) : 0 ≤ x5_1)
        have c34b0 := eq_true (of_decide_eq_true (by first | (with_reducible assumption) | assumption) : x5_1 ≤ (l0.length : Int))
        obtain ⟨y142, hy142⟩ : ∃ y_ : List Int, y_ = (l0.drop (x5_1 : Int).toNat) := ⟨_, rfl⟩
        replace H : (if y139.length + y142.length < 17592186044416 then (some (y139 ++ y142)) else (none)) = some r := by first | (rw [hy142]; with_reducible exact H) | (have H2_ := (Option.bind_some _ _).symm.trans H; rw [hy142]; with_reducible exact H2_) | (have H2_ := (Option.bind_some _ _).symm.trans H; with_reducible exact H2_) | with_reducible exact H | (rw [hy142]; exact H) | exact H
        have Ny142 := a1z.mk hy142
        clear hy142
        by_cases c35 : y139.length + y142.length < 17592186044416
        ·rw [if_pos c35] at H
         have LMc35 := a1z.mk c35
         clear c35
         obtain ⟨y146, hy146⟩ : ∃ y_ : List Int, y_ = (y139 ++ y142) := ⟨_, rfl⟩
         replace H : (some y146) = some r := by first | (rw [hy146]; with_reducible exact H) | (have H2_ := (Option.bind_some _ _).symm.trans H; rw [hy146]; with_reducible exact H2_) | (have H2_ := (Option.bind_some _ _).symm.trans H; with_reducible exact H2_) | with_reducible exact H | (rw [hy146]; exact H) | exact H
         have Ny146 := a1z.mk hy146
         clear hy146
         obtain rfl := Option.some.inj H
         obtain ⟨Ao36, co36, eo36⟩ := Kd.d6z HO_0.1
         subst eo36
         try go_wp2
         have n0_ := a1z.mk (Kd.b3z HO_0.1)
         have n1_ := a1z.mk (Kept.drew HK.1)
         have n2_ := a1z.mk (a4z HB.1)
         clear HO_0
         clear HK
         clear HB
         have HO_0 := n0_
         have HK := n1_
         have HB := n2_
         clear n0_ n1_ n2_
         have q38 : (x5_1 : Int) ≤ ((l0.length : Int) : Int) := of_decide_eq_true (by first | (with_reducible assumption) | assumption)
         obtain ⟨i038, hi038, _, hsz38, _⟩ := info_parts info3
         have hroom38 : l0.length ≤ co36 := (Kd.b9z HO_0.1).2.1
         have hC38 : Kd.C (Kd.int .i64) _ Ao36 l0.length l0 := (Kd.b9z HO_0.1).2.2
         have hcut38 := cut_to (P := Try.prog) 132 3 .i64 Try.underlying132 hi038 Ao36 l0.length co36 x5_1 (of_decide_eq_true (by first | (with_reducible assumption) | assumption)) q38 hroom38
         have hr38 := Kd.C_take (m := (x5_1 : Int).toNat) hC38 (by omega)
         have hy38 : y129.length = (x5_1 : Int).toNat := (by rw [Ny129.1, List.length_take]; omega)
         rw [← Ny129.1] at hr38
         rw [← hy38] at hcut38
         have HR132 := a1z.mk hr38
         have HC132 := a1z.mk (show y129.length ≤ co36 from by omega)
         clear hr38 hC38 hroom38 hi038 hsz38
         have KY38 := a1z.mk hy38
         clear hy38
         have KL38 := a1z.mk (show (x5_1 : Int).toNat ≤ l0.length from by omega)
         replace q38 := eq_true q38
         have q39 : (x5_1 : Int) ≤ ((l0.length : Int) : Int) := of_decide_eq_true (by first | (with_reducible assumption) | assumption)
         obtain ⟨i039, hi039, _, hsz39, _⟩ := info_parts info3
         have hroom39 : l0.length ≤ co36 := (Kd.b9z HO_0.1).2.1
         have hC39 : Kd.C (Kd.int .i64) _ Ao36 l0.length l0 := (Kd.b9z HO_0.1).2.2
         have q039 : (0 : Int) ≤ (x5_1 : Int) := of_decide_eq_true (by first | (with_reducible assumption) | assumption)
         have hcut39 := cut_from (P := Try.prog) 132 3 .i64 Try.underlying132 hi039 1 hsz39 Ao36 l0.length co36 x5_1 q039 q39
         have hr39 := Kd.C_drop (m := (x5_1 : Int).toNat) (c := co36) hC39 (by omega) hroom39
         obtain ⟨A39, hA39⟩ : ∃ A1, A1 = (if co36 = (x5_1 : Int).toNat then Ao36 else (Ao36 : Option Addr).map (·.add ((x5_1 : Int).toNat * 1))) := ⟨_, rfl⟩
         obtain ⟨c39, hc39⟩ : ∃ c1, c1 = co36 - (x5_1 : Int).toNat := ⟨_, rfl⟩
         have hy39 : y142.length = l0.length - (x5_1 : Int).toNat := (by rw [Ny142.1, List.length_drop] <;> omega)
         rw [show (l0).drop (x5_1 : Int).toNat = y142 from Ny142.1.symm] at hr39
         replace hr39 : Kd.C (Kd.int .i64) _ A39 y142.length y142 := (by rw [hA39]; exact hr39)
         rw [← hy39, ← hA39, ← hc39] at hcut39
         have HR145 := a1z.mk hr39
         have HC145 := a1z.mk (show y142.length ≤ c39 from by rw [hy39, hc39]; exact Nat.sub_le_sub_right hroom39 _)
         clear hr39 hC39 hroom39 hi039 hsz39 hc39
         have KY39 := a1z.mk hy39
         have KA39 := a1z.mk hA39
         clear hy39 hA39
         have KL39 := a1z.mk (show (x5_1 : Int).toNat ≤ l0.length from by omega)
         replace q39 := eq_true q39
         refine h9z (n := 13) (S := fun w' => True) (ds := []) #[false, false, false, false, false, false, false, false, false, false, false, false, false] (by kernel_rfl) rfl rfl trivial (fun hHeld => ?_); refine g7z spec_l3Num.tab6 spec_l3Num.bits6 (fun HT_ HW_ => ?_)
         generalize wr.drew = w37 at HO_0 HK HB HR132 HR145 hHeld ⊢
         refine pure_ (i := 1) (N := some 34) (v := ?_) (a' := ?_) #[false, true, false, false, false, false, false, false, false, false, false, false, false] rfl rfl (c9z HT_.1 (by kernel_rfl)) (fun _ _ _ h => h) (Or.inl ⟨by rfl, ?_⟩) ?_ ?_
         rotate_left
         ·intro w'
          go_simp
          with_reducible rfl
         rotate_left
         ·simp only [Act.put, sA_, sZ_, sS_, i64_w, i32_w]
          rfl
         refine pure_ (i := 2) (N := some 35) (v := ?_) (a' := ?_) #[false, true, true, false, false, false, false, false, false, false, false, false, false] rfl rfl (c9z HT_.1 (by kernel_rfl)) (fun _ _ _ h => h) (Or.inl ⟨by rfl, ?_⟩) ?_ ?_
         rotate_left
         ·intro w'
          go_simp
          with_reducible rfl
         rotate_left
         ·simp only [Act.put, sA_, sZ_, sS_, i64_w, i32_w]
          rfl
         refine pure_ (i := 3) (N := some 36) (v := ?_) (a' := ?_) #[false, true, true, true, false, false, false, false, false, false, false, false, false] rfl rfl (c9z HT_.1 (by kernel_rfl)) (fun _ _ _ h => h) (Or.inl ⟨by rfl, ?_⟩) ?_ ?_
         rotate_left
         ·intro w'
          go_simp
          with_reducible rfl
         rotate_left
         ·simp only [Act.put, sA_, sZ_, sS_, i64_w, i32_w]
          rfl
         refine pure_ (i := 5) (N := some 38) (v := ?_) (a' := ?_) #[false, true, true, true, false, true, false, false, false, false, false, false, false] rfl rfl (c9z HT_.1 (by kernel_rfl)) (fun _ _ _ h => h) (Or.inl ⟨by rfl, ?_⟩) ?_ ?_
         rotate_left
         ·intro w'
          go_simp
          with_reducible rfl
         rotate_left
         ·simp only [Act.put, sA_, sZ_, sS_, i64_w, i32_w]
          rfl
         refine pure_ (i := 8) (N := some 41) (v := ?_) (a' := ?_) #[false, true, true, true, false, true, false, false, true, false, false, false, false] rfl rfl (c9z HT_.1 (by kernel_rfl)) (fun _ _ _ h => h) (Or.inl ⟨by rfl, ?_⟩) ?_ ?_
         rotate_left
         ·intro w'
          go_simp
          with_reducible rfl
         rotate_left
         ·simp only [Act.put, sA_, sZ_, sS_, i64_w, i32_w]
          rfl
         refine pure_ (i := 9) (N := some 42) (v := ?_) (a' := ?_) #[false, true, true, true, false, true, false, false, true, true, false, false, false] rfl rfl (c9z HT_.1 (by kernel_rfl)) (fun _ _ _ h => h) (Or.inl ⟨by rfl, ?_⟩) ?_ ?_
         rotate_left
         ·intro w'
          go_simp
          with_reducible rfl
         rotate_left
         ·simp only [Act.put, sA_, sZ_, sS_, i64_w, i32_w]
          rfl
         refine pure_ (i := 10) (N := some 43) (v := ?_) (a' := ?_) #[false, true, true, true, false, true, false, false, true, true, true, false, false] rfl rfl (c9z HT_.1 (by kernel_rfl)) (fun _ _ _ h => h) (Or.inl ⟨by rfl, ?_⟩) ?_ ?_
         rotate_left
         ·intro w'
          go_simp
          with_reducible rfl
         rotate_left
         ·simp only [Act.put, sA_, sZ_, sS_, i64_w, i32_w]
          rfl
         refine join_ (σ := Value × Value × Value) 3 #[true, true, true, true, true, true, true, false, true, true, true, false, false] (fun s_ => [(33, s_.1), (37, s_.2.1), (39, s_.2.2)]) (fun s_ w' => (Kd.R (Kd.int .i64) 3 w' w0.heap.size (fun k_ => (P0_ k_ ∨ w.heap.size ≤ k_) ∧ some k_ ≠ (s_.2.2 : Value).ownBlock ∧ some k_ ≠ (.slice Ao36 l0.length co36 : Value).ownBlock) s_.2.1 y133) ∧ (Kd.R (Kd.int .i64) 3 w' w0.heap.size (fun k_ => (P0_ k_ ∨ w.heap.size ≤ k_) ∧ some k_ ≠ (s_.2.1 : Value).ownBlock ∧ some k_ ≠ (.slice Ao36 l0.length co36 : Value).ownBlock) s_.2.2 y136) ∧ (Kd.R (Kd.int .i64) 3 w' w0.heap.size (fun k_ => (P0_ k_ ∨ w.heap.size ≤ k_) ∧ some k_ ≠ (s_.2.1 : Value).ownBlock ∧ some k_ ≠ (s_.2.2 : Value).ownBlock) (.slice Ao36 l0.length co36) l0) ∧ (Kd.C (Kd.int .i64) w' Ao36 y129.length y129) ∧ (Kd.C (Kd.int .i64) w' A39 y142.length y142) ∧ (Kept w w' (fun k_ => P0_ k_)) ∧ (Below w0.heap.size w0 w')) ?_ ?_
         rotate_left
         ·intro hCont
          refine two_ (i := 0) (j := 6) (Ni := some 33) (Nj := some 39) #[true, true, true, true, false, true, false, false, true, true, true, false, false] #[false, true, true, true, false, true, true, false, true, true, true, false, false] rfl rfl rfl rfl (two_of HT_.1 (by kernel_rfl)) (by decide) (by decide) (fun K hK => ?_) (fun K hK => ?_)
          ·skip
           refine Kd.g8z (Kd.int .i64) _ 3 ?hg (N := 33) ?hd (xs := ([] : List Int)) (inner := []) (ok := fun _ => True) (okp := fun _ => True) ?hr ?hp (fun _ hk => hk) trivial (Below.refl _ _) (Nat.le_refl _) (by simp) ?_; (case hd => rfl); (case hg => rfl); (case hr => first | (go_simp; done) | (go_simp; rfl)); (case hp => exact (Reps.none _ _))
           intro v127 w40 ho41 hb hg_ hnew_
           clear hg_ hnew_
           (first | rw [← Ny126.1] at ho41 | (simp only [Int.reduceToNat] at ho41; rw [← Ny126.1] at ho41))
           have n0_ := a1z.mk (Kd.f0z (by (with_reducible repeat (first | apply Kd.R_alloc | apply Kd.b1z | apply Kd.b3z)); exact HO_0.1) (Kd.f8z ho41) hb)
           have n1_ := a1z.mk (Kd.e4z (Kd.f9z (Kd.R_newM (M := fun k_ => (P0_ k_ ∨ w.heap.size ≤ k_)) ho41 (by first | exact HK.1.1 | exact (show Kept w _ (fun k_ => P0_ k_) from by repeat (first | (with_reducible first | exact HK.1 | apply Kept.alloc | apply Kept.drewN | apply Kept.drew) | exact HK.1)).1) (fun k_ h_ => .inr h_)) (Kd.R_lt (by (with_reducible repeat (first | apply Kd.R_alloc | apply Kd.b1z | apply Kd.b3z)); exact HO_0.1))) (b5z (by repeat (first | (with_reducible first | exact HB.1 | apply a5z | apply a2z | apply a4z) | exact HB.1))))
           have n2_ := a1z.mk (Kd.g1z (by repeat (first | (with_reducible exact HR132.1) | (with_reducible refine Kd.C_alloc ?_ _) | (with_reducible refine Kd.C_drewN ?_ _) | (with_reducible refine Kd.C_drew ?_) | exact HR132.1)) hb)
           have n3_ := a1z.mk (Kd.g1z (by repeat (first | (with_reducible exact HR145.1) | (with_reducible refine Kd.C_alloc ?_ _) | (with_reducible refine Kd.C_drewN ?_ _) | (with_reducible refine Kd.C_drew ?_) | exact HR145.1)) hb)
           have n4_ := a1z.mk (Kept.below (S := (fun k_ => P0_ k_)) (by repeat (first | (with_reducible first | exact HK.1 | apply Kept.alloc | apply Kept.drewN | apply Kept.drew) | exact HK.1)) hb)
           have n5_ := a1z.mk (b7z (by repeat (first | (with_reducible first | exact HB.1 | apply a5z | apply a2z | apply a4z) | exact HB.1)) hb)
           clear HO_0
           clear HR132
           clear HR145
           clear HK
           clear HB
           have HO_0 := n0_
           have HO128 := n1_
           have HR132 := n2_
           have HR145 := n3_
           have HK := n4_
           have HB := n5_
           clear n0_ n1_ n2_ n3_ n4_ n5_
           clear hb ho41
           refine hK.out _ _ trivial (fun hHeld => ?_)
           clear hK K
           refine norm_ (a' := ?_) ?_ ?_
           rotate_left
           ·show Act.put _ (some 33) _ = _
            simp only [Act.put, sA_, sZ_, sS_, i64_w, i32_w]
            rfl
           refine two_ (i := 4) (j := 6) (Ni := some 37) (Nj := some 39) #[true, true, true, true, true, true, false, false, true, true, true, false, false] #[true, true, true, true, false, true, true, false, true, true, true, false, false] rfl rfl rfl rfl (two_of HT_.1 (by kernel_rfl)) (by decide) (by decide) (fun K hK => ?_) (fun K hK => ?_)
           ·skip
            refine Kd.f7z (Kd.int .i64) (w0 := w0) w0.heap.size (by rfl) (.tmp 33) (.tmp 36) 132 3 (.int .i64 0) 8 rfl Try.underlying132 info3 rfl (by decide) (by omega) v127 y126 y129 _ _ _ (fun k_ => (P0_ k_ ∨ w.heap.size ≤ k_) ∧ some k_ ≠ (.slice Ao36 l0.length co36 : Value).ownBlock) (fun _ => False) rfl rfl ?aO ?aR (fun _ _ h => h) (fun _ h => h.elim) ?aF ?aB ?aS ?aL ?_
            (case aR => repeat (first | exact (by repeat (first | (with_reducible exact HR132.1) | (with_reducible refine Kd.C_alloc ?_ _) | (with_reducible refine Kd.C_drewN ?_ _) | (with_reducible refine Kd.C_drew ?_) | exact HR132.1)) | (with_reducible refine Kd.C_alloc ?_ _) | (with_reducible refine Kd.C_drewN ?_ _) | (with_reducible refine Kd.C_drew ?_)))
            (case aB => exact (by repeat (first | (with_reducible first | exact HB.1 | apply a5z | apply a2z | apply a4z) | exact HB.1)))
            (case aF => exact (fun k_ hk => ⟨(.inr (Nat.le_trans (by first | exact HK.1.1 | exact (show Kept w _ (fun k_ => P0_ k_) from by repeat (first | (with_reducible first | exact HK.1 | apply Kept.alloc | apply Kept.drewN | apply Kept.drew) | exact HK.1)).1) hk)), Kd.fresh' (Kd.R_lt (by (with_reducible repeat (first | apply Kd.R_alloc | apply Kd.b1z | apply Kd.b3z)); exact HO_0.1)) k_ hk⟩))
            (case aO => exact (by (with_reducible repeat (first | apply Kd.R_alloc | apply Kd.b1z | apply Kd.b3z)); exact Kd.c6z HO128.1 (fun _ hk => ⟨hk.1.1, hk.2⟩)))
            (case aS => exact (b5z (by repeat (first | (with_reducible first | exact HB.1 | apply a5z | apply a2z | apply a4z) | exact HB.1))))
            (case aL => have := LMc31.1; omega)
            intro v134 w42 ho hb hg hat
            rw [← Ny133.1] at ho
            have n0_ := a1z.mk (Kd.e3z (ok := (fun k_ => (P0_ k_ ∨ w.heap.size ≤ k_))) (by (with_reducible repeat (first | apply Kd.R_alloc | apply Kd.b1z | apply Kd.b3z)); exact HO_0.1) hg hat)
            have n1_ := a1z.mk (hb)
            have n2_ := a1z.mk (Kept.of_grown (S := (fun k_ => P0_ k_)) hg (by repeat (first | (with_reducible first | exact HK.1 | apply Kept.alloc | apply Kept.drewN | apply Kept.drew) | exact HK.1)) (fun k_ e_ => (HO128.1.1 k_ e_).1.1))
            have n3_ := a1z.mk ((show Kd.C (Kd.int .i64) w42 Ao36 y129.length y129 from by rw [Ny129.1]; exact Kd.C_take (m := (x5_1 : Int).toNat) ((Kd.b9z (Kd.e3z (ok := (fun k_ => (P0_ k_ ∨ w.heap.size ≤ k_))) (by (with_reducible repeat (first | apply Kd.R_alloc | apply Kd.b1z | apply Kd.b3z)); exact HO_0.1) hg hat)).2.2) KL38.1))
            have n4_ := a1z.mk ((show Kd.C (Kd.int .i64) w42 A39 y142.length y142 from by rw [Ny142.1, KA39.1]; exact Kd.C_drop (m := (x5_1 : Int).toNat) (c := co36) ((Kd.b9z (Kd.e3z (ok := (fun k_ => (P0_ k_ ∨ w.heap.size ≤ k_))) (by (with_reducible repeat (first | apply Kd.R_alloc | apply Kd.b1z | apply Kd.b3z)); exact HO_0.1) hg hat)).2.2) KL39.1 ((Kd.b9z (Kd.e3z (ok := (fun k_ => (P0_ k_ ∨ w.heap.size ≤ k_))) (by (with_reducible repeat (first | apply Kd.R_alloc | apply Kd.b1z | apply Kd.b3z)); exact HO_0.1) hg hat)).2.1)))
            have n5_ := a1z.mk (ho)
            clear HO_0
            clear HB
            clear HK
            clear HR132
            clear HR145
            clear HO128
            have HO_0 := n0_
            have HB := n1_
            have HK := n2_
            have HR132 := n3_
            have HR145 := n4_
            have HO135 := n5_
            clear n0_ n1_ n2_ n3_ n4_ n5_
            clear ho hb hg hat
            refine hK.out _ _ trivial (fun hHeld => ?_)
            clear hK K
            refine norm_ (a' := ?_) ?_ ?_
            rotate_left
            ·show Act.put _ (some 37) _ = _
             simp only [Act.put, sA_, sZ_, sS_, i64_w, i32_w]
             rfl
            refine one_ (i := 6) (N := some 39) #[true, true, true, true, true, true, true, false, true, true, true, false, false] rfl rfl (f1z HT_.1 (by kernel_rfl)) (by decide) (fun K hK => ?_)
            refine Kd.g8z (Kd.int .i64) _ 3 ?hg (N := 39) ?hd (xs := ([a1] : List Int)) (inner := [.int .i64 a1]) (ok := fun _ => True) (okp := fun _ => True) ?hr ?hp (fun _ hk => hk) trivial (Below.refl _ _) (Nat.le_refl _) (by simp) ?_; (case hd => rfl); (case hg => rfl); (case hr => first | (go_simp; done) | (go_simp; rfl)); (case hp => exact (Reps.one (show Kd.M (Kd.int .i64) _ _ _ a1 [.int .i64 a1] from rfl) (Reps.none _ _)))
            intro v137 w43 ho44 hb hg_ hnew_
            clear hg_ hnew_
            (first | rw [← Ny136.1] at ho44 | (simp only [Int.reduceToNat] at ho44; rw [← Ny136.1] at ho44))
            have n0_ := a1z.mk (Kd.f0z (by (with_reducible repeat (first | apply Kd.R_alloc | apply Kd.b1z | apply Kd.b3z)); exact HO_0.1) (Kd.f8z ho44) hb)
            have n1_ := a1z.mk (Kd.f0z (by (with_reducible repeat (first | apply Kd.R_alloc | apply Kd.b1z | apply Kd.b3z)); exact HO135.1) (Kd.f8z ho44) hb)
            have n2_ := a1z.mk (Kd.e4z (Kd.f9z (Kd.f9z (Kd.R_newM (M := fun k_ => (P0_ k_ ∨ w.heap.size ≤ k_)) ho44 (by first | exact HK.1.1 | exact (show Kept w _ (fun k_ => P0_ k_) from by repeat (first | (with_reducible first | exact HK.1 | apply Kept.alloc | apply Kept.drewN | apply Kept.drew) | exact HK.1)).1) (fun k_ h_ => .inr h_)) (Kd.R_lt (by (with_reducible repeat (first | apply Kd.R_alloc | apply Kd.b1z | apply Kd.b3z)); exact HO_0.1))) (Kd.R_lt (by (with_reducible repeat (first | apply Kd.R_alloc | apply Kd.b1z | apply Kd.b3z)); exact HO135.1))) (b5z (by repeat (first | (with_reducible first | exact HB.1 | apply a5z | apply a2z | apply a4z) | exact HB.1))))
            have n3_ := a1z.mk (Kd.g1z (by repeat (first | (with_reducible exact HR132.1) | (with_reducible refine Kd.C_alloc ?_ _) | (with_reducible refine Kd.C_drewN ?_ _) | (with_reducible refine Kd.C_drew ?_) | exact HR132.1)) hb)
            have n4_ := a1z.mk (Kd.g1z (by repeat (first | (with_reducible exact HR145.1) | (with_reducible refine Kd.C_alloc ?_ _) | (with_reducible refine Kd.C_drewN ?_ _) | (with_reducible refine Kd.C_drew ?_) | exact HR145.1)) hb)
            have n5_ := a1z.mk (Kept.below (S := (fun k_ => P0_ k_)) (by repeat (first | (with_reducible first | exact HK.1 | apply Kept.alloc | apply Kept.drewN | apply Kept.drew) | exact HK.1)) hb)
            have n6_ := a1z.mk (b7z (by repeat (first | (with_reducible first | exact HB.1 | apply a5z | apply a2z | apply a4z) | exact HB.1)) hb)
            clear HO_0
            clear HO135
            clear HR132
            clear HR145
            clear HK
            clear HB
            have HO_0 := n0_
            have HO135 := n1_
            have HO138 := n2_
            have HR132 := n3_
            have HR145 := n4_
            have HK := n5_
            have HB := n6_
            clear n0_ n1_ n2_ n3_ n4_ n5_ n6_
            clear hb ho44
            refine hK.out _ _ trivial (fun hHeld => ?_)
            clear hK K
            refine norm_ (a' := ?_) ?_ ?_
            rotate_left
            ·show Act.put _ (some 39) _ = _
             simp only [Act.put, sA_, sZ_, sS_, i64_w, i32_w]
             rfl
            exact norm_ (by simp only [putAll, Act.put, sA_, sZ_, sS_]) (hCont (v127, v134, v137) _ ⟨(by (with_reducible repeat (first | apply Kd.R_alloc | apply Kd.b1z | apply Kd.b3z)); exact Kd.c6z HO135.1 (fun _ hk => ⟨hk.1.1, ⟨hk.2, hk.1.2⟩⟩)), (by (with_reducible repeat (first | apply Kd.R_alloc | apply Kd.b1z | apply Kd.b3z)); exact Kd.c6z HO138.1 (fun _ hk => ⟨hk.1.1.1, ⟨hk.2, hk.1.2⟩⟩)), (by (with_reducible repeat (first | apply Kd.R_alloc | apply Kd.b1z | apply Kd.b3z)); exact Kd.c6z HO_0.1 (fun _ hk => ⟨hk.1.1, ⟨hk.1.2, hk.2⟩⟩)), (by repeat (first | (with_reducible exact HR132.1) | (with_reducible refine Kd.C_alloc ?_ _) | (with_reducible refine Kd.C_drewN ?_ _) | (with_reducible refine Kd.C_drew ?_) | exact HR132.1)), (by repeat (first | (with_reducible exact HR145.1) | (with_reducible refine Kd.C_alloc ?_ _) | (with_reducible refine Kd.C_drewN ?_ _) | (with_reducible refine Kd.C_drew ?_) | exact HR145.1)), (by repeat (first | (with_reducible first | exact HK.1 | apply Kept.alloc | apply Kept.drewN | apply Kept.drew) | exact HK.1)), (by repeat (first | (with_reducible first | exact HB.1 | apply a5z | apply a2z | apply a4z) | exact HB.1))⟩)
           ·skip
            refine Kd.g8z (Kd.int .i64) _ 3 ?hg (N := 39) ?hd (xs := ([a1] : List Int)) (inner := [.int .i64 a1]) (ok := fun _ => True) (okp := fun _ => True) ?hr ?hp (fun _ hk => hk) trivial (Below.refl _ _) (Nat.le_refl _) (by simp) ?_; (case hd => rfl); (case hg => rfl); (case hr => first | (go_simp; done) | (go_simp; rfl)); (case hp => exact (Reps.one (show Kd.M (Kd.int .i64) _ _ _ a1 [.int .i64 a1] from rfl) (Reps.none _ _)))
            intro v137 w42 ho43 hb hg_ hnew_
            clear hg_ hnew_
            (first | rw [← Ny136.1] at ho43 | (simp only [Int.reduceToNat] at ho43; rw [← Ny136.1] at ho43))
            have n0_ := a1z.mk (Kd.f0z (by (with_reducible repeat (first | apply Kd.R_alloc | apply Kd.b1z | apply Kd.b3z)); exact HO_0.1) (Kd.f8z ho43) hb)
            have n1_ := a1z.mk (Kd.f0z (by (with_reducible repeat (first | apply Kd.R_alloc | apply Kd.b1z | apply Kd.b3z)); exact HO128.1) (Kd.f8z ho43) hb)
            have n2_ := a1z.mk (Kd.e4z (Kd.f9z (Kd.f9z (Kd.R_newM (M := fun k_ => (P0_ k_ ∨ w.heap.size ≤ k_)) ho43 (by first | exact HK.1.1 | exact (show Kept w _ (fun k_ => P0_ k_) from by repeat (first | (with_reducible first | exact HK.1 | apply Kept.alloc | apply Kept.drewN | apply Kept.drew) | exact HK.1)).1) (fun k_ h_ => .inr h_)) (Kd.R_lt (by (with_reducible repeat (first | apply Kd.R_alloc | apply Kd.b1z | apply Kd.b3z)); exact HO_0.1))) (Kd.R_lt (by (with_reducible repeat (first | apply Kd.R_alloc | apply Kd.b1z | apply Kd.b3z)); exact HO128.1))) (b5z (by repeat (first | (with_reducible first | exact HB.1 | apply a5z | apply a2z | apply a4z) | exact HB.1))))
            have n3_ := a1z.mk (Kd.g1z (by repeat (first | (with_reducible exact HR132.1) | (with_reducible refine Kd.C_alloc ?_ _) | (with_reducible refine Kd.C_drewN ?_ _) | (with_reducible refine Kd.C_drew ?_) | exact HR132.1)) hb)
            have n4_ := a1z.mk (Kd.g1z (by repeat (first | (with_reducible exact HR145.1) | (with_reducible refine Kd.C_alloc ?_ _) | (with_reducible refine Kd.C_drewN ?_ _) | (with_reducible refine Kd.C_drew ?_) | exact HR145.1)) hb)
            have n5_ := a1z.mk (Kept.below (S := (fun k_ => P0_ k_)) (by repeat (first | (with_reducible first | exact HK.1 | apply Kept.alloc | apply Kept.drewN | apply Kept.drew) | exact HK.1)) hb)
            have n6_ := a1z.mk (b7z (by repeat (first | (with_reducible first | exact HB.1 | apply a5z | apply a2z | apply a4z) | exact HB.1)) hb)
            clear HO_0
            clear HO128
            clear HR132
            clear HR145
            clear HK
            clear HB
            have HO_0 := n0_
            have HO128 := n1_
            have HO138 := n2_
            have HR132 := n3_
            have HR145 := n4_
            have HK := n5_
            have HB := n6_
            clear n0_ n1_ n2_ n3_ n4_ n5_ n6_
            clear hb ho43
            refine hK.out _ _ trivial (fun hHeld => ?_)
            clear hK K
            refine norm_ (a' := ?_) ?_ ?_
            rotate_left
            ·show Act.put _ (some 39) _ = _
             simp only [Act.put, sA_, sZ_, sS_, i64_w, i32_w]
             rfl
            refine one_ (i := 4) (N := some 37) #[true, true, true, true, true, true, true, false, true, true, true, false, false] rfl rfl (f1z HT_.1 (by kernel_rfl)) (by decide) (fun K hK => ?_)
            refine Kd.f7z (Kd.int .i64) (w0 := w0) w0.heap.size (by rfl) (.tmp 33) (.tmp 36) 132 3 (.int .i64 0) 8 rfl Try.underlying132 info3 rfl (by decide) (by omega) v127 y126 y129 _ _ _ (fun k_ => (P0_ k_ ∨ w.heap.size ≤ k_) ∧ some k_ ≠ (.slice Ao36 l0.length co36 : Value).ownBlock ∧ some k_ ≠ (v137 : Value).ownBlock) (fun _ => False) rfl rfl ?aO ?aR (fun _ _ h => h) (fun _ h => h.elim) ?aF ?aB ?aS ?aL ?_
            (case aR => repeat (first | exact (by repeat (first | (with_reducible exact HR132.1) | (with_reducible refine Kd.C_alloc ?_ _) | (with_reducible refine Kd.C_drewN ?_ _) | (with_reducible refine Kd.C_drew ?_) | exact HR132.1)) | (with_reducible refine Kd.C_alloc ?_ _) | (with_reducible refine Kd.C_drewN ?_ _) | (with_reducible refine Kd.C_drew ?_)))
            (case aB => exact (by repeat (first | (with_reducible first | exact HB.1 | apply a5z | apply a2z | apply a4z) | exact HB.1)))
            (case aF => exact (fun k_ hk => ⟨(.inr (Nat.le_trans (by first | exact HK.1.1 | exact (show Kept w _ (fun k_ => P0_ k_) from by repeat (first | (with_reducible first | exact HK.1 | apply Kept.alloc | apply Kept.drewN | apply Kept.drew) | exact HK.1)).1) hk)), Kd.fresh' (Kd.R_lt (by (with_reducible repeat (first | apply Kd.R_alloc | apply Kd.b1z | apply Kd.b3z)); exact HO_0.1)) k_ hk, Kd.fresh' (Kd.R_lt (by (with_reducible repeat (first | apply Kd.R_alloc | apply Kd.b1z | apply Kd.b3z)); exact HO138.1)) k_ hk⟩))
            (case aO => exact (by (with_reducible repeat (first | apply Kd.R_alloc | apply Kd.b1z | apply Kd.b3z)); exact Kd.c6z HO128.1 (fun _ hk => ⟨hk.1.1.1, ⟨hk.1.2, hk.2⟩⟩)))
            (case aS => exact (b5z (by repeat (first | (with_reducible first | exact HB.1 | apply a5z | apply a2z | apply a4z) | exact HB.1))))
            (case aL => have := LMc31.1; omega)
            intro v134 w44 ho hb hg hat
            rw [← Ny133.1] at ho
            have n0_ := a1z.mk (Kd.e3z (ok := (fun k_ => (P0_ k_ ∨ w.heap.size ≤ k_) ∧ some k_ ≠ (v137 : Value).ownBlock)) (by (with_reducible repeat (first | apply Kd.R_alloc | apply Kd.b1z | apply Kd.b3z)); exact Kd.c6z HO_0.1 (fun _ hk => ⟨⟨hk.1.1, hk.2⟩, hk.1.2⟩)) hg hat)
            have n1_ := a1z.mk (Kd.e3z (ok := (fun k_ => (P0_ k_ ∨ w.heap.size ≤ k_) ∧ some k_ ≠ (.slice Ao36 l0.length co36 : Value).ownBlock)) (by (with_reducible repeat (first | apply Kd.R_alloc | apply Kd.b1z | apply Kd.b3z)); exact Kd.c6z HO138.1 (fun _ hk => ⟨⟨hk.1.1.1, hk.1.2⟩, hk.2⟩)) hg hat)
            have n2_ := a1z.mk (hb)
            have n3_ := a1z.mk (Kept.of_grown (S := (fun k_ => P0_ k_)) hg (by repeat (first | (with_reducible first | exact HK.1 | apply Kept.alloc | apply Kept.drewN | apply Kept.drew) | exact HK.1)) (fun k_ e_ => (HO128.1.1 k_ e_).1.1.1))
            have n4_ := a1z.mk ((show Kd.C (Kd.int .i64) w44 Ao36 y129.length y129 from by rw [Ny129.1]; exact Kd.C_take (m := (x5_1 : Int).toNat) ((Kd.b9z (Kd.e3z (ok := (fun k_ => (P0_ k_ ∨ w.heap.size ≤ k_) ∧ some k_ ≠ (v137 : Value).ownBlock)) (by (with_reducible repeat (first | apply Kd.R_alloc | apply Kd.b1z | apply Kd.b3z)); exact Kd.c6z HO_0.1 (fun _ hk => ⟨⟨hk.1.1, hk.2⟩, hk.1.2⟩)) hg hat)).2.2) KL38.1))
            have n5_ := a1z.mk ((show Kd.C (Kd.int .i64) w44 A39 y142.length y142 from by rw [Ny142.1, KA39.1]; exact Kd.C_drop (m := (x5_1 : Int).toNat) (c := co36) ((Kd.b9z (Kd.e3z (ok := (fun k_ => (P0_ k_ ∨ w.heap.size ≤ k_) ∧ some k_ ≠ (v137 : Value).ownBlock)) (by (with_reducible repeat (first | apply Kd.R_alloc | apply Kd.b1z | apply Kd.b3z)); exact Kd.c6z HO_0.1 (fun _ hk => ⟨⟨hk.1.1, hk.2⟩, hk.1.2⟩)) hg hat)).2.2) KL39.1 ((Kd.b9z (Kd.e3z (ok := (fun k_ => (P0_ k_ ∨ w.heap.size ≤ k_) ∧ some k_ ≠ (v137 : Value).ownBlock)) (by (with_reducible repeat (first | apply Kd.R_alloc | apply Kd.b1z | apply Kd.b3z)); exact Kd.c6z HO_0.1 (fun _ hk => ⟨⟨hk.1.1, hk.2⟩, hk.1.2⟩)) hg hat)).2.1)))
            have n6_ := a1z.mk (ho)
            clear HO_0
            clear HO138
            clear HB
            clear HK
            clear HR132
            clear HR145
            clear HO128
            have HO_0 := n0_
            have HO138 := n1_
            have HB := n2_
            have HK := n3_
            have HR132 := n4_
            have HR145 := n5_
            have HO135 := n6_
            clear n0_ n1_ n2_ n3_ n4_ n5_ n6_
            clear ho hb hg hat
            refine hK.out _ _ trivial (fun hHeld => ?_)
            clear hK K
            refine norm_ (a' := ?_) ?_ ?_
            rotate_left
            ·show Act.put _ (some 37) _ = _
             simp only [Act.put, sA_, sZ_, sS_, i64_w, i32_w]
             rfl
            exact norm_ (by simp only [putAll, Act.put, sA_, sZ_, sS_]) (hCont (v127, v134, v137) _ ⟨(by (with_reducible repeat (first | apply Kd.R_alloc | apply Kd.b1z | apply Kd.b3z)); exact Kd.c6z HO135.1 (fun _ hk => ⟨hk.1, ⟨hk.2.2, hk.2.1⟩⟩)), (by (with_reducible repeat (first | apply Kd.R_alloc | apply Kd.b1z | apply Kd.b3z)); exact Kd.c6z HO138.1 (fun _ hk => ⟨hk.1.1, ⟨hk.2, hk.1.2⟩⟩)), (by (with_reducible repeat (first | apply Kd.R_alloc | apply Kd.b1z | apply Kd.b3z)); exact Kd.c6z HO_0.1 (fun _ hk => ⟨hk.1.1, ⟨hk.2, hk.1.2⟩⟩)), (by repeat (first | (with_reducible exact HR132.1) | (with_reducible refine Kd.C_alloc ?_ _) | (with_reducible refine Kd.C_drewN ?_ _) | (with_reducible refine Kd.C_drew ?_) | exact HR132.1)), (by repeat (first | (with_reducible exact HR145.1) | (with_reducible refine Kd.C_alloc ?_ _) | (with_reducible refine Kd.C_drewN ?_ _) | (with_reducible refine Kd.C_drew ?_) | exact HR145.1)), (by repeat (first | (with_reducible first | exact HK.1 | apply Kept.alloc | apply Kept.drewN | apply Kept.drew) | exact HK.1)), (by repeat (first | (with_reducible first | exact HB.1 | apply a5z | apply a2z | apply a4z) | exact HB.1))⟩)
          ·skip
           refine Kd.g8z (Kd.int .i64) _ 3 ?hg (N := 39) ?hd (xs := ([a1] : List Int)) (inner := [.int .i64 a1]) (ok := fun _ => True) (okp := fun _ => True) ?hr ?hp (fun _ hk => hk) trivial (Below.refl _ _) (Nat.le_refl _) (by simp) ?_; (case hd => rfl); (case hg => rfl); (case hr => first | (go_simp; done) | (go_simp; rfl)); (case hp => exact (Reps.one (show Kd.M (Kd.int .i64) _ _ _ a1 [.int .i64 a1] from rfl) (Reps.none _ _)))
           intro v137 w40 ho41 hb hg_ hnew_
           clear hg_ hnew_
           (first | rw [← Ny136.1] at ho41 | (simp only [Int.reduceToNat] at ho41; rw [← Ny136.1] at ho41))
           have n0_ := a1z.mk (Kd.f0z (by (with_reducible repeat (first | apply Kd.R_alloc | apply Kd.b1z | apply Kd.b3z)); exact HO_0.1) (Kd.f8z ho41) hb)
           have n1_ := a1z.mk (Kd.e4z (Kd.f9z (Kd.R_newM (M := fun k_ => (P0_ k_ ∨ w.heap.size ≤ k_)) ho41 (by first | exact HK.1.1 | exact (show Kept w _ (fun k_ => P0_ k_) from by repeat (first | (with_reducible first | exact HK.1 | apply Kept.alloc | apply Kept.drewN | apply Kept.drew) | exact HK.1)).1) (fun k_ h_ => .inr h_)) (Kd.R_lt (by (with_reducible repeat (first | apply Kd.R_alloc | apply Kd.b1z | apply Kd.b3z)); exact HO_0.1))) (b5z (by repeat (first | (with_reducible first | exact HB.1 | apply a5z | apply a2z | apply a4z) | exact HB.1))))
           have n2_ := a1z.mk (Kd.g1z (by repeat (first | (with_reducible exact HR132.1) | (with_reducible refine Kd.C_alloc ?_ _) | (with_reducible refine Kd.C_drewN ?_ _) | (with_reducible refine Kd.C_drew ?_) | exact HR132.1)) hb)
           have n3_ := a1z.mk (Kd.g1z (by repeat (first | (with_reducible exact HR145.1) | (with_reducible refine Kd.C_alloc ?_ _) | (with_reducible refine Kd.C_drewN ?_ _) | (with_reducible refine Kd.C_drew ?_) | exact HR145.1)) hb)
           have n4_ := a1z.mk (Kept.below (S := (fun k_ => P0_ k_)) (by repeat (first | (with_reducible first | exact HK.1 | apply Kept.alloc | apply Kept.drewN | apply Kept.drew) | exact HK.1)) hb)
           have n5_ := a1z.mk (b7z (by repeat (first | (with_reducible first | exact HB.1 | apply a5z | apply a2z | apply a4z) | exact HB.1)) hb)
           clear HO_0
           clear HR132
           clear HR145
           clear HK
           clear HB
           have HO_0 := n0_
           have HO138 := n1_
           have HR132 := n2_
           have HR145 := n3_
           have HK := n4_
           have HB := n5_
           clear n0_ n1_ n2_ n3_ n4_ n5_
           clear hb ho41
           refine hK.out _ _ trivial (fun hHeld => ?_)
           clear hK K
           refine norm_ (a' := ?_) ?_ ?_
           rotate_left
           ·show Act.put _ (some 39) _ = _
            simp only [Act.put, sA_, sZ_, sS_, i64_w, i32_w]
            rfl
           refine one_ (i := 0) (N := some 33) #[true, true, true, true, false, true, true, false, true, true, true, false, false] rfl rfl (f1z HT_.1 (by kernel_rfl)) (by decide) (fun K hK => ?_)
           refine Kd.g8z (Kd.int .i64) _ 3 ?hg (N := 33) ?hd (xs := ([] : List Int)) (inner := []) (ok := fun _ => True) (okp := fun _ => True) ?hr ?hp (fun _ hk => hk) trivial (Below.refl _ _) (Nat.le_refl _) (by simp) ?_; (case hd => rfl); (case hg => rfl); (case hr => first | (go_simp; done) | (go_simp; rfl)); (case hp => exact (Reps.none _ _))
           intro v127 w42 ho43 hb hg_ hnew_
           clear hg_ hnew_
           (first | rw [← Ny126.1] at ho43 | (simp only [Int.reduceToNat] at ho43; rw [← Ny126.1] at ho43))
           have n0_ := a1z.mk (Kd.f0z (by (with_reducible repeat (first | apply Kd.R_alloc | apply Kd.b1z | apply Kd.b3z)); exact HO_0.1) (Kd.f8z ho43) hb)
           have n1_ := a1z.mk (Kd.f0z (by (with_reducible repeat (first | apply Kd.R_alloc | apply Kd.b1z | apply Kd.b3z)); exact HO138.1) (Kd.f8z ho43) hb)
           have n2_ := a1z.mk (Kd.e4z (Kd.f9z (Kd.f9z (Kd.R_newM (M := fun k_ => (P0_ k_ ∨ w.heap.size ≤ k_)) ho43 (by first | exact HK.1.1 | exact (show Kept w _ (fun k_ => P0_ k_) from by repeat (first | (with_reducible first | exact HK.1 | apply Kept.alloc | apply Kept.drewN | apply Kept.drew) | exact HK.1)).1) (fun k_ h_ => .inr h_)) (Kd.R_lt (by (with_reducible repeat (first | apply Kd.R_alloc | apply Kd.b1z | apply Kd.b3z)); exact HO_0.1))) (Kd.R_lt (by (with_reducible repeat (first | apply Kd.R_alloc | apply Kd.b1z | apply Kd.b3z)); exact HO138.1))) (b5z (by repeat (first | (with_reducible first | exact HB.1 | apply a5z | apply a2z | apply a4z) | exact HB.1))))
           have n3_ := a1z.mk (Kd.g1z (by repeat (first | (with_reducible exact HR132.1) | (with_reducible refine Kd.C_alloc ?_ _) | (with_reducible refine Kd.C_drewN ?_ _) | (with_reducible refine Kd.C_drew ?_) | exact HR132.1)) hb)
           have n4_ := a1z.mk (Kd.g1z (by repeat (first | (with_reducible exact HR145.1) | (with_reducible refine Kd.C_alloc ?_ _) | (with_reducible refine Kd.C_drewN ?_ _) | (with_reducible refine Kd.C_drew ?_) | exact HR145.1)) hb)
           have n5_ := a1z.mk (Kept.below (S := (fun k_ => P0_ k_)) (by repeat (first | (with_reducible first | exact HK.1 | apply Kept.alloc | apply Kept.drewN | apply Kept.drew) | exact HK.1)) hb)
           have n6_ := a1z.mk (b7z (by repeat (first | (with_reducible first | exact HB.1 | apply a5z | apply a2z | apply a4z) | exact HB.1)) hb)
           clear HO_0
           clear HO138
           clear HR132
           clear HR145
           clear HK
           clear HB
           have HO_0 := n0_
           have HO138 := n1_
           have HO128 := n2_
           have HR132 := n3_
           have HR145 := n4_
           have HK := n5_
           have HB := n6_
           clear n0_ n1_ n2_ n3_ n4_ n5_ n6_
           clear hb ho43
           refine hK.out _ _ trivial (fun hHeld => ?_)
           clear hK K
           refine norm_ (a' := ?_) ?_ ?_
           rotate_left
           ·show Act.put _ (some 33) _ = _
            simp only [Act.put, sA_, sZ_, sS_, i64_w, i32_w]
            rfl
           refine one_ (i := 4) (N := some 37) #[true, true, true, true, true, true, true, false, true, true, true, false, false] rfl rfl (f1z HT_.1 (by kernel_rfl)) (by decide) (fun K hK => ?_)
           refine Kd.f7z (Kd.int .i64) (w0 := w0) w0.heap.size (by rfl) (.tmp 33) (.tmp 36) 132 3 (.int .i64 0) 8 rfl Try.underlying132 info3 rfl (by decide) (by omega) v127 y126 y129 _ _ _ (fun k_ => (P0_ k_ ∨ w.heap.size ≤ k_) ∧ some k_ ≠ (.slice Ao36 l0.length co36 : Value).ownBlock ∧ some k_ ≠ (v137 : Value).ownBlock) (fun _ => False) rfl rfl ?aO ?aR (fun _ _ h => h) (fun _ h => h.elim) ?aF ?aB ?aS ?aL ?_
           (case aR => repeat (first | exact (by repeat (first | (with_reducible exact HR132.1) | (with_reducible refine Kd.C_alloc ?_ _) | (with_reducible refine Kd.C_drewN ?_ _) | (with_reducible refine Kd.C_drew ?_) | exact HR132.1)) | (with_reducible refine Kd.C_alloc ?_ _) | (with_reducible refine Kd.C_drewN ?_ _) | (with_reducible refine Kd.C_drew ?_)))
           (case aB => exact (by repeat (first | (with_reducible first | exact HB.1 | apply a5z | apply a2z | apply a4z) | exact HB.1)))
           (case aF => exact (fun k_ hk => ⟨(.inr (Nat.le_trans (by first | exact HK.1.1 | exact (show Kept w _ (fun k_ => P0_ k_) from by repeat (first | (with_reducible first | exact HK.1 | apply Kept.alloc | apply Kept.drewN | apply Kept.drew) | exact HK.1)).1) hk)), Kd.fresh' (Kd.R_lt (by (with_reducible repeat (first | apply Kd.R_alloc | apply Kd.b1z | apply Kd.b3z)); exact HO_0.1)) k_ hk, Kd.fresh' (Kd.R_lt (by (with_reducible repeat (first | apply Kd.R_alloc | apply Kd.b1z | apply Kd.b3z)); exact HO138.1)) k_ hk⟩))
           (case aO => exact (by (with_reducible repeat (first | apply Kd.R_alloc | apply Kd.b1z | apply Kd.b3z)); exact Kd.c6z HO128.1 (fun _ hk => ⟨hk.1.1.1, ⟨hk.1.2, hk.2⟩⟩)))
           (case aS => exact (b5z (by repeat (first | (with_reducible first | exact HB.1 | apply a5z | apply a2z | apply a4z) | exact HB.1))))
           (case aL => have := LMc31.1; omega)
           intro v134 w44 ho hb hg hat
           rw [← Ny133.1] at ho
           have n0_ := a1z.mk (Kd.e3z (ok := (fun k_ => (P0_ k_ ∨ w.heap.size ≤ k_) ∧ some k_ ≠ (v137 : Value).ownBlock)) (by (with_reducible repeat (first | apply Kd.R_alloc | apply Kd.b1z | apply Kd.b3z)); exact HO_0.1) hg hat)
           have n1_ := a1z.mk (Kd.e3z (ok := (fun k_ => (P0_ k_ ∨ w.heap.size ≤ k_) ∧ some k_ ≠ (.slice Ao36 l0.length co36 : Value).ownBlock)) (by (with_reducible repeat (first | apply Kd.R_alloc | apply Kd.b1z | apply Kd.b3z)); exact Kd.c6z HO138.1 (fun _ hk => ⟨⟨hk.1.1.1, hk.1.2⟩, hk.2⟩)) hg hat)
           have n2_ := a1z.mk (hb)
           have n3_ := a1z.mk (Kept.of_grown (S := (fun k_ => P0_ k_)) hg (by repeat (first | (with_reducible first | exact HK.1 | apply Kept.alloc | apply Kept.drewN | apply Kept.drew) | exact HK.1)) (fun k_ e_ => (HO128.1.1 k_ e_).1.1.1))
           have n4_ := a1z.mk ((show Kd.C (Kd.int .i64) w44 Ao36 y129.length y129 from by rw [Ny129.1]; exact Kd.C_take (m := (x5_1 : Int).toNat) ((Kd.b9z (Kd.e3z (ok := (fun k_ => (P0_ k_ ∨ w.heap.size ≤ k_) ∧ some k_ ≠ (v137 : Value).ownBlock)) (by (with_reducible repeat (first | apply Kd.R_alloc | apply Kd.b1z | apply Kd.b3z)); exact HO_0.1) hg hat)).2.2) KL38.1))
           have n5_ := a1z.mk ((show Kd.C (Kd.int .i64) w44 A39 y142.length y142 from by rw [Ny142.1, KA39.1]; exact Kd.C_drop (m := (x5_1 : Int).toNat) (c := co36) ((Kd.b9z (Kd.e3z (ok := (fun k_ => (P0_ k_ ∨ w.heap.size ≤ k_) ∧ some k_ ≠ (v137 : Value).ownBlock)) (by (with_reducible repeat (first | apply Kd.R_alloc | apply Kd.b1z | apply Kd.b3z)); exact HO_0.1) hg hat)).2.2) KL39.1 ((Kd.b9z (Kd.e3z (ok := (fun k_ => (P0_ k_ ∨ w.heap.size ≤ k_) ∧ some k_ ≠ (v137 : Value).ownBlock)) (by (with_reducible repeat (first | apply Kd.R_alloc | apply Kd.b1z | apply Kd.b3z)); exact HO_0.1) hg hat)).2.1)))
           have n6_ := a1z.mk (ho)
           clear HO_0
           clear HO138
           clear HB
           clear HK
           clear HR132
           clear HR145
           clear HO128
           have HO_0 := n0_
           have HO138 := n1_
           have HB := n2_
           have HK := n3_
           have HR132 := n4_
           have HR145 := n5_
           have HO135 := n6_
           clear n0_ n1_ n2_ n3_ n4_ n5_ n6_
           clear ho hb hg hat
           refine hK.out _ _ trivial (fun hHeld => ?_)
           clear hK K
           refine norm_ (a' := ?_) ?_ ?_
           rotate_left
           ·show Act.put _ (some 37) _ = _
            simp only [Act.put, sA_, sZ_, sS_, i64_w, i32_w]
            rfl
           exact norm_ (by simp only [putAll, Act.put, sA_, sZ_, sS_]) (hCont (v127, v134, v137) _ ⟨(by (with_reducible repeat (first | apply Kd.R_alloc | apply Kd.b1z | apply Kd.b3z)); exact Kd.c6z HO135.1 (fun _ hk => ⟨hk.1, ⟨hk.2.2, hk.2.1⟩⟩)), (by (with_reducible repeat (first | apply Kd.R_alloc | apply Kd.b1z | apply Kd.b3z)); exact Kd.c6z HO138.1 (fun _ hk => ⟨hk.1.1, ⟨hk.2, hk.1.2⟩⟩)), (by (with_reducible repeat (first | apply Kd.R_alloc | apply Kd.b1z | apply Kd.b3z)); exact Kd.c6z HO_0.1 (fun _ hk => ⟨hk.1.1, ⟨hk.2, hk.1.2⟩⟩)), (by repeat (first | (with_reducible exact HR132.1) | (with_reducible refine Kd.C_alloc ?_ _) | (with_reducible refine Kd.C_drewN ?_ _) | (with_reducible refine Kd.C_drew ?_) | exact HR132.1)), (by repeat (first | (with_reducible exact HR145.1) | (with_reducible refine Kd.C_alloc ?_ _) | (with_reducible refine Kd.C_drewN ?_ _) | (with_reducible refine Kd.C_drew ?_) | exact HR145.1)), (by repeat (first | (with_reducible first | exact HK.1 | apply Kept.alloc | apply Kept.drewN | apply Kept.drew) | exact HK.1)), (by repeat (first | (with_reducible first | exact HB.1 | apply a5z | apply a2z | apply a4z) | exact HB.1))⟩)
         rintro ⟨v127, v134, v137⟩ w45 ⟨h0_, h1_, h2_, h3_, h4_, h5_, h6_⟩
         have n0_ : a1z (Kd.R (Kd.int .i64) 3 w45 w0.heap.size (fun k_ => (P0_ k_ ∨ w.heap.size ≤ k_) ∧ some k_ ≠ (v137 : Value).ownBlock ∧ some k_ ≠ (.slice Ao36 l0.length co36 : Value).ownBlock) v134 y133) := ⟨h0_⟩
         have n1_ : a1z (Kd.R (Kd.int .i64) 3 w45 w0.heap.size (fun k_ => (P0_ k_ ∨ w.heap.size ≤ k_) ∧ some k_ ≠ (v134 : Value).ownBlock ∧ some k_ ≠ (.slice Ao36 l0.length co36 : Value).ownBlock) v137 y136) := ⟨h1_⟩
         have n2_ : a1z (Kd.R (Kd.int .i64) 3 w45 w0.heap.size (fun k_ => (P0_ k_ ∨ w.heap.size ≤ k_) ∧ some k_ ≠ (v134 : Value).ownBlock ∧ some k_ ≠ (v137 : Value).ownBlock) (.slice Ao36 l0.length co36) l0) := ⟨h2_⟩
         have n3_ : a1z (Kd.C (Kd.int .i64) w45 Ao36 y129.length y129) := ⟨h3_⟩
         have n4_ : a1z (Kd.C (Kd.int .i64) w45 A39 y142.length y142) := ⟨h4_⟩
         have n5_ : a1z (Kept w w45 (fun k_ => P0_ k_)) := ⟨h5_⟩
         have n6_ : a1z (Below w0.heap.size w0 w45) := ⟨h6_⟩
         clear HO_0
         clear HK
         clear HB
         clear h0_ h1_ h2_ h3_ h4_ h5_ h6_
         have HO135 := n0_
         have HO138 := n1_
         have HO_0 := n2_
         have HR132 := n3_
         have HR145 := n4_
         have HK := n5_
         have HB := n6_
         clear n0_ n1_ n2_ n3_ n4_ n5_ n6_
         have hHeld := trivial
         obtain ⟨Ao47, co47, eo47⟩ := Kd.d6z HO138.1
         (first | subst eo47 | (injection eo47 with f1_ f2_ f3_; have f4_ := f1_.symm; have f5_ := f3_.symm; clear f1_ f2_ f3_; subst f4_; subst f5_))
         refine norm_ (a' := ?_) ?_ ?_
         rotate_left
         ·simp only [putAll, Act.put, sA_, sZ_, sS_]
          rfl
         refine one_ (i := 7) (N := some 40) #[true, true, true, true, true, true, true, true, true, true, true, false, false] rfl rfl (f1z HT_.1 (by kernel_rfl)) (by decide) (fun K hK => ?_)
         refine Kd.f7z (Kd.int .i64) (w0 := w0) w0.heap.size (by rfl) (.tmp 37) (.tmp 39) 132 3 (.int .i64 0) 8 rfl Try.underlying132 info3 rfl (by decide) (by omega) v134 y133 y136 _ _ _ (fun k_ => (P0_ k_ ∨ w.heap.size ≤ k_) ∧ some k_ ≠ (.slice Ao36 l0.length co36 : Value).ownBlock ∧ some k_ ≠ (.slice Ao47 y136.length co47 : Value).ownBlock) (fun _ => False) rfl rfl ?aO ?aR (fun _ _ h => h) (fun _ h => h.elim) ?aF ?aB ?aS ?aL ?_
         (case aR => repeat (first | exact (Kd.b9z HO138.1).2.2 | (with_reducible refine Kd.C_alloc ?_ _) | (with_reducible refine Kd.C_drewN ?_ _) | (with_reducible refine Kd.C_drew ?_)))
         (case aB => exact (by repeat (first | (with_reducible first | exact HB.1 | apply a5z | apply a2z | apply a4z) | exact HB.1)))
         (case aF => exact (fun k_ hk => ⟨(.inr (Nat.le_trans (by first | exact HK.1.1 | exact (show Kept w _ (fun k_ => P0_ k_) from by repeat (first | (with_reducible first | exact HK.1 | apply Kept.alloc | apply Kept.drewN | apply Kept.drew) | exact HK.1)).1) hk)), Kd.fresh' (Kd.R_lt (by (with_reducible repeat (first | apply Kd.R_alloc | apply Kd.b1z | apply Kd.b3z)); exact HO_0.1)) k_ hk, Kd.fresh' (Kd.R_lt (by (with_reducible repeat (first | apply Kd.R_alloc | apply Kd.b1z | apply Kd.b3z)); exact HO138.1)) k_ hk⟩))
         (case aO => exact (by (with_reducible repeat (first | apply Kd.R_alloc | apply Kd.b1z | apply Kd.b3z)); exact Kd.c6z HO135.1 (fun _ hk => ⟨hk.1, ⟨hk.2.2, hk.2.1⟩⟩)))
         (case aS => exact (b5z (by repeat (first | (with_reducible first | exact HB.1 | apply a5z | apply a2z | apply a4z) | exact HB.1))))
         (case aL => have := LMc32.1; omega)
         intro v140 w46 ho hb hg hat
         rw [← Ny139.1] at ho
         have n0_ := a1z.mk (Kd.e3z (ok := (fun k_ => (P0_ k_ ∨ w.heap.size ≤ k_) ∧ some k_ ≠ (.slice Ao47 y136.length co47 : Value).ownBlock)) (by (with_reducible repeat (first | apply Kd.R_alloc | apply Kd.b1z | apply Kd.b3z)); exact Kd.c6z HO_0.1 (fun _ hk => ⟨⟨hk.1, hk.2.2⟩, hk.2.1⟩)) hg hat)
         have n1_ := a1z.mk (Kd.e3z (ok := (fun k_ => (P0_ k_ ∨ w.heap.size ≤ k_) ∧ some k_ ≠ (.slice Ao36 l0.length co36 : Value).ownBlock)) (by (with_reducible repeat (first | apply Kd.R_alloc | apply Kd.b1z | apply Kd.b3z)); exact Kd.c6z HO138.1 (fun _ hk => ⟨⟨hk.1, hk.2.2⟩, hk.2.1⟩)) hg hat)
         have n2_ := a1z.mk (hb)
         have n3_ := a1z.mk (Kept.of_grown (S := (fun k_ => P0_ k_)) hg (by repeat (first | (with_reducible first | exact HK.1 | apply Kept.alloc | apply Kept.drewN | apply Kept.drew) | exact HK.1)) (fun k_ e_ => (HO135.1.1 k_ e_).1))
         have n4_ := a1z.mk ((show Kd.C (Kd.int .i64) w46 Ao36 y129.length y129 from by rw [Ny129.1]; exact Kd.C_take (m := (x5_1 : Int).toNat) ((Kd.b9z (Kd.e3z (ok := (fun k_ => (P0_ k_ ∨ w.heap.size ≤ k_) ∧ some k_ ≠ (.slice Ao47 y136.length co47 : Value).ownBlock)) (by (with_reducible repeat (first | apply Kd.R_alloc | apply Kd.b1z | apply Kd.b3z)); exact Kd.c6z HO_0.1 (fun _ hk => ⟨⟨hk.1, hk.2.2⟩, hk.2.1⟩)) hg hat)).2.2) KL38.1))
         have n5_ := a1z.mk ((show Kd.C (Kd.int .i64) w46 A39 y142.length y142 from by rw [Ny142.1, KA39.1]; exact Kd.C_drop (m := (x5_1 : Int).toNat) (c := co36) ((Kd.b9z (Kd.e3z (ok := (fun k_ => (P0_ k_ ∨ w.heap.size ≤ k_) ∧ some k_ ≠ (.slice Ao47 y136.length co47 : Value).ownBlock)) (by (with_reducible repeat (first | apply Kd.R_alloc | apply Kd.b1z | apply Kd.b3z)); exact Kd.c6z HO_0.1 (fun _ hk => ⟨⟨hk.1, hk.2.2⟩, hk.2.1⟩)) hg hat)).2.2) KL39.1 ((Kd.b9z (Kd.e3z (ok := (fun k_ => (P0_ k_ ∨ w.heap.size ≤ k_) ∧ some k_ ≠ (.slice Ao47 y136.length co47 : Value).ownBlock)) (by (with_reducible repeat (first | apply Kd.R_alloc | apply Kd.b1z | apply Kd.b3z)); exact Kd.c6z HO_0.1 (fun _ hk => ⟨⟨hk.1, hk.2.2⟩, hk.2.1⟩)) hg hat)).2.1)))
         have n6_ := a1z.mk (ho)
         clear HO_0
         clear HO138
         clear HB
         clear HK
         clear HR132
         clear HR145
         clear HO135
         have HO_0 := n0_
         have HO138 := n1_
         have HB := n2_
         have HK := n3_
         have HR132 := n4_
         have HR145 := n5_
         have HO141 := n6_
         clear n0_ n1_ n2_ n3_ n4_ n5_ n6_
         clear ho hb hg hat
         refine hK.out _ _ trivial (fun hHeld => ?_)
         clear hK K
         refine norm_ (a' := ?_) ?_ ?_
         rotate_left
         ·show Act.put _ (some 40) _ = _
          simp only [Act.put, sA_, sZ_, sS_, i64_w, i32_w]
          rfl
         refine one_ (i := 11) (N := some 44) #[true, true, true, true, true, true, true, true, true, true, true, true, false] rfl rfl (f1z HT_.1 (by kernel_rfl)) (by decide) (fun K hK => ?_)
         refine Kd.f7z (Kd.int .i64) (w0 := w0) w0.heap.size (by rfl) (.tmp 40) (.tmp 43) 132 3 (.int .i64 0) 8 rfl Try.underlying132 info3 rfl (by decide) (by omega) v140 y139 y142 _ _ _ (fun k_ => (P0_ k_ ∨ w.heap.size ≤ k_) ∧ some k_ ≠ (.slice Ao36 l0.length co36 : Value).ownBlock ∧ some k_ ≠ (.slice Ao47 y136.length co47 : Value).ownBlock) (fun _ => False) rfl rfl ?aO ?aR (fun _ _ h => h) (fun _ h => h.elim) ?aF ?aB ?aS ?aL ?_
         (case aR => repeat (first | exact (by repeat (first | (with_reducible exact HR145.1) | (with_reducible refine Kd.C_alloc ?_ _) | (with_reducible refine Kd.C_drewN ?_ _) | (with_reducible refine Kd.C_drew ?_) | exact HR145.1)) | (with_reducible refine Kd.C_alloc ?_ _) | (with_reducible refine Kd.C_drewN ?_ _) | (with_reducible refine Kd.C_drew ?_)))
         (case aB => exact (by repeat (first | (with_reducible first | exact HB.1 | apply a5z | apply a2z | apply a4z) | exact HB.1)))
         (case aF => exact (fun k_ hk => ⟨(.inr (Nat.le_trans (by first | exact HK.1.1 | exact (show Kept w _ (fun k_ => P0_ k_) from by repeat (first | (with_reducible first | exact HK.1 | apply Kept.alloc | apply Kept.drewN | apply Kept.drew) | exact HK.1)).1) hk)), Kd.fresh' (Kd.R_lt (by (with_reducible repeat (first | apply Kd.R_alloc | apply Kd.b1z | apply Kd.b3z)); exact HO_0.1)) k_ hk, Kd.fresh' (Kd.R_lt (by (with_reducible repeat (first | apply Kd.R_alloc | apply Kd.b1z | apply Kd.b3z)); exact HO138.1)) k_ hk⟩))
         (case aO => exact (by (with_reducible repeat (first | apply Kd.R_alloc | apply Kd.b1z | apply Kd.b3z)); exact HO141.1))
         (case aS => exact (b5z (by repeat (first | (with_reducible first | exact HB.1 | apply a5z | apply a2z | apply a4z) | exact HB.1))))
         (case aL => have := LMc35.1; omega)
         intro v147 w48 ho hb hg hat
         rw [← Ny146.1] at ho
         have n0_ := a1z.mk (Kd.e3z (ok := (fun k_ => (P0_ k_ ∨ w.heap.size ≤ k_) ∧ some k_ ≠ (.slice Ao47 y136.length co47 : Value).ownBlock)) (by (with_reducible repeat (first | apply Kd.R_alloc | apply Kd.b1z | apply Kd.b3z)); exact HO_0.1) hg hat)
         have n1_ := a1z.mk (Kd.e3z (ok := (fun k_ => (P0_ k_ ∨ w.heap.size ≤ k_) ∧ some k_ ≠ (.slice Ao36 l0.length co36 : Value).ownBlock)) (by (with_reducible repeat (first | apply Kd.R_alloc | apply Kd.b1z | apply Kd.b3z)); exact HO138.1) hg hat)
         have n2_ := a1z.mk (hb)
         have n3_ := a1z.mk (Kept.of_grown (S := (fun k_ => P0_ k_)) hg (by repeat (first | (with_reducible first | exact HK.1 | apply Kept.alloc | apply Kept.drewN | apply Kept.drew) | exact HK.1)) (fun k_ e_ => (HO141.1.1 k_ e_).1))
         have n4_ := a1z.mk ((show Kd.C (Kd.int .i64) w48 Ao36 y129.length y129 from by rw [Ny129.1]; exact Kd.C_take (m := (x5_1 : Int).toNat) ((Kd.b9z (Kd.e3z (ok := (fun k_ => (P0_ k_ ∨ w.heap.size ≤ k_) ∧ some k_ ≠ (.slice Ao47 y136.length co47 : Value).ownBlock)) (by (with_reducible repeat (first | apply Kd.R_alloc | apply Kd.b1z | apply Kd.b3z)); exact HO_0.1) hg hat)).2.2) KL38.1))
         have n5_ := a1z.mk ((show Kd.C (Kd.int .i64) w48 A39 y142.length y142 from by rw [Ny142.1, KA39.1]; exact Kd.C_drop (m := (x5_1 : Int).toNat) (c := co36) ((Kd.b9z (Kd.e3z (ok := (fun k_ => (P0_ k_ ∨ w.heap.size ≤ k_) ∧ some k_ ≠ (.slice Ao47 y136.length co47 : Value).ownBlock)) (by (with_reducible repeat (first | apply Kd.R_alloc | apply Kd.b1z | apply Kd.b3z)); exact HO_0.1) hg hat)).2.2) KL39.1 ((Kd.b9z (Kd.e3z (ok := (fun k_ => (P0_ k_ ∨ w.heap.size ≤ k_) ∧ some k_ ≠ (.slice Ao47 y136.length co47 : Value).ownBlock)) (by (with_reducible repeat (first | apply Kd.R_alloc | apply Kd.b1z | apply Kd.b3z)); exact HO_0.1) hg hat)).2.1)))
         have n6_ := a1z.mk (ho)
         clear HO_0
         clear HO138
         clear HB
         clear HK
         clear HR132
         clear HR145
         clear HO141
         have HO_0 := n0_
         have HO138 := n1_
         have HB := n2_
         have HK := n3_
         have HR132 := n4_
         have HR145 := n5_
         have HO148 := n6_
         clear n0_ n1_ n2_ n3_ n4_ n5_ n6_
         clear ho hb hg hat
         refine hK.out _ _ trivial (fun hHeld => ?_)
         clear hK K
         refine norm_ (a' := ?_) ?_ ?_
         rotate_left
         ·show Act.put _ (some 44) _ = _
          simp only [Act.put, sA_, sZ_, sS_, i64_w, i32_w]
          rfl
         refine pure_ (i := 12) (N := some 4) (v := ?_) (a' := ?_) #[true, true, true, true, true, true, true, true, true, true, true, true, true] rfl rfl (c9z HT_.1 (by kernel_rfl)) (fun _ _ _ h => h) (Or.inl ⟨by rfl, ?_⟩) ?_ ?_
         rotate_left
         ·intro w'
          go_simp
          with_reducible rfl
         rotate_left
         ·simp only [Act.put, sA_, sZ_, sS_, i64_w, i32_w]
          rfl
         refine done_ (h7z HT_.1 (by kernel_rfl)) ?_
         try go_wp2
         go_ret
         exact ⟨_, by first | rfl | (simp [c2z, c1z] <;> rfl) | (simp [*, c2z, c1z] <;> rfl), by (with_reducible repeat (first | apply Kd.R_alloc | apply Kd.b1z | apply Kd.b3z)); exact Kd.c6z HO148.1 (fun _ hk => hk.1), by repeat (first | (with_reducible first | exact HB.1 | apply a5z | apply a2z | apply a4z) | exact HB.1), by repeat (first | (with_reducible first | exact HK.1 | apply Kept.alloc | apply Kept.drewN | apply Kept.drew) | exact HK.1)⟩
        ·rw [if_neg c35] at H
         exact absurd H (by simp)
       ·rw [if_neg c32] at H
        exact absurd H (by simp)
      ·rw [if_neg c31] at H
       exact absurd H (by simp)
     ·rw [if_neg c30] at H
      exact absurd H (by simp)
    ·rw [if_neg c29] at H
     exact absurd H (by simp)
end Go.Proofs.Ytbhgkpfbggkgdaa.Q
