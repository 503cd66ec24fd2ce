/- The law FnExactFrameHead (part 1 of 1): for every input the call answers true and its arguments read afterwards as before. No condition beyond the row's own. -/
import Derived.Test.YtnkaccacippbfaaRows
import Derived.Test.YtnkaccacippbfaaProg
import Derived.Below
import Derived.Deep.Draws
import Derived.Deep.AppendLies
import Derived.Maps.AppendAt
import Derived.OwnWalk
import Derived.Laws.BytesArg
import Derived.Laws.MakeOwn
import Derived.Laws.OwnMore
import Derived.Deep.OwnRows
import Derived.Tactics
import Derived.Lib.ConvBytes
import Derived.Laws.Slices
import Derived.WalkKit
import Derived.KernelRfl
import Derived.RowKit3
import Derived.Deep.LoopGhost
import Derived.Deep.QuietTactic
import Derived.BigQuiet
import Derived.WideLaws
import Derived.Deep.DeepCutAuto
import Derived.Deep.CutBlock
import Derived.Deep.RegionHeld3
import Derived.Laws.Rows
import Derived.Lib.AppendStr
import Derived.ArgAppend
import Derived.Laws.IdiomCopy
import Derived.OrdersHeld
import Derived.Laws.BitsLemmas
import Derived.RowKit
import Derived.Test.YtnkaccacippbfaaWWords
import Derived.Test.YtnkaccacippbfaaWLast
import Derived.Test.YtnkaccacippbfaaWTab
import Derived.Test.YtnkaccacippbfaaWFour
import Derived.Test.YtnkaccacippbfaaWQPut
import Derived.Test.YtnkaccacippbfaaWApart
import Derived.Test.YtnkaccacippbfaaWArr
import Derived.Test.YtnkaccacippbfaaWZeros
import Derived.Test.YtnkaccacippbfaaWFoot
import Derived.Test.YtnkaccacippbfaaWKept
import Derived.Test.YtnkaccacippbfaaWShare
import Derived.Test.YtnkaccacippbfaaWN
import Derived.Test.YtnkaccacippbfaaWFootNe
import Derived.Test.YtnkaccacippbfaaWAt
import Derived.Test.YtnkaccacippbfaaWEqStruct
import Derived.Test.YtnkaccacippbfaaWRepsOne
import Derived.Test.YtnkaccacippbfaaWInv
import Derived.Test.YtnkaccacippbfaaWInvWords
import Derived.Test.YtnkaccacippbfaaWGuard
import Derived.Test.YtnkaccacippbfaaWNEv
import Derived.Test.YtnkaccacippbfaaWMore
import Derived.Deep.Slices
import Derived.Deep.Fields
import Derived.ChangeSame
import Derived.ProofKit
import Derived.WideShapes
import Derived.OpenShut
import Derived.ShutString
import Derived.ChangeOld
import Derived.SizedLaws
/- Contracts of Go functions of this seat, written by a program: where F.f of the arguments is some r, the call returns r. Conditions: those in each statement. -/
namespace Go.Proofs.Ytnkaccacippbfaa.Q
open Go.RowKit Go.Proofs.YtnkaccacippbfaaW.PrintWords Go.Proofs.YtnkaccacippbfaaW.PrintLast Go.Proofs.YtnkaccacippbfaaW.PrintMore
attribute [local go_sem] max2_int min2_int max_two min_two max_three min_three max_four min_four   -- for this text's walks alone
set_option linter.unusedVariables false
set_option linter.unusedSimpArgs false



def errW : Option Int → Value
  | none => .nilIface
  | some c => .iface 0 (.int .i64 c)
theorem errW_none : errW none = .nilIface := rfl
theorem errW_some (c : Int) : errW (some c) = .iface 0 (.int .i64 c) := rfl

theorem info3 : (Try.prog.info? 3).map (fun i => (i.zero, i.size, i.bytes)) = some (some (.int .i64 0), 1, 8) := by kernel_rfl
theorem info5 : (Try.prog.info? 5).map (fun i => (i.zero, i.size, i.bytes)) = some (some (.int .u8 0), 1, 1) := by kernel_rfl
-- the values' own types
/-! #### struct type 24 -/
structure S24 where
  f0 : Int
  f1 : Int
  f2 : Int
  f3 : Int
  f4 : Int
  f5 : Int
  f6 : Int
def z24 : S24 := ⟨(0 : Int), (0 : Int), (0 : Int), (0 : Int), (0 : Int), (0 : Int), (0 : Int)⟩
def k24 : Kd S24 := Kd.iso (Kd.pair (Kd.int .i64) (Kd.pair (Kd.int .i64) (Kd.pair (Kd.int .i64) (Kd.pair (Kd.int .i64) (Kd.pair (Kd.int .i64) (Kd.pair (Kd.int .i64) (Kd.int .i64))))))) (fun x : S24 => (x.f0, x.f1, x.f2, x.f3, x.f4, x.f5, x.f6))
theorem k24_heap : Kd.Heap k24 := Kd.heap_iso _ (Kd.heap_pair (Kd.heap_int .i64) (Kd.heap_pair (Kd.heap_int .i64) (Kd.heap_pair (Kd.heap_int .i64) (Kd.heap_pair (Kd.heap_int .i64) (Kd.heap_pair (Kd.heap_int .i64) (Kd.heap_pair (Kd.heap_int .i64) (Kd.heap_int .i64)))))))
theorem k24_open {w : World} {x : S24} {cs : List Value} (h : k24.K w x cs) : cs = [.int .i64 x.f0, .int .i64 x.f1, .int .i64 x.f2, .int .i64 x.f3, .int .i64 x.f4, .int .i64 x.f5, .int .i64 x.f6] := by
  obtain ⟨_, _, rfl, rfl, ⟨_, _, rfl, rfl, ⟨_, _, rfl, rfl, ⟨_, _, rfl, rfl, ⟨_, _, rfl, rfl, ⟨_, _, rfl, rfl, rfl⟩⟩⟩⟩⟩⟩ := h
  exact rfl
theorem k24_openM {w : World} {base : Nat} {ok : Nat → Prop} {x : S24} {cs : List Value} (h : k24.M w base ok x cs) : cs = [.int .i64 x.f0, .int .i64 x.f1, .int .i64 x.f2, .int .i64 x.f3, .int .i64 x.f4, .int .i64 x.f5, .int .i64 x.f6] := by
  obtain ⟨_, _, rfl, rfl, ⟨_, _, rfl, rfl, ⟨_, _, rfl, rfl, ⟨_, _, rfl, rfl, ⟨_, _, rfl, rfl, ⟨_, _, rfl, rfl, rfl⟩⟩⟩⟩⟩⟩ := h
  exact rfl
theorem k24_mk (w : World) (x : S24)  : k24.K w x [.int .i64 x.f0, .int .i64 x.f1, .int .i64 x.f2, .int .i64 x.f3, .int .i64 x.f4, .int .i64 x.f5, .int .i64 x.f6] := ⟨[.int .i64 x.f0], [.int .i64 x.f1, .int .i64 x.f2, .int .i64 x.f3, .int .i64 x.f4, .int .i64 x.f5, .int .i64 x.f6], rfl, rfl, ⟨[.int .i64 x.f1], [.int .i64 x.f2, .int .i64 x.f3, .int .i64 x.f4, .int .i64 x.f5, .int .i64 x.f6], rfl, rfl, ⟨[.int .i64 x.f2], [.int .i64 x.f3, .int .i64 x.f4, .int .i64 x.f5, .int .i64 x.f6], rfl, rfl, ⟨[.int .i64 x.f3], [.int .i64 x.f4, .int .i64 x.f5, .int .i64 x.f6], rfl, rfl, ⟨[.int .i64 x.f4], [.int .i64 x.f5, .int .i64 x.f6], rfl, rfl, ⟨[.int .i64 x.f5], [.int .i64 x.f6], rfl, rfl, rfl⟩⟩⟩⟩⟩⟩
theorem k24_mkM (w : World) (base : Nat) (ok : Nat → Prop) (x : S24)  : k24.M w base ok x [.int .i64 x.f0, .int .i64 x.f1, .int .i64 x.f2, .int .i64 x.f3, .int .i64 x.f4, .int .i64 x.f5, .int .i64 x.f6] := ⟨[.int .i64 x.f0], [.int .i64 x.f1, .int .i64 x.f2, .int .i64 x.f3, .int .i64 x.f4, .int .i64 x.f5, .int .i64 x.f6], rfl, rfl, ⟨[.int .i64 x.f1], [.int .i64 x.f2, .int .i64 x.f3, .int .i64 x.f4, .int .i64 x.f5, .int .i64 x.f6], rfl, rfl, ⟨[.int .i64 x.f2], [.int .i64 x.f3, .int .i64 x.f4, .int .i64 x.f5, .int .i64 x.f6], rfl, rfl, ⟨[.int .i64 x.f3], [.int .i64 x.f4, .int .i64 x.f5, .int .i64 x.f6], rfl, rfl, ⟨[.int .i64 x.f4], [.int .i64 x.f5, .int .i64 x.f6], rfl, rfl, ⟨[.int .i64 x.f5], [.int .i64 x.f6], rfl, rfl, rfl⟩⟩⟩⟩⟩⟩
def rd_T24 (xs : List S24) (i : Int) : S24 := xs.getD i.toNat z24
theorem at_T24 {w : World} {A : Option Addr} {n : Nat} {xs : List S24} (h : Kd.C k24 w A n xs) (i : Int) (h0 : 0 ≤ i) (h1 : i < n) : ∃ ad , A = some ad ∧ w.cell? (ad.add (i.toNat * 7)) = some (.int .i64 (rd_T24 xs i).f0) ∧ w.cell? ⟨(ad.add (i.toNat * 7)).block, (ad.add (i.toNat * 7)).off + 1, none⟩ = some (.int .i64 (rd_T24 xs i).f1) ∧ w.cell? ⟨(ad.add (i.toNat * 7)).block, (ad.add (i.toNat * 7)).off + 2, none⟩ = some (.int .i64 (rd_T24 xs i).f2) ∧ w.cell? ⟨(ad.add (i.toNat * 7)).block, (ad.add (i.toNat * 7)).off + 3, none⟩ = some (.int .i64 (rd_T24 xs i).f3) ∧ w.cell? ⟨(ad.add (i.toNat * 7)).block, (ad.add (i.toNat * 7)).off + 4, none⟩ = some (.int .i64 (rd_T24 xs i).f4) ∧ w.cell? ⟨(ad.add (i.toNat * 7)).block, (ad.add (i.toNat * 7)).off + 5, none⟩ = some (.int .i64 (rd_T24 xs i).f5) ∧ w.cell? ⟨(ad.add (i.toNat * 7)).block, (ad.add (i.toNat * 7)).off + 6, none⟩ = some (.int .i64 (rd_T24 xs i).f6) := by
  obtain ⟨ad, c, e, _, hK, hc0⟩ := Kd.C_get h z24 i h0 h1
  have hc : ∀ j u, c[j]? = some u → w.cell? (ad.add (i.toNat * 7 + j)) = some u := hc0
  obtain rfl := k24_open hK
  exact ⟨ad, e, hc 0 _ rfl, by rw [← add_field _ _ 1 (by omega)]; exact hc 1 _ rfl, by rw [← add_field _ _ 2 (by omega)]; exact hc 2 _ rfl, by rw [← add_field _ _ 3 (by omega)]; exact hc 3 _ rfl, by rw [← add_field _ _ 4 (by omega)]; exact hc 4 _ rfl, by rw [← add_field _ _ 5 (by omega)]; exact hc 5 _ rfl, by rw [← add_field _ _ 6 (by omega)]; exact hc 6 _ rfl⟩

/-! #### struct type 32 -/
structure S32 where
  f0 : Int
  f1 : Int
def z32 : S32 := ⟨(0 : Int), (0 : Int)⟩
def k32 : Kd S32 := Kd.iso (Kd.pair (Kd.int .i64) (Kd.int .i64)) (fun x : S32 => (x.f0, x.f1))
theorem k32_heap : Kd.Heap k32 := Kd.heap_iso _ (Kd.heap_pair (Kd.heap_int .i64) (Kd.heap_int .i64))
theorem k32_open {w : World} {x : S32} {cs : List Value} (h : k32.K w x cs) : cs = [.int .i64 x.f0, .int .i64 x.f1] := by
  obtain ⟨_, _, rfl, rfl, rfl⟩ := h
  exact rfl
theorem k32_openM {w : World} {base : Nat} {ok : Nat → Prop} {x : S32} {cs : List Value} (h : k32.M w base ok x cs) : cs = [.int .i64 x.f0, .int .i64 x.f1] := by
  obtain ⟨_, _, rfl, rfl, rfl⟩ := h
  exact rfl
theorem k32_mk (w : World) (x : S32)  : k32.K w x [.int .i64 x.f0, .int .i64 x.f1] := ⟨[.int .i64 x.f0], [.int .i64 x.f1], rfl, rfl, rfl⟩
theorem k32_mkM (w : World) (base : Nat) (ok : Nat → Prop) (x : S32)  : k32.M w base ok x [.int .i64 x.f0, .int .i64 x.f1] := ⟨[.int .i64 x.f0], [.int .i64 x.f1], rfl, rfl, rfl⟩
def rd_T32 (xs : List S32) (i : Int) : S32 := xs.getD i.toNat z32
theorem at_T32 {w : World} {A : Option Addr} {n : Nat} {xs : List S32} (h : Kd.C k32 w A n xs) (i : Int) (h0 : 0 ≤ i) (h1 : i < n) : ∃ ad , A = some ad ∧ w.cell? (ad.add (i.toNat * 2)) = some (.int .i64 (rd_T32 xs i).f0) ∧ w.cell? ⟨(ad.add (i.toNat * 2)).block, (ad.add (i.toNat * 2)).off + 1, none⟩ = some (.int .i64 (rd_T32 xs i).f1) := by
  obtain ⟨ad, c, e, _, hK, hc0⟩ := Kd.C_get h z32 i h0 h1
  have hc : ∀ j u, c[j]? = some u → w.cell? (ad.add (i.toNat * 2 + j)) = some u := hc0
  obtain rfl := k32_open hK
  exact ⟨ad, e, hc 0 _ rfl, by rw [← add_field _ _ 1 (by omega)]; exact hc 1 _ rfl⟩

/-! #### struct type 38 -/
structure S38 where
  f0 : Int
  f1 : Int
  f2 : Int
  f3 : ByteArray
def z38 : S38 := ⟨(0 : Int), (0 : Int), (0 : Int), (⟨#[]⟩ : ByteArray)⟩
def k38 : Kd S38 := Kd.iso (Kd.pair (Kd.int .i64) (Kd.pair (Kd.int .i64) (Kd.pair (Kd.int .i64) Kd.string))) (fun x : S38 => (x.f0, x.f1, x.f2, x.f3))
theorem k38_heap : Kd.Heap k38 := Kd.heap_iso _ (Kd.heap_pair (Kd.heap_int .i64) (Kd.heap_pair (Kd.heap_int .i64) (Kd.heap_pair (Kd.heap_int .i64) Kd.heap_string)))
theorem k38_open {w : World} {x : S38} {cs : List Value} (h : k38.K w x cs) : cs = [.int .i64 x.f0, .int .i64 x.f1, .int .i64 x.f2, .string x.f3] := by
  obtain ⟨_, _, rfl, rfl, ⟨_, _, rfl, rfl, ⟨_, _, rfl, rfl, rfl⟩⟩⟩ := h
  exact rfl
theorem k38_openM {w : World} {base : Nat} {ok : Nat → Prop} {x : S38} {cs : List Value} (h : k38.M w base ok x cs) : cs = [.int .i64 x.f0, .int .i64 x.f1, .int .i64 x.f2, .string x.f3] := by
  obtain ⟨_, _, rfl, rfl, ⟨_, _, rfl, rfl, ⟨_, _, rfl, rfl, rfl⟩⟩⟩ := h
  exact rfl
theorem k38_mk (w : World) (x : S38)  : k38.K w x [.int .i64 x.f0, .int .i64 x.f1, .int .i64 x.f2, .string x.f3] := ⟨[.int .i64 x.f0], [.int .i64 x.f1, .int .i64 x.f2, .string x.f3], rfl, rfl, ⟨[.int .i64 x.f1], [.int .i64 x.f2, .string x.f3], rfl, rfl, ⟨[.int .i64 x.f2], [.string x.f3], rfl, rfl, rfl⟩⟩⟩
theorem k38_mkM (w : World) (base : Nat) (ok : Nat → Prop) (x : S38)  : k38.M w base ok x [.int .i64 x.f0, .int .i64 x.f1, .int .i64 x.f2, .string x.f3] := ⟨[.int .i64 x.f0], [.int .i64 x.f1, .int .i64 x.f2, .string x.f3], rfl, rfl, ⟨[.int .i64 x.f1], [.int .i64 x.f2, .string x.f3], rfl, rfl, ⟨[.int .i64 x.f2], [.string x.f3], rfl, rfl, rfl⟩⟩⟩
def rd_T38 (xs : List S38) (i : Int) : S38 := xs.getD i.toNat z38
theorem at_T38 {w : World} {A : Option Addr} {n : Nat} {xs : List S38} (h : Kd.C k38 w A n xs) (i : Int) (h0 : 0 ≤ i) (h1 : i < n) : ∃ ad , A = some ad ∧ w.cell? (ad.add (i.toNat * 4)) = some (.int .i64 (rd_T38 xs i).f0) ∧ w.cell? ⟨(ad.add (i.toNat * 4)).block, (ad.add (i.toNat * 4)).off + 1, none⟩ = some (.int .i64 (rd_T38 xs i).f1) ∧ w.cell? ⟨(ad.add (i.toNat * 4)).block, (ad.add (i.toNat * 4)).off + 2, none⟩ = some (.int .i64 (rd_T38 xs i).f2) ∧ w.cell? ⟨(ad.add (i.toNat * 4)).block, (ad.add (i.toNat * 4)).off + 3, none⟩ = some (.string (rd_T38 xs i).f3) := by
  obtain ⟨ad, c, e, _, hK, hc0⟩ := Kd.C_get h z38 i h0 h1
  have hc : ∀ j u, c[j]? = some u → w.cell? (ad.add (i.toNat * 4 + j)) = some u := hc0
  obtain rfl := k38_open hK
  exact ⟨ad, e, hc 0 _ rfl, by rw [← add_field _ _ 1 (by omega)]; exact hc 1 _ rfl, by rw [← add_field _ _ 2 (by omega)]; exact hc 2 _ rfl, by rw [← add_field _ _ 3 (by omega)]; exact hc 3 _ rfl⟩

def rd_L6 (xs : List (List Int)) (i : Int) : (List Int) := xs.getD i.toNat ([] : List Int)
theorem at_L6 {w : World} {A : Option Addr} {n : Nat} {xs : List (List Int)} (h : Kd.C (Kd.slice 5 (Kd.int .u8)) w A n xs) (i : Int) (h0 : 0 ≤ i) (h1 : i < n) : ∃ ad A0 c0, A = some ad ∧ w.cell? (ad.add i.toNat) = some (.slice A0 (rd_L6 xs i).length c0) ∧ (rd_L6 xs i).length ≤ c0 ∧ (Kd.int .u8).C w A0 (rd_L6 xs i).length (rd_L6 xs i) := by
  obtain ⟨ad, c, e, _, hK, hc0⟩ := Kd.C_get h ([] : List Int) i h0 h1
  have hc : ∀ j u, c[j]? = some u → w.cell? (ad.add (i.toNat * 1 + j)) = some u := hc0
  obtain ⟨A0, c0, rfl, l0, g0⟩ := hK
  exact ⟨ad, A0, c0, e, by have hq := hc 0 _ rfl; rwa [Nat.mul_one, Nat.add_zero] at hq, l0, g0⟩

end Go.Proofs.Ytnkaccacippbfaa.Q

/- Contracts of Go functions of this seat, written by a program: where F.f of the arguments is some r, the call returns r. Conditions: those in each statement. -/
namespace Go.Proofs.Ytnkaccacippbfaa.Q
open Go.RowKit Go.Proofs.YtnkaccacippbfaaW.PrintWords Go.Proofs.YtnkaccacippbfaaW.PrintLast Go.Proofs.YtnkaccacippbfaaW.PrintMore
attribute [local go_sem] max2_int min2_int max_two min_two max_three min_three max_four min_four   -- for this text's walks alone
set_option linter.unusedVariables false
set_option linter.unusedSimpArgs false

/-! ### spec_l1In: function 44 -/
def spec_l1In.f (a0 : Int) (a1 : Int) (a2 : Int) : Option (Bool) := if a0 ≥ a1 then (some (decide (a0 ≤ a2))) else (some false)
set_option maxHeartbeats 8000000 in
set_option maxRecDepth 100000 in
theorem spec_l1In.calls (a0 : Int) (a1 : Int) (a2 : Int) (r : Bool) (w : World) (h : spec_l1In.f a0 a1 a2 = some r) :
    Calls Try.prog 44 #[.int .i64 a0, .int .i64 a1, .int .i64 a2] w fun e w' => e = .returned (.bool r) ∧ Drawn0 w w' := by
  have H : (if a0 ≥ a1 then (some (decide (a0 ≤ a2))) else (some false)) = some r := h
  clear h
  by_cases c4 : a0 ≥ a1
  · rw [if_pos c4] at H
    have c4b0 : decide (a1 ≤ a0) = true := decide_eq_true c4
    clear c4
    obtain rfl := Option.some.inj H
    go_enter Try.func44, Try.ntmps44
    go_wp2
    go_ret
    exact ⟨by first | rfl | (simp; done) | (simp [*]; done), by repeat (first | exact Drawn0.refl _ | apply Drawn0.step)⟩
  · rw [if_neg c4] at H
    have c4b0 : decide (a1 ≤ a0) = false := decide_eq_false c4
    clear c4
    obtain rfl := Option.some.inj H
    go_enter Try.func44, Try.ntmps44
    go_wp2
    go_ret
    exact ⟨by first | rfl | (simp; done) | (simp [*]; done), by repeat (first | exact Drawn0.refl _ | apply Drawn0.step)⟩

end Go.Proofs.Ytnkaccacippbfaa.Q

/- Contracts of Go functions of this seat, written by a program: where F.f of the arguments is some r, the call returns r. Conditions: those in each statement. -/
namespace Go.Proofs.Ytnkaccacippbfaa.Q
open Go.RowKit Go.Proofs.YtnkaccacippbfaaW.PrintWords Go.Proofs.YtnkaccacippbfaaW.PrintLast Go.Proofs.YtnkaccacippbfaaW.PrintMore
attribute [local go_sem] max2_int min2_int max_two min_two max_three min_three max_four min_four   -- for this text's walks alone
set_option linter.unusedVariables false
set_option linter.unusedSimpArgs false

/-! ### spec_l8Num: function 52 -/
def spec_l8Num.l0 : Nat → ByteArray → Int → Int → Option (Int)
  | 0, _, _, _ => none
  | k + 1, x0, x3, x4 => if x4 < (x0.size : Int) then (if 0 ≤ x4 then (spec_l8Num.l0 k x0 (wrap64 ((wrap64 (x3 * 256)) + (wrap64 (bt x0 x4)))) (wrap64 (x4 + 1))) else (none)) else (some x3)
def spec_l8Num.f (k : Nat) (a0 : ByteArray) : Option (Int) := spec_l8Num.l0 k a0 0 0
theorem spec_l8Num.mono_l : ∀ k, (∀ y0 y1 y2, LeO (spec_l8Num.l0 k y0 y1 y2) (spec_l8Num.l0 (k + 1) y0 y1 y2))
  | 0 => fun _ _ _ r h => by simp [spec_l8Num.l0] at h
  | k + 1 => by
    have ih0 := spec_l8Num.mono_l k
    · intro y0 y1 y2
      unfold spec_l8Num.l0
      repeat' first
      | (with_reducible exact ih0 _ _ _)
      | (with_reducible exact LeO.refl _)
      | (with_reducible exact LeO.none _)
      | (with_reducible refine LeO.ite ?_ ?_)
      | (with_reducible refine LeO.bind ?_ (fun _ => ?_))
      | exact ih0 _ _ _
      | exact LeO.none _
      | refine LeO.ite ?_ ?_
      | refine LeO.bind ?_ (fun _ => ?_)
theorem spec_l8Num.mono : ∀ a0 k, LeO (spec_l8Num.f k a0) (spec_l8Num.f (k + 1) a0) := by
  intro a0 k
  have ih0 := spec_l8Num.mono_l k
  unfold spec_l8Num.f
  repeat' first
      | (with_reducible exact ih0 _ _ _)
      | (with_reducible exact LeO.refl _)
      | (with_reducible exact LeO.none _)
      | (with_reducible refine LeO.ite ?_ ?_)
      | (with_reducible refine LeO.bind ?_ (fun _ => ?_))
      | exact ih0 _ _ _
      | exact LeO.none _
      | refine LeO.ite ?_ ?_
      | refine LeO.bind ?_ (fun _ => ?_)
set_option maxHeartbeats 8000000 in
set_option maxRecDepth 100000 in
theorem spec_l8Num.calls (k : Nat) (a0 : ByteArray) (r : Int) (w : World) (h : spec_l8Num.f k a0 = some r) :
    Calls Try.prog 52 #[.string a0] w fun e w' => e = .returned (.int .i64 r) ∧ Drawn0 w w' := by
  have H : (spec_l8Num.l0 k a0 0 0) = some r := h
  clear h
  have H' := Aside0.mk H
  clear H
  go_enter Try.func52, Try.ntmps52
  go_wp2
  go_loopg [3, 4] k (fun kq v3 v4 w' => ∃ (x3_1 : Int) (x4_1 : Int), v3 = .int .i64 x3_1 ∧ v4 = .int .i64 x4_1 ∧ Aside0 (spec_l8Num.l0 kq a0 x3_1 x4_1 = some r) ∧ Aside0 (kq ≤ k) ∧ Drawn0 w w')
  case atStart => exact ⟨(0), (0), (by first | rfl | (simp; done) | (simp [*]; done)), (by first | rfl | (simp; done) | (simp [*]; done)), H', ⟨Nat.le_refl _⟩, by repeat (first | exact Drawn0.refl _ | apply Drawn0.step)⟩
  case round =>
    clear H'
    obtain ⟨x3_1, x4_1, rfl, rfl, HA, HK1, ⟨m1, rfl⟩⟩ := hrel
    cases gk with
    | zero => exact absurd HA.out (by simp [spec_l8Num.l0])
    | succ k1 =>
      have H := HA.out
      clear HA
      simp only [spec_l8Num.l0] at H
      by_cases c2 : x4_1 < (a0.size : Int)
      · rw [if_pos c2] at H
        have c2b0 : decide (x4_1 < (a0.size : Int)) = true := decide_eq_true c2
        clear c2
        by_cases c3 : 0 ≤ x4_1
        · rw [if_pos c3] at H
          have c3b0 : decide (0 ≤ x4_1) = true := decide_eq_true c3
          clear c3
          have H' := Aside0.mk H
          clear H
          have p4 : 0 ≤ (x4_1 : Int) := of_decide_eq_true (by first | (with_reducible assumption) | assumption)
          have q4 : x4_1 < (a0.size : Int) := of_decide_eq_true (by first | (with_reducible assumption) | assumption)
          have hx4 := bt_at a0 x4_1
          replace p4 := eq_true p4
          replace q4 := eq_true q4
          go_wp2
          go_roundg k1
          case measure => have := HK1.out; omega
          case rel => exact ⟨(wrap64 ((wrap64 (x3_1 * 256)) + (wrap64 (bt a0 x4_1)))), (wrap64 (x4_1 + 1)), (by first | rfl | (simp; done) | (simp [*]; done)), (by first | rfl | (simp; done) | (simp [*]; done)), H', ⟨by have := HK1.out; omega⟩, by repeat (first | exact Drawn0.refl _ | apply Drawn0.step)⟩
        · rw [if_neg c3] at H
          exact absurd H (by simp)
      · rw [if_neg c2] at H
        have c2b0 : decide (x4_1 < (a0.size : Int)) = false := decide_eq_false c2
        clear c2
        obtain rfl := Option.some.inj H
        go_wp2
        go_ret
        exact ⟨by first | rfl | (simp; done) | (simp [*]; done), by repeat (first | exact Drawn0.refl _ | apply Drawn0.step)⟩

end Go.Proofs.Ytnkaccacippbfaa.Q

/- Contracts of Go functions of this seat, written by a program: where F.f of the arguments is some r, the call returns r. Conditions: those in each statement. -/
namespace Go.Proofs.Ytnkaccacippbfaa.Q
open Go.RowKit Go.Proofs.YtnkaccacippbfaaW.PrintWords Go.Proofs.YtnkaccacippbfaaW.PrintLast Go.Proofs.YtnkaccacippbfaaW.PrintMore
attribute [local go_sem] max2_int min2_int max_two min_two max_three min_three max_four min_four   -- for this text's walks alone
set_option linter.unusedVariables false
set_option linter.unusedSimpArgs false

/-! ### spec_FrameHead: function 27 -/
def spec_FrameHead.j0 : Nat → ByteArray → Bool → Option (Int × Int × Bool)
  | 0, _, _ => none
  | k + 1, x0, x16 => if x16 = true then (some (0, 0, false)) else (if 0 ≤ 4 then (if 4 ≤ (x0.size : Int) then ((spec_l8Num.f k (x0.extract 0 4)).bind fun t102 => (if 4 ≤ 8 then (if 8 ≤ (x0.size : Int) then ((spec_l8Num.f k (x0.extract 4 8)).bind fun t103 => ((spec_l1In.f t102 1 999).bind fun t104 => (if t104 = true then ((spec_l1In.f t103 1 1000000).bind fun t105 => (if t105 = true then (some (t102, t103, true)) else (some (0, 0, false)))) else (some (0, 0, false))))) else (none)) else (none))) else (none)) else (none))
def spec_FrameHead.f (k : Nat) (a0 : ByteArray) : Option (Int × Int × Bool) := (spec_l1In.f (a0.size : Int) 56 140).bind fun t101 => (if t101 = true then (spec_FrameHead.j0 k a0 (((a0.size : Int) % 16) != 8)) else (spec_FrameHead.j0 k a0 true))
theorem spec_FrameHead.mono_l : ∀ k, (∀ y0 y1, LeO (spec_FrameHead.j0 k y0 y1) (spec_FrameHead.j0 (k + 1) y0 y1))
  | 0 => fun _ _ r h => by simp [spec_FrameHead.j0] at h
  | k + 1 => by
    have ih0 := spec_FrameHead.mono_l k
    · intro y0 y1
      unfold spec_FrameHead.j0
      repeat' first
      | (with_reducible exact ih0 _ _)
      | (with_reducible exact spec_l8Num.mono _ _)
      | (with_reducible exact LeO.refl _)
      | (with_reducible exact LeO.none _)
      | (with_reducible refine LeO.ite ?_ ?_)
      | (with_reducible refine LeO.bind ?_ (fun _ => ?_))
      | exact ih0 _ _
      | exact spec_l8Num.mono _ _
      | exact LeO.none _
      | refine LeO.ite ?_ ?_
      | refine LeO.bind ?_ (fun _ => ?_)
theorem spec_FrameHead.mono : ∀ a0 k, LeO (spec_FrameHead.f k a0) (spec_FrameHead.f (k + 1) a0) := by
  intro a0 k
  have ih0 := spec_FrameHead.mono_l k
  unfold spec_FrameHead.f
  repeat' first
      | (with_reducible exact ih0 _ _)
      | (with_reducible exact spec_l8Num.mono _ _)
      | (with_reducible exact LeO.refl _)
      | (with_reducible exact LeO.none _)
      | (with_reducible refine LeO.ite ?_ ?_)
      | (with_reducible refine LeO.bind ?_ (fun _ => ?_))
      | exact ih0 _ _
      | exact spec_l8Num.mono _ _
      | exact LeO.none _
      | refine LeO.ite ?_ ?_
      | refine LeO.bind ?_ (fun _ => ?_)
set_option maxHeartbeats 8000000 in
set_option maxRecDepth 100000 in
theorem spec_FrameHead.calls (k : Nat) (a0 : ByteArray) (r1 : Int) (r2 : Int) (r3 : Bool) (w : World) (h : spec_FrameHead.f k a0 = some (r1, r2, r3)) :
    Calls Try.prog 27 #[.string a0] w fun e w' => e = .returned (.tuple #[.int .i64 r1, .int .i64 r2, .bool r3]) ∧ Drawn0 w w' := by
  have H : ((spec_l1In.f (a0.size : Int) 56 140).bind fun t101 => (if t101 = true then (spec_FrameHead.j0 k a0 (((a0.size : Int) % 16) != 8)) else (spec_FrameHead.j0 k a0 true))) = some (r1, r2, r3) := h
  clear h
  have HC2 := Aside0.mk H
  clear H
  go_enter Try.func27, Try.ntmps27
  go_upto_region 1 with (fail)
  go_cut [16] (fun v16 wc => ∃ (kq : Nat) (x16_1 : Bool), v16 = .bool x16_1 ∧ Aside0 (spec_FrameHead.j0 kq a0 x16_1 = some (r1, r2, r3)) ∧ Aside0 (kq ≤ k) ∧ Drawn0 w wc)
  case first =>
    have H := HC2.out
    clear HC2
    replace H := Option.bind_eq_some_iff.mp H
    obtain ⟨t101, A30, H⟩ := H
    replace H : (if t101 = true then (spec_FrameHead.j0 k a0 (((a0.size : Int) % 16) != 8)) else (spec_FrameHead.j0 k a0 true)) = some (r1, r2, r3) := H
    have A3 := Aside0.mk A30
    clear A30
    by_cases c4 : t101 = true
    · subst c4
      have H1 : (spec_FrameHead.j0 k a0 (((a0.size : Int) % 16) != 8)) = some (r1, r2, r3) := by rw [if_pos rfl] at H; exact H
      clear H
      have H := H1
      clear H1
      have H' := Aside0.mk H
      clear H
      go_wp2_with (first | ((with_reducible refine gate_callee (f := 44) rfl ?_); refine goesL_ (some 9) rfl rfl Try.func44 (by kernel_rfl) rfl #[.int .i64 (a0.size : Int), .int .i64 56, .int .i64 140] rfl (by (try simp only [List.map_toArray, List.map_cons, List.map_nil]); first | done | rfl | (simp only [List.length_drop, List.length_take]; rfl)) ?_; (with_reducible refine (spec_l1In.calls (a0.size : Int) 56 140 true _ A3.out).mono ?_); rintro e w' ⟨rfl, ⟨nd, rfl⟩⟩; refine ⟨_, rfl, ?_⟩))
      go_meet
      case rel => exact ⟨_, ((((a0.size : Int) % 16) != 8)), (by first | rfl | (simp; done) | (simp [*]; done)), H', ⟨by first | omega | exact Nat.le_refl _⟩, by repeat (first | exact Drawn0.refl _ | apply Drawn0.step)⟩
    · replace c4 := Bool.eq_false_iff.mpr c4
      subst c4
      have H1 : (spec_FrameHead.j0 k a0 true) = some (r1, r2, r3) := by rw [if_neg (show ¬ (false = true) by decide)] at H; exact H
      clear H
      have H := H1
      clear H1
      have H' := Aside0.mk H
      clear H
      go_wp2_with (first | ((with_reducible refine gate_callee (f := 44) rfl ?_); refine goesL_ (some 9) rfl rfl Try.func44 (by kernel_rfl) rfl #[.int .i64 (a0.size : Int), .int .i64 56, .int .i64 140] rfl (by (try simp only [List.map_toArray, List.map_cons, List.map_nil]); first | done | rfl | (simp only [List.length_drop, List.length_take]; rfl)) ?_; (with_reducible refine (spec_l1In.calls (a0.size : Int) 56 140 false _ A3.out).mono ?_); rintro e w' ⟨rfl, ⟨nd, rfl⟩⟩; refine ⟨_, rfl, ?_⟩))
      go_meet
      case rel => exact ⟨_, (true), (by first | rfl | (simp; done) | (simp [*]; done)), H', ⟨by first | omega | exact Nat.le_refl _⟩, by repeat (first | exact Drawn0.refl _ | apply Drawn0.step)⟩
  case rest =>
    clear HC2
    try clear c2
    try clear p2
    try clear c4
    obtain ⟨kq, x16_1, rfl, HA, HJ1, ⟨mc1, rfl⟩⟩ := hcut
    cases kq with
    | zero => exact absurd HA.out (by simp [spec_FrameHead.j0])
    | succ kj1 =>
      have H := HA.out
      clear HA
      simp only [spec_FrameHead.j0] at H
      by_cases c5 : x16_1 = true
      · subst c5
        have H1 : (some (0, 0, false)) = some (r1, r2, r3) := by rw [if_pos rfl] at H; exact H
        clear H
        have H := H1
        clear H1
        simp only [Option.some.injEq, Prod.mk.injEq] at H
        obtain ⟨rfl, rfl, rfl⟩ := H
        go_wp2
        go_ret3
        exact ⟨by first | rfl | (simp; done) | (simp [*]; done), by repeat (first | exact Drawn0.refl _ | apply Drawn0.step)⟩
      · replace c5 := Bool.eq_false_iff.mpr c5
        subst c5
        have H1 : (if 0 ≤ 4 then (if 4 ≤ (a0.size : Int) then ((spec_l8Num.f kj1 (a0.extract 0 4)).bind fun t102 => (if 4 ≤ 8 then (if 8 ≤ (a0.size : Int) then ((spec_l8Num.f kj1 (a0.extract 4 8)).bind fun t103 => ((spec_l1In.f t102 1 999).bind fun t104 => (if t104 = true then ((spec_l1In.f t103 1 1000000).bind fun t105 => (if t105 = true then (some (t102, t103, true)) else (some (0, 0, false)))) else (some (0, 0, false))))) else (none)) else (none))) else (none)) else (none)) = some (r1, r2, r3) := by rw [if_neg (show ¬ (false = true) by decide)] at H; exact H
        clear H
        have H := H1
        clear H1
        by_cases c6 : 0 ≤ 4
        · rw [if_pos c6] at H
          have c6b0 := eq_true c6
          have c6b1 : decide (0 ≤ 4) = true := decide_eq_true c6
          clear c6
          by_cases c7 : 4 ≤ (a0.size : Int)
          · rw [if_pos c7] at H
            have c7b0 := eq_true c7
            have c7b1 : decide (4 ≤ (a0.size : Int)) = true := decide_eq_true c7
            clear c7
            replace H := Option.bind_eq_some_iff.mp H
            obtain ⟨t102, A80, H⟩ := H
            replace H : (if 4 ≤ 8 then (if 8 ≤ (a0.size : Int) then ((spec_l8Num.f kj1 (a0.extract 4 8)).bind fun t103 => ((spec_l1In.f t102 1 999).bind fun t104 => (if t104 = true then ((spec_l1In.f t103 1 1000000).bind fun t105 => (if t105 = true then (some (t102, t103, true)) else (some (0, 0, false)))) else (some (0, 0, false))))) else (none)) else (none)) = some (r1, r2, r3) := H
            have A8 := Aside0.mk A80
            clear A80
            by_cases c9 : 4 ≤ 8
            · rw [if_pos c9] at H
              have c9b0 := eq_true c9
              have c9b1 : decide (4 ≤ 8) = true := decide_eq_true c9
              clear c9
              by_cases c10 : 8 ≤ (a0.size : Int)
              · rw [if_pos c10] at H
                have c10b0 := eq_true c10
                have c10b1 : decide (8 ≤ (a0.size : Int)) = true := decide_eq_true c10
                clear c10
                replace H := Option.bind_eq_some_iff.mp H
                obtain ⟨t103, A110, H⟩ := H
                replace H : ((spec_l1In.f t102 1 999).bind fun t104 => (if t104 = true then ((spec_l1In.f t103 1 1000000).bind fun t105 => (if t105 = true then (some (t102, t103, true)) else (some (0, 0, false)))) else (some (0, 0, false)))) = some (r1, r2, r3) := H
                have A11 := Aside0.mk A110
                clear A110
                replace H := Option.bind_eq_some_iff.mp H
                obtain ⟨t104, A120, H⟩ := H
                replace H : (if t104 = true then ((spec_l1In.f t103 1 1000000).bind fun t105 => (if t105 = true then (some (t102, t103, true)) else (some (0, 0, false)))) else (some (0, 0, false))) = some (r1, r2, r3) := H
                have A12 := Aside0.mk A120
                clear A120
                by_cases c13 : t104 = true
                · subst c13
                  have H1 : ((spec_l1In.f t103 1 1000000).bind fun t105 => (if t105 = true then (some (t102, t103, true)) else (some (0, 0, false)))) = some (r1, r2, r3) := by rw [if_pos rfl] at H; exact H
                  clear H
                  have H := H1
                  clear H1
                  replace H := Option.bind_eq_some_iff.mp H
                  obtain ⟨t105, A140, H⟩ := H
                  replace H : (if t105 = true then (some (t102, t103, true)) else (some (0, 0, false))) = some (r1, r2, r3) := H
                  have A14 := Aside0.mk A140
                  clear A140
                  by_cases c15 : t105 = true
                  · subst c15
                    have H1 : (some (t102, t103, true)) = some (r1, r2, r3) := by rw [if_pos rfl] at H; exact H
                    clear H
                    have H := H1
                    clear H1
                    simp only [Option.some.injEq, Prod.mk.injEq] at H
                    obtain ⟨rfl, rfl, rfl⟩ := H
                    go_wp2_with (first | ((with_reducible refine gate_callee (f := 52) rfl ?_); refine goesL_ (some 19) rfl rfl Try.func52 (by kernel_rfl) rfl #[.string (a0.extract 0 4)] rfl (by (try simp only [List.map_toArray, List.map_cons, List.map_nil]); first | done | rfl | (simp only [List.length_drop, List.length_take]; rfl)) ?_; (with_reducible refine (spec_l8Num.calls kj1 (a0.extract 0 4) t102 _ A8.out).mono ?_); rintro e w' ⟨rfl, ⟨nd, rfl⟩⟩; refine ⟨_, rfl, ?_⟩) | ((with_reducible refine gate_callee (f := 52) rfl ?_); refine goesL_ (some 22) rfl rfl Try.func52 (by kernel_rfl) rfl #[.string (a0.extract 4 8)] rfl (by (try simp only [List.map_toArray, List.map_cons, List.map_nil]); first | done | rfl | (simp only [List.length_drop, List.length_take]; rfl)) ?_; (with_reducible refine (spec_l8Num.calls kj1 (a0.extract 4 8) t103 _ A11.out).mono ?_); rintro e w' ⟨rfl, ⟨nd, rfl⟩⟩; refine ⟨_, rfl, ?_⟩) | ((with_reducible refine gate_callee (f := 44) rfl ?_); refine goesL_ (some 24) rfl rfl Try.func44 (by kernel_rfl) rfl #[.int .i64 t102, .int .i64 1, .int .i64 999] rfl (by (try simp only [List.map_toArray, List.map_cons, List.map_nil]); first | done | rfl | (simp only [List.length_drop, List.length_take]; rfl)) ?_; (with_reducible refine (spec_l1In.calls t102 1 999 true _ A12.out).mono ?_); rintro e w' ⟨rfl, ⟨nd, rfl⟩⟩; refine ⟨_, rfl, ?_⟩) | (go_at_call 44; (with_reducible refine (spec_l1In.calls t103 1 1000000 true _ A14.out).mono ?_); rintro e w' ⟨rfl, ⟨nd, rfl⟩⟩))
                    go_ret3
                    exact ⟨by first | rfl | (simp; done) | (simp [*]; done), by repeat (first | exact Drawn0.refl _ | apply Drawn0.step)⟩
                  · replace c15 := Bool.eq_false_iff.mpr c15
                    subst c15
                    have H1 : (some (0, 0, false)) = some (r1, r2, r3) := by rw [if_neg (show ¬ (false = true) by decide)] at H; exact H
                    clear H
                    have H := H1
                    clear H1
                    simp only [Option.some.injEq, Prod.mk.injEq] at H
                    obtain ⟨rfl, rfl, rfl⟩ := H
                    go_wp2_with (first | ((with_reducible refine gate_callee (f := 52) rfl ?_); refine goesL_ (some 19) rfl rfl Try.func52 (by kernel_rfl) rfl #[.string (a0.extract 0 4)] rfl (by (try simp only [List.map_toArray, List.map_cons, List.map_nil]); first | done | rfl | (simp only [List.length_drop, List.length_take]; rfl)) ?_; (with_reducible refine (spec_l8Num.calls kj1 (a0.extract 0 4) t102 _ A8.out).mono ?_); rintro e w' ⟨rfl, ⟨nd, rfl⟩⟩; refine ⟨_, rfl, ?_⟩) | ((with_reducible refine gate_callee (f := 52) rfl ?_); refine goesL_ (some 22) rfl rfl Try.func52 (by kernel_rfl) rfl #[.string (a0.extract 4 8)] rfl (by (try simp only [List.map_toArray, List.map_cons, List.map_nil]); first | done | rfl | (simp only [List.length_drop, List.length_take]; rfl)) ?_; (with_reducible refine (spec_l8Num.calls kj1 (a0.extract 4 8) t103 _ A11.out).mono ?_); rintro e w' ⟨rfl, ⟨nd, rfl⟩⟩; refine ⟨_, rfl, ?_⟩) | ((with_reducible refine gate_callee (f := 44) rfl ?_); refine goesL_ (some 24) rfl rfl Try.func44 (by kernel_rfl) rfl #[.int .i64 t102, .int .i64 1, .int .i64 999] rfl (by (try simp only [List.map_toArray, List.map_cons, List.map_nil]); first | done | rfl | (simp only [List.length_drop, List.length_take]; rfl)) ?_; (with_reducible refine (spec_l1In.calls t102 1 999 true _ A12.out).mono ?_); rintro e w' ⟨rfl, ⟨nd, rfl⟩⟩; refine ⟨_, rfl, ?_⟩) | (go_at_call 44; (with_reducible refine (spec_l1In.calls t103 1 1000000 false _ A14.out).mono ?_); rintro e w' ⟨rfl, ⟨nd, rfl⟩⟩))
                    go_ret3
                    exact ⟨by first | rfl | (simp; done) | (simp [*]; done), by repeat (first | exact Drawn0.refl _ | apply Drawn0.step)⟩
                · replace c13 := Bool.eq_false_iff.mpr c13
                  subst c13
                  have H1 : (some (0, 0, false)) = some (r1, r2, r3) := by rw [if_neg (show ¬ (false = true) by decide)] at H; exact H
                  clear H
                  have H := H1
                  clear H1
                  simp only [Option.some.injEq, Prod.mk.injEq] at H
                  obtain ⟨rfl, rfl, rfl⟩ := H
                  go_wp2_with (first | ((with_reducible refine gate_callee (f := 52) rfl ?_); refine goesL_ (some 19) rfl rfl Try.func52 (by kernel_rfl) rfl #[.string (a0.extract 0 4)] rfl (by (try simp only [List.map_toArray, List.map_cons, List.map_nil]); first | done | rfl | (simp only [List.length_drop, List.length_take]; rfl)) ?_; (with_reducible refine (spec_l8Num.calls kj1 (a0.extract 0 4) t102 _ A8.out).mono ?_); rintro e w' ⟨rfl, ⟨nd, rfl⟩⟩; refine ⟨_, rfl, ?_⟩) | ((with_reducible refine gate_callee (f := 52) rfl ?_); refine goesL_ (some 22) rfl rfl Try.func52 (by kernel_rfl) rfl #[.string (a0.extract 4 8)] rfl (by (try simp only [List.map_toArray, List.map_cons, List.map_nil]); first | done | rfl | (simp only [List.length_drop, List.length_take]; rfl)) ?_; (with_reducible refine (spec_l8Num.calls kj1 (a0.extract 4 8) t103 _ A11.out).mono ?_); rintro e w' ⟨rfl, ⟨nd, rfl⟩⟩; refine ⟨_, rfl, ?_⟩) | ((with_reducible refine gate_callee (f := 44) rfl ?_); refine goesL_ (some 24) rfl rfl Try.func44 (by kernel_rfl) rfl #[.int .i64 t102, .int .i64 1, .int .i64 999] rfl (by (try simp only [List.map_toArray, List.map_cons, List.map_nil]); first | done | rfl | (simp only [List.length_drop, List.length_take]; rfl)) ?_; (with_reducible refine (spec_l1In.calls t102 1 999 false _ A12.out).mono ?_); rintro e w' ⟨rfl, ⟨nd, rfl⟩⟩; refine ⟨_, rfl, ?_⟩))
                  go_ret3
                  exact ⟨by first | rfl | (simp; done) | (simp [*]; done), by repeat (first | exact Drawn0.refl _ | apply Drawn0.step)⟩
              · rw [if_neg c10] at H
                exact absurd H (by simp)
            · rw [if_neg c9] at H
              exact absurd H (by simp)
          · rw [if_neg c7] at H
            exact absurd H (by simp)
        · rw [if_neg c6] at H
          exact absurd H (by simp)

end Go.Proofs.Ytnkaccacippbfaa.Q

/- Contracts of Go functions of this seat, written by a program: where F.f of the arguments is some r, the call returns r. Conditions: those in each statement. -/
namespace Go.Proofs.Ytnkaccacippbfaa.Q
open Go.RowKit Go.Proofs.YtnkaccacippbfaaW.PrintWords Go.Proofs.YtnkaccacippbfaaW.PrintLast Go.Proofs.YtnkaccacippbfaaW.PrintMore
attribute [local go_sem] max2_int min2_int max_two min_two max_three min_three max_four min_four   -- for this text's walks alone
set_option linter.unusedVariables false
set_option linter.unusedSimpArgs false

/-! ### impl_in: function 47 -/
def impl_in.f (a0 : Int) (a1 : Int) (a2 : Int) : Option (Bool) := if a0 ≥ a1 then (some (decide (a0 ≤ a2))) else (some false)
set_option maxHeartbeats 8000000 in
set_option maxRecDepth 100000 in
theorem impl_in.calls (a0 : Int) (a1 : Int) (a2 : Int) (r : Bool) (w : World) (h : impl_in.f a0 a1 a2 = some r) :
    Calls Try.prog 47 #[.int .i64 a0, .int .i64 a1, .int .i64 a2] w fun e w' => e = .returned (.bool r) ∧ Drawn0 w w' := by
  have H : (if a0 ≥ a1 then (some (decide (a0 ≤ a2))) else (some false)) = some r := h
  clear h
  by_cases c4 : a0 ≥ a1
  · rw [if_pos c4] at H
    have c4b0 : decide (a1 ≤ a0) = true := decide_eq_true c4
    clear c4
    obtain rfl := Option.some.inj H
    go_enter Try.func47, Try.ntmps47
    go_wp2
    go_ret
    exact ⟨by first | rfl | (simp; done) | (simp [*]; done), by repeat (first | exact Drawn0.refl _ | apply Drawn0.step)⟩
  · rw [if_neg c4] at H
    have c4b0 : decide (a1 ≤ a0) = false := decide_eq_false c4
    clear c4
    obtain rfl := Option.some.inj H
    go_enter Try.func47, Try.ntmps47
    go_wp2
    go_ret
    exact ⟨by first | rfl | (simp; done) | (simp [*]; done), by repeat (first | exact Drawn0.refl _ | apply Drawn0.step)⟩

end Go.Proofs.Ytnkaccacippbfaa.Q

/- Contracts of Go functions of this seat, written by a program: where F.f of the arguments is some r, the call returns r. Conditions: those in each statement. -/
namespace Go.Proofs.Ytnkaccacippbfaa.Q
open Go.RowKit Go.Proofs.YtnkaccacippbfaaW.PrintWords Go.Proofs.YtnkaccacippbfaaW.PrintLast Go.Proofs.YtnkaccacippbfaaW.PrintMore
attribute [local go_sem] max2_int min2_int max_two min_two max_three min_three max_four min_four   -- for this text's walks alone
set_option linter.unusedVariables false
set_option linter.unusedSimpArgs false

/-! ### impl_numberOf: function 53 -/
/-- What is read out of some bytes, most significant first, by the program's own steps. -/
def impl_numberOf.g (l : List UInt8) : Int := l.foldl (fun n b => Go.bits .or .i64 (wrap64 (n * 256)) (b.toNat : Int)) 0
def impl_numberOf.f (a0 : ByteArray) : Option Int := if a0.size ≤ 1000000 then some (impl_numberOf.g a0.data.toList) else none
theorem impl_numberOf.ret_int {k : IntKind} {a b : Int} (h : a = b) : Ending.returned (.int k a) = .returned (.int k b) := by rw [h]
theorem impl_numberOf.g_snoc (l : List UInt8) (b : UInt8) : impl_numberOf.g (l ++ [b]) = Go.bits .or .i64 (wrap64 (impl_numberOf.g l * 256)) (b.toNat : Int) := by
  unfold impl_numberOf.g
  rw [List.foldl_append]
  rfl
theorem impl_numberOf.take_snoc (s : ByteArray) (k : Nat) (h : k < s.size) : s.data.toList.take (k + 1) = s.data.toList.take k ++ [s.data.toList.getD k 0] := by
  have h' : k < s.data.toList.length := by simpa using h
  rw [List.take_succ_eq_append_getElem h', List.getD_eq_getElem?_getD, List.getElem?_eq_getElem h']
  rfl
theorem impl_numberOf.last (s : ByteArray) (k : Nat) (h : k < s.size) : wrap64 (((s.data[k]'h).toNat : Nat) : Int) = ((s.data.toList.getD k 0).toNat : Int) := by
  have h' : k < s.data.toList.length := by simpa using h
  have e : s.data.toList.getD k 0 = s.data[k]'h := by
    rw [List.getD_eq_getElem?_getD, List.getElem?_eq_getElem h']
    simp
  rw [e]
  have := (s.data[k]'h).toNat_lt
  unfold wrap64
  omega
theorem impl_numberOf.below_bytes (w : World) (e : TypeId) (s : ByteArray) : Below w.heap.size w (Lib.bytesWorld w e s) := by
  have h : Below w.heap.size w (w.drew.alloc (.cells (Lib.bytesCells w e s) e)) := below_alloc (below_drew (Below.refl w.heap.size w)) _
  refine ⟨h.os, h.tape, h.output, ?_, fun i hi => Lib.bytesWorld_at_old w e s i hi⟩
  rw [Lib.bytesWorld_size]
  omega
set_option maxHeartbeats 800000 in
set_option maxRecDepth 100000 in
theorem impl_numberOf.calls (a0 : ByteArray) (r : Int) (w : World) (h : impl_numberOf.f a0 = some r) :
    Calls Try.prog 53 #[.string a0] w fun e w' => e = .returned (.int .i64 r) ∧ Below w.heap.size w w' := by
  unfold impl_numberOf.f at h
  have hs : a0.size ≤ 1000000 := by
    by_cases h' : a0.size ≤ 1000000
    · exact h'
    · rw [if_neg h'] at h
      exact absurd h (by simp)
  rw [if_pos hs] at h
  obtain rfl := Option.some.inj h
  clear h
  have hcell := Lib.bytesWorld_cell w 5 a0
  have hbel := impl_numberOf.below_bytes w 5 a0
  have hconv := Lib.run_convert_string_bytes (P := Try.prog) w 9 53 5 a0 Try.underlying9 Try.underlying53 Try.underlying5
  obtain ⟨W, hW⟩ : ∃ W, W = Lib.bytesWorld w 5 a0 := ⟨_, rfl⟩
  obtain ⟨cap, hcap⟩ : ∃ c, c = grownCap w a0.size 0 5 := ⟨_, rfl⟩
  rw [← hW] at hcell hbel hconv
  rw [← hcap] at hconv
  clear hW hcap
  have HB := Aside0.mk hbel
  clear hbel
  go_enter Try.func53, Try.ntmps53
  go_wp2
  clear hconv
  go_loop [3, 9] (fun n i => ∃ k : Nat, k ≤ a0.size ∧ i = .int .i64 k ∧ n = .int .i64 (impl_numberOf.g (a0.data.toList.take k))) (fun _ i => a0.size - (intOf i).toNat)
  case atStart => exact ⟨0, Nat.zero_le _, rfl, rfl⟩
  case round =>
    obtain ⟨k, hk, rfl, rfl⟩ := hrel
    by_cases hlt : k < a0.size
    · have hc := hcell k hlt
      have hsn := impl_numberOf.g_snoc (a0.data.toList.take k) (a0.data.toList.getD k 0)
      rw [← impl_numberOf.take_snoc a0 k hlt] at hsn
      have HS := Aside0.mk hsn
      clear hsn hcell
      go_wp2
      go_round
      case rel => exact ⟨k + 1, by omega, by go_num, by rw [HS.out, ← impl_numberOf.last a0 k hlt]⟩
      case measure => simp [intOf]; omega
    · have hd : decide (k < a0.size) = false := by simpa using hlt
      clear hcell
      go_wp2
      go_ret
      have e : a0.data.toList.take k = a0.data.toList := List.take_of_length_le (by simp; omega)
      exact ⟨impl_numberOf.ret_int (by rw [e]), HB.out⟩


end Go.Proofs.Ytnkaccacippbfaa.Q

/- Contracts of Go functions of this seat, written by a program: where F.f of the arguments is some r, the call returns r. Conditions: those in each statement. -/
namespace Go.Proofs.Ytnkaccacippbfaa.Q
open Go.RowKit Go.Proofs.YtnkaccacippbfaaW.PrintWords Go.Proofs.YtnkaccacippbfaaW.PrintLast Go.Proofs.YtnkaccacippbfaaW.PrintMore
attribute [local go_sem] max2_int min2_int max_two min_two max_three min_three max_four min_four   -- for this text's walks alone
set_option linter.unusedVariables false
set_option linter.unusedSimpArgs false

/-! ### impl_FrameHead: function 28 -/
def impl_FrameHead.j0 : Nat → ByteArray → Bool → Option (Int × Int × Bool)
  | 0, _, _ => none
  | k + 1, x0, x16 => if x16 = true then (some (0, 0, false)) else (if 0 ≤ 4 then (if 4 ≤ (x0.size : Int) then ((impl_numberOf.f (x0.extract 0 4)).bind fun t102 => (if 4 ≤ 8 then (if 8 ≤ (x0.size : Int) then ((impl_numberOf.f (x0.extract 4 8)).bind fun t103 => ((impl_in.f t102 1 999).bind fun t104 => (if t104 = true then ((impl_in.f t103 1 1000000).bind fun t105 => (if t105 = true then (some (t102, t103, true)) else (some (0, 0, false)))) else (some (0, 0, false))))) else (none)) else (none))) else (none)) else (none))
def impl_FrameHead.f (k : Nat) (a0 : ByteArray) : Option (Int × Int × Bool) := (impl_in.f (a0.size : Int) 56 140).bind fun t101 => (if t101 = true then (impl_FrameHead.j0 k a0 (((a0.size : Int) % 16) != 8)) else (impl_FrameHead.j0 k a0 true))
theorem impl_FrameHead.mono_l : ∀ k, (∀ y0 y1, LeO (impl_FrameHead.j0 k y0 y1) (impl_FrameHead.j0 (k + 1) y0 y1))
  | 0 => fun _ _ r h => by simp [impl_FrameHead.j0] at h
  | k + 1 => by
    have ih0 := impl_FrameHead.mono_l k
    · intro y0 y1
      unfold impl_FrameHead.j0
      repeat' first
      | (with_reducible exact ih0 _ _)
      | (with_reducible exact LeO.refl _)
      | (with_reducible exact LeO.none _)
      | (with_reducible refine LeO.ite ?_ ?_)
      | (with_reducible refine LeO.bind ?_ (fun _ => ?_))
      | exact ih0 _ _
      | exact LeO.none _
      | refine LeO.ite ?_ ?_
      | refine LeO.bind ?_ (fun _ => ?_)
theorem impl_FrameHead.mono : ∀ a0 k, LeO (impl_FrameHead.f k a0) (impl_FrameHead.f (k + 1) a0) := by
  intro a0 k
  have ih0 := impl_FrameHead.mono_l k
  unfold impl_FrameHead.f
  repeat' first
      | (with_reducible exact ih0 _ _)
      | (with_reducible exact LeO.refl _)
      | (with_reducible exact LeO.none _)
      | (with_reducible refine LeO.ite ?_ ?_)
      | (with_reducible refine LeO.bind ?_ (fun _ => ?_))
      | exact ih0 _ _
      | exact LeO.none _
      | refine LeO.ite ?_ ?_
      | refine LeO.bind ?_ (fun _ => ?_)
def impl_FrameHead.T3 : Bool × List (List Nat × List Nat) := (true, [([], []), ([0], [0]), ([1], [1]), ([], []), ([3], [3]), ([4, 2], [4]), ([2, 5, 0, 1, 2], [2]), ([5, 6, 0, 1, 2, 3, 4, 5, 6], [5])])
def impl_FrameHead.B3 : List Nat := [0, 1, 3, 0, 8, 31, 63, 127]
theorem impl_FrameHead.tab3 : rtab .any (opsOf Try.f28 3) = impl_FrameHead.T3 := by kernel_rfl
theorem impl_FrameHead.bits3 : waitsOk impl_FrameHead.T3.2 impl_FrameHead.B3 = true := by kernel_rfl
set_option maxHeartbeats 8000000 in
set_option maxRecDepth 100000 in
theorem impl_FrameHead.calls (k : Nat) (a0 : ByteArray) (r1 : Int) (r2 : Int) (r3 : Bool) (w : World) (h : impl_FrameHead.f k a0 = some (r1, r2, r3)) :
    Calls Try.prog 28 #[.string a0] w fun e w' => e = .returned (.tuple #[.int .i64 r1, .int .i64 r2, .bool r3]) ∧ Below w.heap.size w w' := by
  have HB := Aside0.mk (Below.refl w.heap.size w)
  have H : ((impl_in.f (a0.size : Int) 56 140).bind fun t101 => (if t101 = true then (impl_FrameHead.j0 k a0 (((a0.size : Int) % 16) != 8)) else (impl_FrameHead.j0 k a0 true))) = some (r1, r2, r3) := h
  clear h
  have HC2 := Aside0.mk H
  clear H
  go_enter Try.func28, Try.ntmps28
  go_upto_region 1 with (fail)
  go_cut [16] (fun v16 wc => ∃ (kq : Nat) (x16_1 : Bool), v16 = .bool x16_1 ∧ Aside0 (impl_FrameHead.j0 kq a0 x16_1 = some (r1, r2, r3)) ∧ Aside0 (kq ≤ k) ∧ Aside0 (Below w.heap.size w wc))
  case first =>
    have H := HC2.out
    clear HC2
    replace H := Option.bind_eq_some_iff.mp H
    obtain ⟨t101, A30, H⟩ := H
    replace H : (if t101 = true then (impl_FrameHead.j0 k a0 (((a0.size : Int) % 16) != 8)) else (impl_FrameHead.j0 k a0 true)) = some (r1, r2, r3) := H
    have A3 := Aside0.mk A30
    clear A30
    by_cases c4 : t101 = true
    · subst c4
      have H1 : (impl_FrameHead.j0 k a0 (((a0.size : Int) % 16) != 8)) = some (r1, r2, r3) := by rw [if_pos rfl] at H; exact H
      clear H
      have H := H1
      clear H1
      have H' := Aside0.mk H
      clear H
      go_wp2_with (first | ((with_reducible refine gate_callee (f := 47) rfl ?_); refine goesL_ (some 9) rfl rfl Try.func47 (by kernel_rfl) rfl #[.int .i64 (a0.size : Int), .int .i64 56, .int .i64 140] rfl (by (try simp only [List.map_toArray, List.map_cons, List.map_nil]); first | done | rfl | (simp only [List.length_drop, List.length_take]; rfl)) ?_; (with_reducible refine (impl_in.calls (a0.size : Int) 56 140 true _ A3.out).mono ?_); rintro e w' ⟨rfl, ⟨nd, rfl⟩⟩; refine ⟨_, rfl, ?_⟩))
      go_meet
      case rel => exact ⟨_, ((((a0.size : Int) % 16) != 8)), (by first | rfl | (simp; done) | (simp [*]; done)), H', ⟨by first | omega | exact Nat.le_refl _⟩, ⟨by repeat (first | (with_reducible first | exact HB.out | apply below_alloc | apply pw_below_drewN | apply below_drew1) | exact HB.out)⟩⟩
    · replace c4 := Bool.eq_false_iff.mpr c4
      subst c4
      have H1 : (impl_FrameHead.j0 k a0 true) = some (r1, r2, r3) := by rw [if_neg (show ¬ (false = true) by decide)] at H; exact H
      clear H
      have H := H1
      clear H1
      have H' := Aside0.mk H
      clear H
      go_wp2_with (first | ((with_reducible refine gate_callee (f := 47) rfl ?_); refine goesL_ (some 9) rfl rfl Try.func47 (by kernel_rfl) rfl #[.int .i64 (a0.size : Int), .int .i64 56, .int .i64 140] rfl (by (try simp only [List.map_toArray, List.map_cons, List.map_nil]); first | done | rfl | (simp only [List.length_drop, List.length_take]; rfl)) ?_; (with_reducible refine (impl_in.calls (a0.size : Int) 56 140 false _ A3.out).mono ?_); rintro e w' ⟨rfl, ⟨nd, rfl⟩⟩; refine ⟨_, rfl, ?_⟩))
      go_meet
      case rel => exact ⟨_, (true), (by first | rfl | (simp; done) | (simp [*]; done)), H', ⟨by first | omega | exact Nat.le_refl _⟩, ⟨by repeat (first | (with_reducible first | exact HB.out | apply below_alloc | apply pw_below_drewN | apply below_drew1) | exact HB.out)⟩⟩
  case rest =>
    clear HC2
    try clear c2
    try clear p2
    try clear c4
    obtain ⟨kq, x16_1, rfl, HA, HJ1, HB⟩ := hcut
    cases kq with
    | zero => exact absurd HA.out (by simp [impl_FrameHead.j0])
    | succ kj1 =>
      have H := HA.out
      clear HA
      simp only [impl_FrameHead.j0] at H
      by_cases c5 : x16_1 = true
      · subst c5
        have H1 : (some (0, 0, false)) = some (r1, r2, r3) := by rw [if_pos rfl] at H; exact H
        clear H
        have H := H1
        clear H1
        simp only [Option.some.injEq, Prod.mk.injEq] at H
        obtain ⟨rfl, rfl, rfl⟩ := H
        go_wp2
        go_ret3
        exact ⟨by first | rfl | (simp [errW_none, errW_some] <;> rfl) | (simp [*, errW_none, errW_some] <;> rfl), by repeat (first | (with_reducible first | exact HB.out | apply below_alloc | apply pw_below_drewN | apply below_drew1) | exact HB.out)⟩
      · replace c5 := Bool.eq_false_iff.mpr c5
        subst c5
        have H1 : (if 0 ≤ 4 then (if 4 ≤ (a0.size : Int) then ((impl_numberOf.f (a0.extract 0 4)).bind fun t102 => (if 4 ≤ 8 then (if 8 ≤ (a0.size : Int) then ((impl_numberOf.f (a0.extract 4 8)).bind fun t103 => ((impl_in.f t102 1 999).bind fun t104 => (if t104 = true then ((impl_in.f t103 1 1000000).bind fun t105 => (if t105 = true then (some (t102, t103, true)) else (some (0, 0, false)))) else (some (0, 0, false))))) else (none)) else (none))) else (none)) else (none)) = some (r1, r2, r3) := by rw [if_neg (show ¬ (false = true) by decide)] at H; exact H
        clear H
        have H := H1
        clear H1
        by_cases c6 : 0 ≤ 4
        · rw [if_pos c6] at H
          have c6b0 := eq_true c6
          have c6b1 : decide (0 ≤ 4) = true := decide_eq_true c6
          clear c6
          by_cases c7 : 4 ≤ (a0.size : Int)
          · rw [if_pos c7] at H
            have c7b0 := eq_true c7
            have c7b1 : decide (4 ≤ (a0.size : Int)) = true := decide_eq_true c7
            clear c7
            replace H := Option.bind_eq_some_iff.mp H
            obtain ⟨t102, A80, H⟩ := H
            replace H : (if 4 ≤ 8 then (if 8 ≤ (a0.size : Int) then ((impl_numberOf.f (a0.extract 4 8)).bind fun t103 => ((impl_in.f t102 1 999).bind fun t104 => (if t104 = true then ((impl_in.f t103 1 1000000).bind fun t105 => (if t105 = true then (some (t102, t103, true)) else (some (0, 0, false)))) else (some (0, 0, false))))) else (none)) else (none)) = some (r1, r2, r3) := H
            have A8 := Aside0.mk A80
            clear A80
            by_cases c9 : 4 ≤ 8
            · rw [if_pos c9] at H
              have c9b0 := eq_true c9
              have c9b1 : decide (4 ≤ 8) = true := decide_eq_true c9
              clear c9
              by_cases c10 : 8 ≤ (a0.size : Int)
              · rw [if_pos c10] at H
                have c10b0 := eq_true c10
                have c10b1 : decide (8 ≤ (a0.size : Int)) = true := decide_eq_true c10
                clear c10
                replace H := Option.bind_eq_some_iff.mp H
                obtain ⟨t103, A110, H⟩ := H
                replace H : ((impl_in.f t102 1 999).bind fun t104 => (if t104 = true then ((impl_in.f t103 1 1000000).bind fun t105 => (if t105 = true then (some (t102, t103, true)) else (some (0, 0, false)))) else (some (0, 0, false)))) = some (r1, r2, r3) := H
                have A11 := Aside0.mk A110
                clear A110
                replace H := Option.bind_eq_some_iff.mp H
                obtain ⟨t104, A120, H⟩ := H
                replace H : (if t104 = true then ((impl_in.f t103 1 1000000).bind fun t105 => (if t105 = true then (some (t102, t103, true)) else (some (0, 0, false)))) else (some (0, 0, false))) = some (r1, r2, r3) := H
                have A12 := Aside0.mk A120
                clear A120
                by_cases c13 : t104 = true
                · subst c13
                  have H1 : ((impl_in.f t103 1 1000000).bind fun t105 => (if t105 = true then (some (t102, t103, true)) else (some (0, 0, false)))) = some (r1, r2, r3) := by rw [if_pos rfl] at H; exact H
                  clear H
                  have H := H1
                  clear H1
                  replace H := Option.bind_eq_some_iff.mp H
                  obtain ⟨t105, A140, H⟩ := H
                  replace H : (if t105 = true then (some (t102, t103, true)) else (some (0, 0, false))) = some (r1, r2, r3) := H
                  have A14 := Aside0.mk A140
                  clear A140
                  by_cases c15 : t105 = true
                  · subst c15
                    have H1 : (some (t102, t103, true)) = some (r1, r2, r3) := by rw [if_pos rfl] at H; exact H
                    clear H
                    have H := H1
                    clear H1
                    simp only [Option.some.injEq, Prod.mk.injEq] at H
                    obtain ⟨rfl, rfl, rfl⟩ := H
                    try go_wp2
                    have n0_ := Aside0.mk (below_drew1 HB.out)
                    clear HB
                    have HB := n0_
                    clear n0_
                    refine start_ (n := 8) (S := fun w' => True) (ds := []) #[false, false, false, false, false, false, false, false] (by kernel_rfl) rfl rfl trivial (fun hHeld => ?_); refine with_tabW impl_FrameHead.tab3 impl_FrameHead.bits3 (fun HT_ HW_ => ?_)
                    generalize wc.drew = w16 at HB hHeld ⊢
                    refine pure_ (i := 0) (N := some 17) (v := ?_) (a' := ?_) #[true, false, false, false, false, false, false, false] rfl rfl (any_of HT_.out (by kernel_rfl)) (fun _ _ _ h => h) (Or.inl ⟨by rfl, ?_⟩) ?_ ?_
                    rotate_left
                    · intro w'
                      go_simp
                      with_reducible rfl
                    rotate_left
                    · simp only [Act.put, List.setIfInBounds_toArray, List.set_cons_zero, List.set_cons_succ, i64_w, i32_w]
                      rfl
                    refine pure_ (i := 1) (N := some 18) (v := ?_) (a' := ?_) #[true, true, false, false, false, false, false, false] rfl rfl (any_of HT_.out (by kernel_rfl)) (fun _ _ _ h => h) (Or.inl ⟨by rfl, ?_⟩) ?_ ?_
                    rotate_left
                    · intro w'
                      go_simp
                      with_reducible rfl
                    rotate_left
                    · simp only [Act.put, List.setIfInBounds_toArray, List.set_cons_zero, List.set_cons_succ, i64_w, i32_w]
                      rfl
                    refine pure_ (i := 3) (N := some 20) (v := ?_) (a' := ?_) #[true, true, false, true, false, false, false, false] rfl rfl (any_of HT_.out (by kernel_rfl)) (fun _ _ _ h => h) (Or.inl ⟨by rfl, ?_⟩) ?_ ?_
                    rotate_left
                    · intro w'
                      go_simp
                      with_reducible rfl
                    rotate_left
                    · simp only [Act.put, List.setIfInBounds_toArray, List.set_cons_zero, List.set_cons_succ, i64_w, i32_w]
                      rfl
                    refine pure_ (i := 4) (N := some 21) (v := ?_) (a' := ?_) #[true, true, false, true, true, false, false, false] rfl rfl (any_of HT_.out (by kernel_rfl)) (fun _ _ _ h => h) (Or.inl ⟨by rfl, ?_⟩) ?_ ?_
                    rotate_left
                    · intro w'
                      go_simp
                      with_reducible rfl
                    rotate_left
                    · simp only [Act.put, List.setIfInBounds_toArray, List.set_cons_zero, List.set_cons_succ, i64_w, i32_w]
                      rfl
                    refine one_ (i := 2) (N := some 19) #[true, true, true, true, true, false, false, false] rfl rfl (one_of HT_.out (by kernel_rfl)) (by decide) (fun K hK => ?_)
                    refine goes_ Try.func53 (by kernel_rfl) rfl #[.string (a0.extract 0 4)] (by rfl) rfl rfl (by (try simp only [List.map_toArray, List.map_cons, List.map_nil]); first | done | rfl | (simp only [List.length_drop, List.length_take]; rfl)) ?_
                    with_reducible refine (impl_numberOf.calls (a0.extract 0 4) t102 _ A8.out).mono ?_
                    rintro e w17 ⟨rfl, hb⟩
                    refine ⟨_, rfl, ?_⟩
                    have n0_ := Aside0.mk (below_step (by repeat (first | (with_reducible first | exact HB.out | apply below_alloc | apply pw_below_drewN | apply below_drew1) | exact HB.out)) hb)
                    clear HB
                    have HB := n0_
                    clear n0_
                    (try clear hb)
                    (try clear hb2)
                    (try clear hk)
                    (try clear hi)
                    refine hK.out _ _ trivial (fun hHeld => ?_)
                    clear hK K
                    refine norm_ (a' := ?_) ?_ ?_
                    rotate_left
                    · show Act.put _ (some 19) _ = _
                      simp only [Act.put, List.setIfInBounds_toArray, List.set_cons_zero, List.set_cons_succ, i64_w, i32_w]
                      rfl
                    refine one_ (i := 5) (N := some 22) #[true, true, true, true, true, true, false, false] rfl rfl (one_of HT_.out (by kernel_rfl)) (by decide) (fun K hK => ?_)
                    refine goes_ Try.func53 (by kernel_rfl) rfl #[.string (a0.extract 4 8)] (by rfl) rfl rfl (by (try simp only [List.map_toArray, List.map_cons, List.map_nil]); first | done | rfl | (simp only [List.length_drop, List.length_take]; rfl)) ?_
                    with_reducible refine (impl_numberOf.calls (a0.extract 4 8) t103 _ A11.out).mono ?_
                    rintro e w18 ⟨rfl, hb⟩
                    refine ⟨_, rfl, ?_⟩
                    have n0_ := Aside0.mk (below_step (by repeat (first | (with_reducible first | exact HB.out | apply below_alloc | apply pw_below_drewN | apply below_drew1) | exact HB.out)) hb)
                    clear HB
                    have HB := n0_
                    clear n0_
                    (try clear hb)
                    (try clear hb2)
                    (try clear hk)
                    (try clear hi)
                    refine hK.out _ _ trivial (fun hHeld => ?_)
                    clear hK K
                    refine norm_ (a' := ?_) ?_ ?_
                    rotate_left
                    · show Act.put _ (some 22) _ = _
                      simp only [Act.put, List.setIfInBounds_toArray, List.set_cons_zero, List.set_cons_succ, i64_w, i32_w]
                      rfl
                    refine pure_ (i := 6) (N := some 5) (v := ?_) (a' := ?_) #[true, true, true, true, true, true, true, false] rfl rfl (any_of HT_.out (by kernel_rfl)) (fun _ _ _ h => h) (Or.inl ⟨by rfl, ?_⟩) ?_ ?_
                    rotate_left
                    · intro w'
                      go_simp
                      with_reducible rfl
                    rotate_left
                    · simp only [Act.put, List.setIfInBounds_toArray, List.set_cons_zero, List.set_cons_succ, i64_w, i32_w]
                      rfl
                    refine pure_ (i := 7) (N := some 6) (v := ?_) (a' := ?_) #[true, true, true, true, true, true, true, true] rfl rfl (any_of HT_.out (by kernel_rfl)) (fun _ _ _ h => h) (Or.inl ⟨by rfl, ?_⟩) ?_ ?_
                    rotate_left
                    · intro w'
                      go_simp
                      with_reducible rfl
                    rotate_left
                    · simp only [Act.put, List.setIfInBounds_toArray, List.set_cons_zero, List.set_cons_succ, i64_w, i32_w]
                      rfl
                    refine done_ (done_of HT_.out (by kernel_rfl)) ?_
                    try go_wp2_with (first | ((with_reducible refine gate_callee (f := 47) rfl ?_); refine goesL_ (some 24) rfl rfl Try.func47 (by kernel_rfl) rfl #[.int .i64 t102, .int .i64 1, .int .i64 999] rfl (by (try simp only [List.map_toArray, List.map_cons, List.map_nil]); first | done | rfl | (simp only [List.length_drop, List.length_take]; rfl)) ?_; (with_reducible refine (impl_in.calls t102 1 999 true _ A12.out).mono ?_); rintro e w' ⟨rfl, ⟨nd, rfl⟩⟩; refine ⟨_, rfl, ?_⟩) | (go_at_call 47; (with_reducible refine (impl_in.calls t103 1 1000000 true _ A14.out).mono ?_); rintro e w' ⟨rfl, ⟨nd, rfl⟩⟩))
                    go_ret3
                    exact ⟨by first | rfl | (simp [errW_none, errW_some] <;> rfl) | (simp [*, errW_none, errW_some] <;> rfl), by repeat (first | (with_reducible first | exact HB.out | apply below_alloc | apply pw_below_drewN | apply below_drew1) | exact HB.out)⟩
                  · replace c15 := Bool.eq_false_iff.mpr c15
                    subst c15
                    have H1 : (some (0, 0, false)) = some (r1, r2, r3) := by rw [if_neg (show ¬ (false = true) by decide)] at H; exact H
                    clear H
                    have H := H1
                    clear H1
                    simp only [Option.some.injEq, Prod.mk.injEq] at H
                    obtain ⟨rfl, rfl, rfl⟩ := H
                    try go_wp2
                    have n0_ := Aside0.mk (below_drew1 HB.out)
                    clear HB
                    have HB := n0_
                    clear n0_
                    refine start_ (n := 8) (S := fun w' => True) (ds := []) #[false, false, false, false, false, false, false, false] (by kernel_rfl) rfl rfl trivial (fun hHeld => ?_); refine with_tabW impl_FrameHead.tab3 impl_FrameHead.bits3 (fun HT_ HW_ => ?_)
                    generalize wc.drew = w19 at HB hHeld ⊢
                    refine pure_ (i := 0) (N := some 17) (v := ?_) (a' := ?_) #[true, false, false, false, false, false, false, false] rfl rfl (any_of HT_.out (by kernel_rfl)) (fun _ _ _ h => h) (Or.inl ⟨by rfl, ?_⟩) ?_ ?_
                    rotate_left
                    · intro w'
                      go_simp
                      with_reducible rfl
                    rotate_left
                    · simp only [Act.put, List.setIfInBounds_toArray, List.set_cons_zero, List.set_cons_succ, i64_w, i32_w]
                      rfl
                    refine pure_ (i := 1) (N := some 18) (v := ?_) (a' := ?_) #[true, true, false, false, false, false, false, false] rfl rfl (any_of HT_.out (by kernel_rfl)) (fun _ _ _ h => h) (Or.inl ⟨by rfl, ?_⟩) ?_ ?_
                    rotate_left
                    · intro w'
                      go_simp
                      with_reducible rfl
                    rotate_left
                    · simp only [Act.put, List.setIfInBounds_toArray, List.set_cons_zero, List.set_cons_succ, i64_w, i32_w]
                      rfl
                    refine pure_ (i := 3) (N := some 20) (v := ?_) (a' := ?_) #[true, true, false, true, false, false, false, false] rfl rfl (any_of HT_.out (by kernel_rfl)) (fun _ _ _ h => h) (Or.inl ⟨by rfl, ?_⟩) ?_ ?_
                    rotate_left
                    · intro w'
                      go_simp
                      with_reducible rfl
                    rotate_left
                    · simp only [Act.put, List.setIfInBounds_toArray, List.set_cons_zero, List.set_cons_succ, i64_w, i32_w]
                      rfl
                    refine pure_ (i := 4) (N := some 21) (v := ?_) (a' := ?_) #[true, true, false, true, true, false, false, false] rfl rfl (any_of HT_.out (by kernel_rfl)) (fun _ _ _ h => h) (Or.inl ⟨by rfl, ?_⟩) ?_ ?_
                    rotate_left
                    · intro w'
                      go_simp
                      with_reducible rfl
                    rotate_left
                    · simp only [Act.put, List.setIfInBounds_toArray, List.set_cons_zero, List.set_cons_succ, i64_w, i32_w]
                      rfl
                    refine one_ (i := 2) (N := some 19) #[true, true, true, true, true, false, false, false] rfl rfl (one_of HT_.out (by kernel_rfl)) (by decide) (fun K hK => ?_)
                    refine goes_ Try.func53 (by kernel_rfl) rfl #[.string (a0.extract 0 4)] (by rfl) rfl rfl (by (try simp only [List.map_toArray, List.map_cons, List.map_nil]); first | done | rfl | (simp only [List.length_drop, List.length_take]; rfl)) ?_
                    with_reducible refine (impl_numberOf.calls (a0.extract 0 4) t102 _ A8.out).mono ?_
                    rintro e w20 ⟨rfl, hb⟩
                    refine ⟨_, rfl, ?_⟩
                    have n0_ := Aside0.mk (below_step (by repeat (first | (with_reducible first | exact HB.out | apply below_alloc | apply pw_below_drewN | apply below_drew1) | exact HB.out)) hb)
                    clear HB
                    have HB := n0_
                    clear n0_
                    (try clear hb)
                    (try clear hb2)
                    (try clear hk)
                    (try clear hi)
                    refine hK.out _ _ trivial (fun hHeld => ?_)
                    clear hK K
                    refine norm_ (a' := ?_) ?_ ?_
                    rotate_left
                    · show Act.put _ (some 19) _ = _
                      simp only [Act.put, List.setIfInBounds_toArray, List.set_cons_zero, List.set_cons_succ, i64_w, i32_w]
                      rfl
                    refine one_ (i := 5) (N := some 22) #[true, true, true, true, true, true, false, false] rfl rfl (one_of HT_.out (by kernel_rfl)) (by decide) (fun K hK => ?_)
                    refine goes_ Try.func53 (by kernel_rfl) rfl #[.string (a0.extract 4 8)] (by rfl) rfl rfl (by (try simp only [List.map_toArray, List.map_cons, List.map_nil]); first | done | rfl | (simp only [List.length_drop, List.length_take]; rfl)) ?_
                    with_reducible refine (impl_numberOf.calls (a0.extract 4 8) t103 _ A11.out).mono ?_
                    rintro e w21 ⟨rfl, hb⟩
                    refine ⟨_, rfl, ?_⟩
                    have n0_ := Aside0.mk (below_step (by repeat (first | (with_reducible first | exact HB.out | apply below_alloc | apply pw_below_drewN | apply below_drew1) | exact HB.out)) hb)
                    clear HB
                    have HB := n0_
                    clear n0_
                    (try clear hb)
                    (try clear hb2)
                    (try clear hk)
                    (try clear hi)
                    refine hK.out _ _ trivial (fun hHeld => ?_)
                    clear hK K
                    refine norm_ (a' := ?_) ?_ ?_
                    rotate_left
                    · show Act.put _ (some 22) _ = _
                      simp only [Act.put, List.setIfInBounds_toArray, List.set_cons_zero, List.set_cons_succ, i64_w, i32_w]
                      rfl
                    refine pure_ (i := 6) (N := some 5) (v := ?_) (a' := ?_) #[true, true, true, true, true, true, true, false] rfl rfl (any_of HT_.out (by kernel_rfl)) (fun _ _ _ h => h) (Or.inl ⟨by rfl, ?_⟩) ?_ ?_
                    rotate_left
                    · intro w'
                      go_simp
                      with_reducible rfl
                    rotate_left
                    · simp only [Act.put, List.setIfInBounds_toArray, List.set_cons_zero, List.set_cons_succ, i64_w, i32_w]
                      rfl
                    refine pure_ (i := 7) (N := some 6) (v := ?_) (a' := ?_) #[true, true, true, true, true, true, true, true] rfl rfl (any_of HT_.out (by kernel_rfl)) (fun _ _ _ h => h) (Or.inl ⟨by rfl, ?_⟩) ?_ ?_
                    rotate_left
                    · intro w'
                      go_simp
                      with_reducible rfl
                    rotate_left
                    · simp only [Act.put, List.setIfInBounds_toArray, List.set_cons_zero, List.set_cons_succ, i64_w, i32_w]
                      rfl
                    refine done_ (done_of HT_.out (by kernel_rfl)) ?_
                    try go_wp2_with (first | ((with_reducible refine gate_callee (f := 47) rfl ?_); refine goesL_ (some 24) rfl rfl Try.func47 (by kernel_rfl) rfl #[.int .i64 t102, .int .i64 1, .int .i64 999] rfl (by (try simp only [List.map_toArray, List.map_cons, List.map_nil]); first | done | rfl | (simp only [List.length_drop, List.length_take]; rfl)) ?_; (with_reducible refine (impl_in.calls t102 1 999 true _ A12.out).mono ?_); rintro e w' ⟨rfl, ⟨nd, rfl⟩⟩; refine ⟨_, rfl, ?_⟩) | (go_at_call 47; (with_reducible refine (impl_in.calls t103 1 1000000 false _ A14.out).mono ?_); rintro e w' ⟨rfl, ⟨nd, rfl⟩⟩))
                    go_ret3
                    exact ⟨by first | rfl | (simp [errW_none, errW_some] <;> rfl) | (simp [*, errW_none, errW_some] <;> rfl), by repeat (first | (with_reducible first | exact HB.out | apply below_alloc | apply pw_below_drewN | apply below_drew1) | exact HB.out)⟩
                · replace c13 := Bool.eq_false_iff.mpr c13
                  subst c13
                  have H1 : (some (0, 0, false)) = some (r1, r2, r3) := by rw [if_neg (show ¬ (false = true) by decide)] at H; exact H
                  clear H
                  have H := H1
                  clear H1
                  simp only [Option.some.injEq, Prod.mk.injEq] at H
                  obtain ⟨rfl, rfl, rfl⟩ := H
                  try go_wp2
                  have n0_ := Aside0.mk (below_drew1 HB.out)
                  clear HB
                  have HB := n0_
                  clear n0_
                  refine start_ (n := 8) (S := fun w' => True) (ds := []) #[false, false, false, false, false, false, false, false] (by kernel_rfl) rfl rfl trivial (fun hHeld => ?_); refine with_tabW impl_FrameHead.tab3 impl_FrameHead.bits3 (fun HT_ HW_ => ?_)
                  generalize wc.drew = w22 at HB hHeld ⊢
                  refine pure_ (i := 0) (N := some 17) (v := ?_) (a' := ?_) #[true, false, false, false, false, false, false, false] rfl rfl (any_of HT_.out (by kernel_rfl)) (fun _ _ _ h => h) (Or.inl ⟨by rfl, ?_⟩) ?_ ?_
                  rotate_left
                  · intro w'
                    go_simp
                    with_reducible rfl
                  rotate_left
                  · simp only [Act.put, List.setIfInBounds_toArray, List.set_cons_zero, List.set_cons_succ, i64_w, i32_w]
                    rfl
                  refine pure_ (i := 1) (N := some 18) (v := ?_) (a' := ?_) #[true, true, false, false, false, false, false, false] rfl rfl (any_of HT_.out (by kernel_rfl)) (fun _ _ _ h => h) (Or.inl ⟨by rfl, ?_⟩) ?_ ?_
                  rotate_left
                  · intro w'
                    go_simp
                    with_reducible rfl
                  rotate_left
                  · simp only [Act.put, List.setIfInBounds_toArray, List.set_cons_zero, List.set_cons_succ, i64_w, i32_w]
                    rfl
                  refine pure_ (i := 3) (N := some 20) (v := ?_) (a' := ?_) #[true, true, false, true, false, false, false, false] rfl rfl (any_of HT_.out (by kernel_rfl)) (fun _ _ _ h => h) (Or.inl ⟨by rfl, ?_⟩) ?_ ?_
                  rotate_left
                  · intro w'
                    go_simp
                    with_reducible rfl
                  rotate_left
                  · simp only [Act.put, List.setIfInBounds_toArray, List.set_cons_zero, List.set_cons_succ, i64_w, i32_w]
                    rfl
                  refine pure_ (i := 4) (N := some 21) (v := ?_) (a' := ?_) #[true, true, false, true, true, false, false, false] rfl rfl (any_of HT_.out (by kernel_rfl)) (fun _ _ _ h => h) (Or.inl ⟨by rfl, ?_⟩) ?_ ?_
                  rotate_left
                  · intro w'
                    go_simp
                    with_reducible rfl
                  rotate_left
                  · simp only [Act.put, List.setIfInBounds_toArray, List.set_cons_zero, List.set_cons_succ, i64_w, i32_w]
                    rfl
                  refine one_ (i := 2) (N := some 19) #[true, true, true, true, true, false, false, false] rfl rfl (one_of HT_.out (by kernel_rfl)) (by decide) (fun K hK => ?_)
                  refine goes_ Try.func53 (by kernel_rfl) rfl #[.string (a0.extract 0 4)] (by rfl) rfl rfl (by (try simp only [List.map_toArray, List.map_cons, List.map_nil]); first | done | rfl | (simp only [List.length_drop, List.length_take]; rfl)) ?_
                  with_reducible refine (impl_numberOf.calls (a0.extract 0 4) t102 _ A8.out).mono ?_
                  rintro e w23 ⟨rfl, hb⟩
                  refine ⟨_, rfl, ?_⟩
                  have n0_ := Aside0.mk (below_step (by repeat (first | (with_reducible first | exact HB.out | apply below_alloc | apply pw_below_drewN | apply below_drew1) | exact HB.out)) hb)
                  clear HB
                  have HB := n0_
                  clear n0_
                  (try clear hb)
                  (try clear hb2)
                  (try clear hk)
                  (try clear hi)
                  refine hK.out _ _ trivial (fun hHeld => ?_)
                  clear hK K
                  refine norm_ (a' := ?_) ?_ ?_
                  rotate_left
                  · show Act.put _ (some 19) _ = _
                    simp only [Act.put, List.setIfInBounds_toArray, List.set_cons_zero, List.set_cons_succ, i64_w, i32_w]
                    rfl
                  refine one_ (i := 5) (N := some 22) #[true, true, true, true, true, true, false, false] rfl rfl (one_of HT_.out (by kernel_rfl)) (by decide) (fun K hK => ?_)
                  refine goes_ Try.func53 (by kernel_rfl) rfl #[.string (a0.extract 4 8)] (by rfl) rfl rfl (by (try simp only [List.map_toArray, List.map_cons, List.map_nil]); first | done | rfl | (simp only [List.length_drop, List.length_take]; rfl)) ?_
                  with_reducible refine (impl_numberOf.calls (a0.extract 4 8) t103 _ A11.out).mono ?_
                  rintro e w24 ⟨rfl, hb⟩
                  refine ⟨_, rfl, ?_⟩
                  have n0_ := Aside0.mk (below_step (by repeat (first | (with_reducible first | exact HB.out | apply below_alloc | apply pw_below_drewN | apply below_drew1) | exact HB.out)) hb)
                  clear HB
                  have HB := n0_
                  clear n0_
                  (try clear hb)
                  (try clear hb2)
                  (try clear hk)
                  (try clear hi)
                  refine hK.out _ _ trivial (fun hHeld => ?_)
                  clear hK K
                  refine norm_ (a' := ?_) ?_ ?_
                  rotate_left
                  · show Act.put _ (some 22) _ = _
                    simp only [Act.put, List.setIfInBounds_toArray, List.set_cons_zero, List.set_cons_succ, i64_w, i32_w]
                    rfl
                  refine pure_ (i := 6) (N := some 5) (v := ?_) (a' := ?_) #[true, true, true, true, true, true, true, false] rfl rfl (any_of HT_.out (by kernel_rfl)) (fun _ _ _ h => h) (Or.inl ⟨by rfl, ?_⟩) ?_ ?_
                  rotate_left
                  · intro w'
                    go_simp
                    with_reducible rfl
                  rotate_left
                  · simp only [Act.put, List.setIfInBounds_toArray, List.set_cons_zero, List.set_cons_succ, i64_w, i32_w]
                    rfl
                  refine pure_ (i := 7) (N := some 6) (v := ?_) (a' := ?_) #[true, true, true, true, true, true, true, true] rfl rfl (any_of HT_.out (by kernel_rfl)) (fun _ _ _ h => h) (Or.inl ⟨by rfl, ?_⟩) ?_ ?_
                  rotate_left
                  · intro w'
                    go_simp
                    with_reducible rfl
                  rotate_left
                  · simp only [Act.put, List.setIfInBounds_toArray, List.set_cons_zero, List.set_cons_succ, i64_w, i32_w]
                    rfl
                  refine done_ (done_of HT_.out (by kernel_rfl)) ?_
                  try go_wp2_with (first | ((with_reducible refine gate_callee (f := 47) rfl ?_); refine goesL_ (some 24) rfl rfl Try.func47 (by kernel_rfl) rfl #[.int .i64 t102, .int .i64 1, .int .i64 999] rfl (by (try simp only [List.map_toArray, List.map_cons, List.map_nil]); first | done | rfl | (simp only [List.length_drop, List.length_take]; rfl)) ?_; (with_reducible refine (impl_in.calls t102 1 999 false _ A12.out).mono ?_); rintro e w' ⟨rfl, ⟨nd, rfl⟩⟩; refine ⟨_, rfl, ?_⟩))
                  go_ret3
                  exact ⟨by first | rfl | (simp [errW_none, errW_some] <;> rfl) | (simp [*, errW_none, errW_some] <;> rfl), by repeat (first | (with_reducible first | exact HB.out | apply below_alloc | apply pw_below_drewN | apply below_drew1) | exact HB.out)⟩
              · rw [if_neg c10] at H
                exact absurd H (by simp)
            · rw [if_neg c9] at H
              exact absurd H (by simp)
          · rw [if_neg c7] at H
            exact absurd H (by simp)
        · rw [if_neg c6] at H
          exact absurd H (by simp)

end Go.Proofs.Ytnkaccacippbfaa.Q

/- Contracts of Go functions of this seat, written by a program: where F.f of the arguments is some r, the call returns r. Conditions: those in each statement. -/
namespace Go.Proofs.Ytnkaccacippbfaa.Q
open Go.RowKit Go.Proofs.YtnkaccacippbfaaW.PrintWords Go.Proofs.YtnkaccacippbfaaW.PrintLast Go.Proofs.YtnkaccacippbfaaW.PrintMore
attribute [local go_sem] max2_int min2_int max_two min_two max_three min_three max_four min_four   -- for this text's walks alone
set_option linter.unusedVariables false
set_option linter.unusedSimpArgs false

/-! ### laws_FnExactFrameHead: function 8 -/
def laws_FnExactFrameHead.f (k : Nat) (a0 : ByteArray) : Option (Bool) := if (a0.size : Int) > 1048576 then (some true) else ((spec_FrameHead.f k a0).bind fun bt101 => ((impl_FrameHead.f k a0).bind fun bt104 => (if bt104.1 = bt101.1 then (if bt104.2.1 = bt101.2.1 then (if (bt104.2.2 != bt101.2.2) = true then (some false) else (some true)) else (some false)) else (some false))))
theorem laws_FnExactFrameHead.mono : ∀ a0 k, LeO (laws_FnExactFrameHead.f k a0) (laws_FnExactFrameHead.f (k + 1) a0) := by
  intro a0 k
  unfold laws_FnExactFrameHead.f
  repeat' first
      | (with_reducible exact impl_FrameHead.mono _ _)
      | (with_reducible exact spec_FrameHead.mono _ _)
      | (with_reducible exact LeO.refl _)
      | (with_reducible exact LeO.none _)
      | (with_reducible refine LeO.ite ?_ ?_)
      | (with_reducible refine LeO.bind ?_ (fun _ => ?_))
      | exact impl_FrameHead.mono _ _
      | exact spec_FrameHead.mono _ _
      | exact LeO.none _
      | refine LeO.ite ?_ ?_
      | refine LeO.bind ?_ (fun _ => ?_)
set_option maxHeartbeats 8000000 in
set_option maxRecDepth 100000 in
theorem laws_FnExactFrameHead.calls (k : Nat) (a0 : ByteArray) (r : Bool) (w : World) (h : laws_FnExactFrameHead.f k a0 = some r) :
    Calls Try.prog 8 #[.string a0] w fun e w' => e = .returned (.bool r) ∧ Below w.heap.size w w' := by
  have HB := Aside0.mk (Below.refl w.heap.size w)
  have H : (if (a0.size : Int) > 1048576 then (some true) else ((spec_FrameHead.f k a0).bind fun bt101 => ((impl_FrameHead.f k a0).bind fun bt104 => (if bt104.1 = bt101.1 then (if bt104.2.1 = bt101.2.1 then (if (bt104.2.2 != bt101.2.2) = true then (some false) else (some true)) else (some false)) else (some false))))) = some r := h
  clear h
  by_cases c2 : (a0.size : Int) > 1048576
  · rw [if_pos c2] at H
    have c2b0 : decide (1048576 < (a0.size : Int)) = true := decide_eq_true c2
    have c2b1 : decide (1048576 < a0.size) = true := decide_eq_true (by omega)
    clear c2
    obtain rfl := Option.some.inj H
    go_enter Try.func8, Try.ntmps8
    go_wp2
    go_ret
    exact ⟨by first | rfl | (simp [errW_none, errW_some] <;> rfl) | (simp [*, errW_none, errW_some] <;> rfl), by repeat (first | (with_reducible first | exact HB.out | apply below_alloc | apply pw_below_drewN | apply below_drew1) | exact HB.out)⟩
  · rw [if_neg c2] at H
    have c2b0 : decide (1048576 < (a0.size : Int)) = false := decide_eq_false c2
    have c2b1 : decide (1048576 < a0.size) = false := decide_eq_false (by omega)
    clear c2
    replace H := Option.bind_eq_some_iff.mp H
    obtain ⟨⟨t101, t102, t103⟩, A30, H⟩ := H
    replace H : ((impl_FrameHead.f k a0).bind fun bt104 => (if bt104.1 = t101 then (if bt104.2.1 = t102 then (if (bt104.2.2 != t103) = true then (some false) else (some true)) else (some false)) else (some false))) = some r := H
    have A3 := Aside0.mk A30
    clear A30
    replace H := Option.bind_eq_some_iff.mp H
    obtain ⟨⟨t104, t105, t106⟩, A40, H⟩ := H
    replace H : (if t104 = t101 then (if t105 = t102 then (if (t106 != t103) = true then (some false) else (some true)) else (some false)) else (some false)) = some r := H
    have A4 := Aside0.mk A40
    clear A40
    by_cases c5 : t104 = t101
    · rw [if_pos c5] at H
      have c5b0 : (t104 == t101) = true := beq_iff_eq.mpr c5
      have c5b1 : (t104 != t101) = false := bne_eq_false_iff_eq.mpr c5
      clear c5
      by_cases c6 : t105 = t102
      · rw [if_pos c6] at H
        have c6b0 : (t105 == t102) = true := beq_iff_eq.mpr c6
        have c6b1 : (t105 != t102) = false := bne_eq_false_iff_eq.mpr c6
        clear c6
        by_cases c7 : (t106 != t103) = true
        · rw [if_pos c7] at H
          have c7b0 : (t106 != t103) = true := c7
          (try (have c7b1 : decide (t106 = t103) = false := by simpa using c7))
          (try (have c7b2 : (t106 == t103) = false := by simpa using c7))
          (try (have c7b3 : ¬ (t106 = t103) := by simpa using c7))
          clear c7
          obtain rfl := Option.some.inj H
          go_enter Try.func8, Try.ntmps8
          go_wp2_with (first | ((with_reducible refine gate_callee (f := 27) rfl ?_); refine goesL_ (some 14) rfl rfl Try.func27 (by kernel_rfl) rfl #[.string a0] rfl (by (try simp only [List.map_toArray, List.map_cons, List.map_nil]); first | done | rfl | (simp only [List.length_drop, List.length_take]; rfl)) ?_; (with_reducible refine (spec_FrameHead.calls k a0 t101 t102 t103 _ A3.out).mono ?_); rintro e w' ⟨rfl, ⟨nd, rfl⟩⟩; refine ⟨_, rfl, ?_⟩) | ((with_reducible refine gate_callee (f := 28) rfl ?_); refine goesL_ (some 20) rfl rfl Try.func28 (by kernel_rfl) rfl #[.string a0] rfl (by (try simp only [List.map_toArray, List.map_cons, List.map_nil]); first | done | rfl | (simp only [List.length_drop, List.length_take]; rfl)) ?_; (with_reducible refine (impl_FrameHead.calls k a0 t104 t105 t106 _ A4.out).mono ?_); rintro e w8 ⟨rfl, hb⟩; refine ⟨_, rfl, ?_⟩; have n0_ := Aside0.mk (below_step (by repeat (first | (with_reducible first | exact HB.out | apply below_alloc | apply pw_below_drewN | apply below_drew1) | exact HB.out)) hb); clear HB; have HB := n0_; clear n0_; (try clear hb); (try clear hb2); (try clear hk); (try clear hi)))
          go_ret
          exact ⟨by first | rfl | (simp [errW_none, errW_some] <;> rfl) | (simp [*, errW_none, errW_some] <;> rfl), by repeat (first | (with_reducible first | exact HB.out | apply below_alloc | apply pw_below_drewN | apply below_drew1) | exact HB.out)⟩
        · rw [if_neg c7] at H
          have c7b0 : (t106 != t103) = false := by simpa using c7
          (try (have c7b1 : decide (t106 = t103) = true := by simpa using c7))
          (try (have c7b2 : (t106 == t103) = true := by simpa using c7))
          clear c7
          obtain rfl := Option.some.inj H
          go_enter Try.func8, Try.ntmps8
          go_wp2_with (first | ((with_reducible refine gate_callee (f := 27) rfl ?_); refine goesL_ (some 14) rfl rfl Try.func27 (by kernel_rfl) rfl #[.string a0] rfl (by (try simp only [List.map_toArray, List.map_cons, List.map_nil]); first | done | rfl | (simp only [List.length_drop, List.length_take]; rfl)) ?_; (with_reducible refine (spec_FrameHead.calls k a0 t101 t102 t103 _ A3.out).mono ?_); rintro e w' ⟨rfl, ⟨nd, rfl⟩⟩; refine ⟨_, rfl, ?_⟩) | ((with_reducible refine gate_callee (f := 28) rfl ?_); refine goesL_ (some 20) rfl rfl Try.func28 (by kernel_rfl) rfl #[.string a0] rfl (by (try simp only [List.map_toArray, List.map_cons, List.map_nil]); first | done | rfl | (simp only [List.length_drop, List.length_take]; rfl)) ?_; (with_reducible refine (impl_FrameHead.calls k a0 t104 t105 t106 _ A4.out).mono ?_); rintro e w9 ⟨rfl, hb⟩; refine ⟨_, rfl, ?_⟩; have n0_ := Aside0.mk (below_step (by repeat (first | (with_reducible first | exact HB.out | apply below_alloc | apply pw_below_drewN | apply below_drew1) | exact HB.out)) hb); clear HB; have HB := n0_; clear n0_; (try clear hb); (try clear hb2); (try clear hk); (try clear hi)))
          go_ret
          exact ⟨by first | rfl | (simp [errW_none, errW_some] <;> rfl) | (simp [*, errW_none, errW_some] <;> rfl), by repeat (first | (with_reducible first | exact HB.out | apply below_alloc | apply pw_below_drewN | apply below_drew1) | exact HB.out)⟩
      · rw [if_neg c6] at H
        have c6b0 : (t105 == t102) = false := beq_eq_false_iff_ne.mpr c6
        have c6b1 : (t105 != t102) = true := bne_iff_ne.mpr c6
        obtain rfl := Option.some.inj H
        go_enter Try.func8, Try.ntmps8
        go_wp2_with (first | ((with_reducible refine gate_callee (f := 27) rfl ?_); refine goesL_ (some 14) rfl rfl Try.func27 (by kernel_rfl) rfl #[.string a0] rfl (by (try simp only [List.map_toArray, List.map_cons, List.map_nil]); first | done | rfl | (simp only [List.length_drop, List.length_take]; rfl)) ?_; (with_reducible refine (spec_FrameHead.calls k a0 t101 t102 t103 _ A3.out).mono ?_); rintro e w' ⟨rfl, ⟨nd, rfl⟩⟩; refine ⟨_, rfl, ?_⟩) | ((with_reducible refine gate_callee (f := 28) rfl ?_); refine goesL_ (some 20) rfl rfl Try.func28 (by kernel_rfl) rfl #[.string a0] rfl (by (try simp only [List.map_toArray, List.map_cons, List.map_nil]); first | done | rfl | (simp only [List.length_drop, List.length_take]; rfl)) ?_; (with_reducible refine (impl_FrameHead.calls k a0 t104 t105 t106 _ A4.out).mono ?_); rintro e w10 ⟨rfl, hb⟩; refine ⟨_, rfl, ?_⟩; have n0_ := Aside0.mk (below_step (by repeat (first | (with_reducible first | exact HB.out | apply below_alloc | apply pw_below_drewN | apply below_drew1) | exact HB.out)) hb); clear HB; have HB := n0_; clear n0_; (try clear hb); (try clear hb2); (try clear hk); (try clear hi)))
        go_ret
        exact ⟨by first | rfl | (simp [errW_none, errW_some] <;> rfl) | (simp [*, errW_none, errW_some] <;> rfl), by repeat (first | (with_reducible first | exact HB.out | apply below_alloc | apply pw_below_drewN | apply below_drew1) | exact HB.out)⟩
    · rw [if_neg c5] at H
      have c5b0 : (t104 == t101) = false := beq_eq_false_iff_ne.mpr c5
      have c5b1 : (t104 != t101) = true := bne_iff_ne.mpr c5
      obtain rfl := Option.some.inj H
      go_enter Try.func8, Try.ntmps8
      go_wp2_with (first | ((with_reducible refine gate_callee (f := 27) rfl ?_); refine goesL_ (some 14) rfl rfl Try.func27 (by kernel_rfl) rfl #[.string a0] rfl (by (try simp only [List.map_toArray, List.map_cons, List.map_nil]); first | done | rfl | (simp only [List.length_drop, List.length_take]; rfl)) ?_; (with_reducible refine (spec_FrameHead.calls k a0 t101 t102 t103 _ A3.out).mono ?_); rintro e w' ⟨rfl, ⟨nd, rfl⟩⟩; refine ⟨_, rfl, ?_⟩) | ((with_reducible refine gate_callee (f := 28) rfl ?_); refine goesL_ (some 20) rfl rfl Try.func28 (by kernel_rfl) rfl #[.string a0] rfl (by (try simp only [List.map_toArray, List.map_cons, List.map_nil]); first | done | rfl | (simp only [List.length_drop, List.length_take]; rfl)) ?_; (with_reducible refine (impl_FrameHead.calls k a0 t104 t105 t106 _ A4.out).mono ?_); rintro e w11 ⟨rfl, hb⟩; refine ⟨_, rfl, ?_⟩; have n0_ := Aside0.mk (below_step (by repeat (first | (with_reducible first | exact HB.out | apply below_alloc | apply pw_below_drewN | apply below_drew1) | exact HB.out)) hb); clear HB; have HB := n0_; clear n0_; (try clear hb); (try clear hb2); (try clear hk); (try clear hi)))
      go_ret
      exact ⟨by first | rfl | (simp [errW_none, errW_some] <;> rfl) | (simp [*, errW_none, errW_some] <;> rfl), by repeat (first | (with_reducible first | exact HB.out | apply below_alloc | apply pw_below_drewN | apply below_drew1) | exact HB.out)⟩

end Go.Proofs.Ytnkaccacippbfaa.Q

/- How data that can be read lies in cells: for whole numbers, bools, strings, slices and structs, what a type's cells say. Conditions: those in each statement. -/
namespace Go.Proofs.Ytnkaccacippbfaa.Open
open Go.RowKit Go.ChangeShapes Go.WideShapes Go.Deep Go.Proofs.YtnkaccacippbfaaW.PrintWords
/-- A number fits its kind. -/
def Fits (k : IntKind) (n : Int) : Prop := (Lit.int k n).wf = true
/-- A number is an int of 64 bits. -/
def I64 (n : Int) : Prop := -9223372036854775808 ≤ n ∧ n ≤ 9223372036854775807
/-- What the cells of a type say. -/
def Opens (P : Program) (w : World) (t : TypeId) {α : Type} (d : Kd α) (p : α → Prop) : Prop :=
  ∀ (H : Type) (enc : TypeId × Value → H) (base : Nat) (spare : Nat → Bool) (held : Bool) (fuel : Nat) (cs : List Value) (x : DataW H × List MemPlace),
    DataW.trod enc P w base spare held fuel t cs = some x → ∃ a, d.K w a cs ∧ p a
theorem opens_int {P : Program} {w : World} {t : TypeId} {k : IntKind} (ht : P.underlying t = some (.int k)) : Opens P w t (Kd.int k) (fun n => Fits k n) := by
  intro H enc base spare held fuel cs x h
  obtain ⟨n, rfl, _, hw⟩ := DataW.trod_int ht h
  exact ⟨n, rfl, hw⟩
theorem i64_of {n : Int} (h : (Lit.int .i64 n).wf = true) : I64 n := by
  simp only [Lit.wf, Bool.and_eq_true, decide_eq_true_eq] at h
  exact ⟨h.1, h.2⟩
theorem opens_i64 {P : Program} {w : World} {t : TypeId} (ht : P.underlying t = some (.int .i64)) : Opens P w t (Kd.int .i64) (fun n => I64 n) := by
  intro H enc base spare held fuel cs x h
  obtain ⟨n, rfl, _, hw⟩ := DataW.trod_int ht h
  exact ⟨n, rfl, i64_of hw⟩
theorem opens_bool {P : Program} {w : World} {t : TypeId} (ht : P.underlying t = some .bool) : Opens P w t Kd.bool (fun _ => True) := by
  intro H enc base spare held fuel cs x h
  obtain ⟨n, rfl, _⟩ := DataW.trod_bool ht h
  exact ⟨n, rfl, trivial⟩
theorem opens_string {P : Program} {w : World} {t : TypeId} (ht : P.underlying t = some .string) : Opens P w t Kd.string (fun s => s.size ≤ 9223372036854775807) := by
  intro H enc base spare held fuel cs x h
  obtain ⟨s, rfl, _, hs⟩ := DataW.trod_string ht h
  exact ⟨s, rfl, hs⟩
theorem pick {α : Type} (n : Nat) (R : Nat → α → Prop) (h : ∀ i, i < n → ∃ a, R i a) : ∃ xs : List α, xs.length = n ∧ ∀ i a, xs[i]? = some a → R i a := by
  induction n with
  | zero => exact ⟨[], rfl, fun i a e => by simp at e⟩
  | succ n ih =>
    obtain ⟨xs, hl, hx⟩ := ih (fun i hi => h i (by omega))
    obtain ⟨a, ha⟩ := h n (by omega)
    refine ⟨xs ++ [a], by simp [hl], fun i b e => ?_⟩
    rcases Nat.lt_or_ge i xs.length with hi | hi
    · rw [List.getElem?_append_left hi] at e
      exact hx i b e
    · have hlt := (List.getElem?_eq_some_iff.1 e).1
      rw [List.length_append, List.length_singleton] at hlt
      obtain rfl : i = xs.length := by omega
      simp at e
      subst e
      rw [hl]
      exact ha
theorem opens_slice {P : Program} {w : World} {t e : TypeId} {α : Type} {d : Kd α} {p : α → Prop} (ht : P.underlying t = some (.slice e)) (hc : P.cellsOf e = d.sz) (he : Opens P w e d p) :
    Opens P w t (Kd.slice e d) (fun xs => xs.length ≤ 9223372036854775807 ∧ ∀ y ∈ xs, p y) := by
  intro H enc base spare held fuel cs x h
  rcases open_slice ht h with ⟨rfl, _⟩ | ⟨a, len, cap, m, n, D, Pl, rfl, _, hl, hm, hmm, _, hi⟩
  · exact ⟨[], ⟨none, 0, rfl, by simp, by simp, by simp, fun hn => by simp at hn⟩, by simp, by simp⟩
  · have hle : len ≤ m := by rw [hmm]; split <;> omega
    obtain ⟨xs, hxl, hx⟩ := pick len (fun i y => p y ∧ ∃ c, c.length = d.sz ∧ d.K w y c ∧ ∀ j u, c[j]? = some u → w.cell? (a.add (i * d.sz + j)) = some u) (fun i hil => by
      obtain ⟨cs', h1, h2⟩ := hi i (by omega)
      obtain ⟨y, hK, hp⟩ := he _ _ _ _ _ _ _ _ h2
      obtain ⟨_, hcl, hat⟩ := World.cells?_some h1
      rw [hc] at hcl hat
      refine ⟨y, hp, cs', hcl, hK, fun j u hu => ?_⟩
      have hj := (List.getElem?_eq_some_iff.1 hu).1
      rw [← Go.Deep.add_add, hat j (by omega), hu])
    have hmx : maxLen = 9223372036854775807 := rfl
    refine ⟨xs, ⟨some a, cap, by rw [hxl], by omega, ?_⟩, by omega, fun y hy => ?_⟩
    · refine ⟨rfl, by omega, fun _ => ⟨a, rfl, fun j q hj => ?_⟩⟩
      obtain ⟨_, c, h1, h2, h3⟩ := hx j q hj
      exact ⟨c, h1, h2, h3⟩
    · obtain ⟨i, hi2⟩ := List.getElem?_of_mem hy
      exact (hx i y hi2).1
theorem open_fields {H : Type} {enc : TypeId × Value → H} {P : Program} {w : World} {base : Nat} {spare : Nat → Bool} {held : Bool} {t : TypeId} {fs : Array Field} {fuel m : Nat} {cs : List Value} {x : DataW H × List MemPlace}
    (ht : P.underlying t = some (.struct fs)) (hm : P.cellsOf t = m) (h : DataW.trod enc P w base spare held fuel t cs = some x) :
    ∃ (n : Nat), cs.length = m ∧ ∀ (i : Nat) (f : Field), fs[i]? = some f → ∃ y, DataW.trod enc P w base spare held n f.type ((cs.drop f.offset).take (P.cellsOf f.type)) = some y := by
  obtain ⟨xs, n, _, _, hl, hlen, hf⟩ := DataW.trod_struct ht h
  refine ⟨n, by rw [hl, hm], fun i f hi => ?_⟩
  have hlt : i < xs.length := by rw [hlen]; exact (Array.getElem?_eq_some_iff.1 hi).1
  exact ⟨xs[i], by rw [hf i f hi, List.getElem?_eq_getElem hlt]⟩
theorem field_opens {H : Type} {enc : TypeId × Value → H} {P : Program} {w : World} {base : Nat} {spare : Nat → Bool} {held : Bool} {t : TypeId} {α : Type} {d : Kd α} {p : α → Prop} {n o s i : Nat} {cs : List Value} {fs : Array Field} {f : Field} (he : Opens P w t d p)
    (hf : ∀ (i : Nat) (f : Field), fs[i]? = some f → ∃ y, DataW.trod enc P w base spare held n f.type ((cs.drop f.offset).take (P.cellsOf f.type)) = some y)
    (hi : fs[i]? = some f) (ht : f.type = t) (ho : f.offset = o) (hs : P.cellsOf t = s) : ∃ a, d.K w a ((cs.drop o).take s) ∧ p a := by
  obtain ⟨y, hy⟩ := hf i f hi
  subst ht ho hs
  exact he _ _ _ _ _ _ _ _ hy
theorem split_piece (cs : List Value) (o s : Nat) : cs.drop o = (cs.drop o).take s ++ cs.drop (o + s) := by
  rw [← List.drop_drop]
  exact (List.take_append_drop s _).symm
theorem last_piece {α : Type} {d : Kd α} {w : World} {x : α} {cs : List Value} {o s : Nat} (hl : cs.length = o + s) (h : d.K w x ((cs.drop o).take s)) : d.K w x (cs.drop o) := by
  rwa [List.take_of_length_le (by rw [List.length_drop]; omega)] at h
theorem last_piece0 {α : Type} {d : Kd α} {w : World} {x : α} {cs : List Value} {s : Nat} (hl : cs.length = s) (h : d.K w x ((cs.drop 0).take s)) : d.K w x cs := by
  rwa [List.take_of_length_le (by rw [List.length_drop]; omega)] at h
theorem open_arg {H : Type} {enc : TypeId × Value → H} {P : Program} {w : World} {base : Nat} {spare : Nat → Bool} {held : Bool} {t : TypeId} {α : Type} {d : Kd α} {p : α → Prop} {v : Value} {dt : DataW H} {ps : List MemPlace} (he : Opens P w t d p)
    (h : DataW.Trod enc P w base spare held t v dt ps) : ∃ a, d.K w a v.cells.toList ∧ p a := by
  obtain ⟨fuel, hf⟩ := h
  exact he _ _ _ _ _ _ _ _ hf
theorem agg_of_cells {cs : Array Value} {l : List Value} (h : (Value.agg cs).cells.toList = l) : cs = l.toArray := by
  simp only [Value.cells] at h
  exact Array.ext' (by simpa using h)
theorem slice_of_cells {a A : Option Addr} {len cap n c : Nat} (h : (Value.slice a len cap).cells.toList = [.slice A n c]) : A = a ∧ len = n ∧ c = cap := by
  simp only [Value.cells, List.cons.injEq, Value.slice.injEq, and_true] at h
  exact ⟨h.1.symm, h.2.1, h.2.2.symm⟩
theorem int_of_cells {k : IntKind} {w : World} {v : Value} {x : Int} (h : ∃ n, v = .int k n) (K : (Kd.int k).K w x v.cells.toList) : v = .int k x := by
  obtain ⟨n, rfl⟩ := h
  have K' : (Value.int k n).cells.toList = [.int k x] := K
  simp only [Value.cells, List.cons.injEq, and_true] at K'
  exact K'
theorem bool_of_cells {w : World} {v : Value} {x : Bool} (h : ∃ n, v = .bool n) (K : Kd.bool.K w x v.cells.toList) : v = .bool x := by
  obtain ⟨n, rfl⟩ := h
  have K' : (Value.bool n).cells.toList = [.bool x] := K
  simp only [Value.cells, List.cons.injEq, and_true] at K'
  exact K'
theorem string_of_cells {w : World} {v : Value} {x : ByteArray} (h : ∃ n, v = .string n) (K : Kd.string.K w x v.cells.toList) : v = .string x := by
  obtain ⟨n, rfl⟩ := h
  have K' : (Value.string n).cells.toList = [.string x] := K
  simp only [Value.cells, List.cons.injEq, and_true] at K'
  exact K'
end Go.Proofs.Ytnkaccacippbfaa.Open

/- How values of the seat's types are read out of memory: a value that can be read is one of its kind, and its numbers are in their ranges. No condition. -/
namespace Go.Proofs.Ytnkaccacippbfaa.Q
open Go.RowKit Go.Proofs.YtnkaccacippbfaaW.PrintWords Go.Proofs.Ytnkaccacippbfaa.Open
theorem op3 (w : World) : Opens Try.prog w 3 (Kd.int .i64) (fun x => Open.I64 x) := opens_i64 Try.underlying3
def wf24 (x : S24) : Prop := Open.I64 x.f0 ∧ Open.I64 x.f1 ∧ Open.I64 x.f2 ∧ Open.I64 x.f3 ∧ Open.I64 x.f4 ∧ Open.I64 x.f5 ∧ Open.I64 x.f6
theorem op24 (w : World) : Opens Try.prog w 24 k24 wf24 := by
  intro H enc base spare held fuel cs x h
  obtain ⟨n, hlen, hf⟩ := open_fields Try.underlying24 (m := 7) (by kernel_rfl) h
  obtain ⟨a0, K0, p0⟩ := field_opens (i := 0) (o := 0) (s := 1) (op3 w) hf rfl rfl rfl (by kernel_rfl)
  obtain ⟨a1, K1, p1⟩ := field_opens (i := 1) (o := 1) (s := 1) (op3 w) hf rfl rfl rfl (by kernel_rfl)
  obtain ⟨a2, K2, p2⟩ := field_opens (i := 2) (o := 2) (s := 1) (op3 w) hf rfl rfl rfl (by kernel_rfl)
  obtain ⟨a3, K3, p3⟩ := field_opens (i := 3) (o := 3) (s := 1) (op3 w) hf rfl rfl rfl (by kernel_rfl)
  obtain ⟨a4, K4, p4⟩ := field_opens (i := 4) (o := 4) (s := 1) (op3 w) hf rfl rfl rfl (by kernel_rfl)
  obtain ⟨a5, K5, p5⟩ := field_opens (i := 5) (o := 5) (s := 1) (op3 w) hf rfl rfl rfl (by kernel_rfl)
  obtain ⟨a6, K6, p6⟩ := field_opens (i := 6) (o := 6) (s := 1) (op3 w) hf rfl rfl rfl (by kernel_rfl)
  refine ⟨⟨a0, a1, a2, a3, a4, a5, a6⟩, ?_, p0, p1, p2, p3, p4, p5, p6⟩
  exact ⟨_, _, split_piece cs 0 1, K0, ⟨_, _, split_piece cs 1 1, K1, ⟨_, _, split_piece cs 2 1, K2, ⟨_, _, split_piece cs 3 1, K3, ⟨_, _, split_piece cs 4 1, K4, ⟨_, _, split_piece cs 5 1, K5, (last_piece (o := 6) (s := 1) (by rw [hlen]) K6)⟩⟩⟩⟩⟩⟩
theorem op9 (w : World) : Opens Try.prog w 9 Kd.string (fun x => x.size ≤ 9223372036854775807) := opens_string Try.underlying9
def wf32 (x : S32) : Prop := Open.I64 x.f0 ∧ Open.I64 x.f1
theorem op32 (w : World) : Opens Try.prog w 32 k32 wf32 := by
  intro H enc base spare held fuel cs x h
  obtain ⟨n, hlen, hf⟩ := open_fields Try.underlying32 (m := 2) (by kernel_rfl) h
  obtain ⟨a0, K0, p0⟩ := field_opens (i := 0) (o := 0) (s := 1) (op3 w) hf rfl rfl rfl (by kernel_rfl)
  obtain ⟨a1, K1, p1⟩ := field_opens (i := 1) (o := 1) (s := 1) (op3 w) hf rfl rfl rfl (by kernel_rfl)
  refine ⟨⟨a0, a1⟩, ?_, p0, p1⟩
  exact ⟨_, _, split_piece cs 0 1, K0, (last_piece (o := 1) (s := 1) (by rw [hlen]) K1)⟩
def wf38 (x : S38) : Prop := Open.I64 x.f0 ∧ Open.I64 x.f1 ∧ Open.I64 x.f2 ∧ x.f3.size ≤ 9223372036854775807
theorem op38 (w : World) : Opens Try.prog w 38 k38 wf38 := by
  intro H enc base spare held fuel cs x h
  obtain ⟨n, hlen, hf⟩ := open_fields Try.underlying38 (m := 4) (by kernel_rfl) h
  obtain ⟨a0, K0, p0⟩ := field_opens (i := 0) (o := 0) (s := 1) (op3 w) hf rfl rfl rfl (by kernel_rfl)
  obtain ⟨a1, K1, p1⟩ := field_opens (i := 1) (o := 1) (s := 1) (op3 w) hf rfl rfl rfl (by kernel_rfl)
  obtain ⟨a2, K2, p2⟩ := field_opens (i := 2) (o := 2) (s := 1) (op3 w) hf rfl rfl rfl (by kernel_rfl)
  obtain ⟨a3, K3, p3⟩ := field_opens (i := 3) (o := 3) (s := 1) (op9 w) hf rfl rfl rfl (by kernel_rfl)
  refine ⟨⟨a0, a1, a2, a3⟩, ?_, p0, p1, p2, p3⟩
  exact ⟨_, _, split_piece cs 0 1, K0, ⟨_, _, split_piece cs 1 1, K1, ⟨_, _, split_piece cs 2 1, K2, (last_piece (o := 3) (s := 1) (by rw [hlen]) K3)⟩⟩⟩
theorem op5 (w : World) : Opens Try.prog w 5 (Kd.int .u8) (fun x => Open.Fits .u8 x) := opens_int Try.underlying5
theorem op53 (w : World) : Opens Try.prog w 53 (Kd.slice 5 (Kd.int .u8)) (fun x => (x.length ≤ 9223372036854775807 ∧ ∀ y ∈ x, Open.Fits .u8 y)) := opens_slice Try.underlying53 (by kernel_rfl) (op5 w)
end Go.Proofs.Ytnkaccacippbfaa.Q

/- The pure statement of the law FnExactFrameHead, over numbers and lists. A definition; no condition. -/
namespace Go.Proofs.Ytnkaccacippbfaa.Q
open Go.Proofs.Ytnkaccacippbfaa.Open
/-- The pure statement of laws_FnExactFrameHead. -/
def laws_FnExactFrameHead.Pure : Prop := ∀ (x0 : ByteArray), (x0.size ≤ 9223372036854775807) → ∃ k, laws_FnExactFrameHead.f k x0 = some true
end Go.Proofs.Ytnkaccacippbfaa.Q

/- Loops over lists, whatever they do: filling, checking, scanning, marking. Conditions: those in each statement. -/
namespace Go.Proofs.Ytnkaccacippbfaa.Pure
open Go.RowKit
theorem w64 {x : Int} (h : -9223372036854775808 ≤ x) (h' : x ≤ 9223372036854775807) : wrap64 x = x := by
  unfold wrap64
  omega
/-- A loop that fills a list out of another one, element by element. -/
theorem fill_loop {α β : Type} (l0 : Nat → List α → List β → Int → Option (List β)) (f : α → β) (d : α) (xs : List α)
    (hstep : ∀ (k i : Nat) (ys : List β), i < xs.length → ys.length = xs.length → l0 (k + 1) xs ys (i : Int) = l0 k xs (ys.set i (f (xs.getD i d))) ((i + 1 : Nat) : Int))
    (hend : ∀ (k : Nat) (ys : List β), l0 (k + 1) xs ys (xs.length : Int) = some ys) :
    ∀ (k : Nat) (ys : List β), xs.length < k → ys.length = xs.length → l0 k xs ys 0 = some (xs.map f) := by
  have key : ∀ (e k i : Nat) (ys : List β), xs.length - i = e → e < k → i ≤ xs.length → ys.length = xs.length → (∀ j, j < i → ys[j]? = (xs.map f)[j]?) → l0 k xs ys (i : Int) = some (xs.map f) := by
    intro e
    induction e with
    | zero =>
      intro k i ys he hk hi hl hy
      obtain ⟨k, rfl⟩ : ∃ m, k = m + 1 := ⟨k - 1, by omega⟩
      obtain rfl : i = xs.length := by omega
      rw [hend]
      congr 1
      apply List.ext_getElem?
      intro j
      by_cases h : j < xs.length
      · exact hy j h
      · rw [List.getElem?_eq_none (by omega), List.getElem?_eq_none (by rw [List.length_map]; omega)]
    | succ e ih =>
      intro k i ys he hk hi hl hy
      obtain ⟨k, rfl⟩ : ∃ m, k = m + 1 := ⟨k - 1, by omega⟩
      have hlt : i < xs.length := by omega
      rw [hstep k i ys hlt hl]
      refine ih k (i + 1) _ (by omega) (by omega) (by omega) (by rw [List.length_set, hl]) (fun j hj => ?_)
      rw [List.getElem?_set]
      by_cases h : i = j
      · subst h
        rw [if_pos rfl, if_pos (by omega), List.getElem?_map, List.getElem?_eq_getElem hlt, List.getD_eq_getElem?_getD, List.getElem?_eq_getElem hlt]
        rfl
      · rw [if_neg h]
        exact hy j (by omega)
  intro k ys hk hl
  exact key xs.length k 0 ys (by omega) hk (by omega) hl (fun j hj => by omega)
/-- A loop that goes on at each place. -/
theorem true_loop {β : Type} (l0 : Nat → Int → Option β) (n K : Nat) (r : β) (hstep : ∀ k i : Nat, i < n → K ≤ k → l0 (k + 1) (i : Int) = l0 k ((i + 1 : Nat) : Int)) (hend : ∀ k : Nat, K ≤ k → l0 (k + 1) (n : Int) = some r) :
    ∀ k, n + K < k → l0 k 0 = some r := by
  have key : ∀ (e k i : Nat), n - i = e → e + K < k → i ≤ n → l0 k (i : Int) = some r := by
    intro e
    induction e with
    | zero =>
      intro k i he hk hi
      obtain ⟨k, rfl⟩ : ∃ m, k = m + 1 := ⟨k - 1, by omega⟩
      obtain rfl : i = n := by omega
      exact hend k (by omega)
    | succ e ih =>
      intro k i he hk hi
      obtain ⟨k, rfl⟩ : ∃ m, k = m + 1 := ⟨k - 1, by omega⟩
      rw [hstep k i (by omega) (by omega)]
      exact ih k (i + 1) (by omega) (by omega) (by omega)
  intro k hk
  exact key n k 0 (by omega) (by omega) (by omega)
/-- A loop that leaves at the first place that isn't good. -/
theorem scan_loop {β : Type} (l0 : Nat → Int → Option β) (n K : Nat) (good : Nat → Bool) (bad fin : β)
    (hgood : ∀ k i : Nat, i < n → K ≤ k → (∀ j, j < i → good j = true) → good i = true → l0 (k + 1) (i : Int) = l0 k ((i + 1 : Nat) : Int))
    (hbad : ∀ k i : Nat, i < n → K ≤ k → (∀ j, j < i → good j = true) → good i = false → l0 (k + 1) (i : Int) = some bad)
    (hend : ∀ k : Nat, K ≤ k → l0 (k + 1) (n : Int) = some fin) :
    ∀ k, n + K < k → l0 k 0 = some (if (List.range n).all good then fin else bad) := by
  have key : ∀ (e k i : Nat), n - i = e → e + K < k → i ≤ n → (∀ j, j < i → good j = true) → l0 k (i : Int) = some (if (List.range n).all good then fin else bad) := by
    intro e
    induction e with
    | zero =>
      intro k i he hk hi hg
      obtain ⟨k, rfl⟩ : ∃ m, k = m + 1 := ⟨k - 1, by omega⟩
      obtain rfl : i = n := by omega
      rw [hend k (by omega), if_pos]
      rw [List.all_eq_true]
      exact fun x hx => hg x (List.mem_range.1 hx)
    | succ e ih =>
      intro k i he hk hi hg
      obtain ⟨k, rfl⟩ : ∃ m, k = m + 1 := ⟨k - 1, by omega⟩
      cases hc : good i with
      | true =>
        rw [hgood k i (by omega) (by omega) hg hc]
        refine ih k (i + 1) (by omega) (by omega) (by omega) (fun j hj => ?_)
        by_cases h : j = i
        · rw [h]; exact hc
        · exact hg j (by omega)
      | false =>
        rw [hbad k i (by omega) (by omega) hg hc, if_neg]
        rw [List.all_eq_true]
        intro h
        have := h i (List.mem_range.2 (by omega))
        rw [hc] at this
        exact absurd this (by simp)
  intro k hk
  exact key n k 0 (by omega) (by omega) (by omega) (fun j hj => by omega)
/-- Two loops that go on, or leave with the same answer, at each place. -/
theorem same_loop {β : Type} (l0 l1 : Nat → Int → Option β) (n K : Nat)
    (hs : ∀ i : Nat, i < n → (∀ k, K ≤ k → l0 (k + 1) (i : Int) = l0 k ((i + 1 : Nat) : Int) ∧ l1 (k + 1) (i : Int) = l1 k ((i + 1 : Nat) : Int)) ∨ ∃ r, ∀ k, K ≤ k → l0 (k + 1) (i : Int) = some r ∧ l1 (k + 1) (i : Int) = some r)
    (he : ∃ r, ∀ k : Nat, K ≤ k → l0 (k + 1) (n : Int) = some r ∧ l1 (k + 1) (n : Int) = some r) : ∃ r, ∀ k, n + K < k → l0 k 0 = some r ∧ l1 k 0 = some r := by
  have key : ∀ (e i : Nat), n - i = e → i ≤ n → ∃ r, ∀ k, e + K < k → l0 k (i : Int) = some r ∧ l1 k (i : Int) = some r := by
    intro e
    induction e with
    | zero =>
      intro i hi1 hi
      obtain rfl : i = n := by omega
      obtain ⟨r, hr⟩ := he
      refine ⟨r, fun k hk => ?_⟩
      obtain ⟨k, rfl⟩ : ∃ m, k = m + 1 := ⟨k - 1, by omega⟩
      exact hr k (by omega)
    | succ e ih =>
      intro i hi1 hi
      rcases hs i (by omega) with h | ⟨r, hr⟩
      · obtain ⟨r, hr⟩ := ih (i + 1) (by omega) (by omega)
        refine ⟨r, fun k hk => ?_⟩
        obtain ⟨k, rfl⟩ : ∃ m, k = m + 1 := ⟨k - 1, by omega⟩
        rw [(h k (by omega)).1, (h k (by omega)).2]
        exact hr k (by omega)
      · refine ⟨r, fun k hk => ?_⟩
        obtain ⟨k, rfl⟩ : ∃ m, k = m + 1 := ⟨k - 1, by omega⟩
        exact hr k (by omega)
  obtain ⟨r, hr⟩ := key n 0 (by omega) (by omega)
  exact ⟨r, fun k hk => hr k hk⟩
/-- A list of marks. -/
def marks {α : Type} (m : Int → α) (s v : Int) (n : Nat) : List α := (List.range n).map fun (j : Nat) => m (v + s * (j : Int))
theorem marks_length {α : Type} (m : Int → α) (s v : Int) (n : Nat) : (marks m s v n).length = n := by simp [marks]
theorem marks_get {α : Type} (m : Int → α) (s v : Int) (n i : Nat) (h : i < n) : (marks m s v n)[i]? = some (m (v + s * i)) := by
  simp [marks, h]
/-- A loop that writes marks. -/
theorem mark_loop {α : Type} (l0 : Nat → List α → Int → Int → Option (Int × List α)) (m : Int → α) (s : Int) (hs : 0 ≤ s)
    (hstep : ∀ (k i : Nat) (xs : List α) (v : Int), i < xs.length → xs.length ≤ 35184372088832 → 1 ≤ v → v ≤ 1000000000000000000 → l0 (k + 1) xs v (i : Int) = l0 k (xs.set i (m v)) (v + s) ((i + 1 : Nat) : Int))
    (hend : ∀ (k : Nat) (xs : List α) (v : Int), l0 (k + 1) xs v (xs.length : Int) = some (v, xs)) (xs : List α) (hx : xs.length ≤ 35184372088832) (v : Int) (hv : 1 ≤ v) (hb : v + s * xs.length ≤ 1000000000000000000) :
    ∀ k, xs.length < k → l0 k xs v 0 = some (v + s * xs.length, marks m s v xs.length) := by
  have key : ∀ (e k i : Nat) (ys : List α), xs.length - i = e → e < k → i ≤ xs.length → ys.length = xs.length → (∀ j, j < i → ys[j]? = (marks m s v xs.length)[j]?) →
      l0 k ys (v + s * i) (i : Int) = some (v + s * xs.length, marks m s v xs.length) := by
    intro e
    induction e with
    | zero =>
      intro k i ys he hk hi hl hy
      obtain ⟨k, rfl⟩ : ∃ m, k = m + 1 := ⟨k - 1, by omega⟩
      obtain rfl : i = xs.length := by omega
      have h1 := hend k ys (v + s * (xs.length : Int))
      rw [hl] at h1
      rw [h1]
      congr 2
      apply List.ext_getElem?
      intro j
      by_cases h : j < xs.length
      · exact hy j h
      · rw [List.getElem?_eq_none (by omega), List.getElem?_eq_none (by rw [marks_length]; omega)]
    | succ e ih =>
      intro k i ys he hk hi hl hy
      obtain ⟨k, rfl⟩ : ∃ m, k = m + 1 := ⟨k - 1, by omega⟩
      have hlt : i < xs.length := by omega
      have h1 : s * (i : Int) ≤ s * (xs.length : Int) := Int.mul_le_mul_of_nonneg_left (by omega) hs
      have h2 : 0 ≤ s * (i : Int) := Int.mul_nonneg hs (by omega)
      rw [hstep k i ys (v + s * i) (by omega) (by omega) (by omega) (by omega), show v + s * (i : Int) + s = v + s * ((i + 1 : Nat) : Int) by rw [show ((i + 1 : Nat) : Int) = (i : Int) + 1 by omega, Int.mul_add]; omega]
      refine ih k (i + 1) _ (by omega) (by omega) (by omega) (by rw [List.length_set, hl]) (fun j hj => ?_)
      rw [List.getElem?_set]
      by_cases h : i = j
      · subst h
        rw [if_pos rfl, if_pos (by omega), marks_get _ _ _ _ _ hlt]
      · rw [if_neg h]
        exact hy j (by omega)
  intro k hk
  have := key xs.length k 0 xs (by omega) hk (by omega) rfl (fun j hj => by omega)
  rwa [show v + s * ((0 : Nat) : Int) = v by simp] at this
/-- A loop that reads marks. -/
theorem held_loop {α : Type} (l0 : Nat → List α → Int → Int → Option Int) (m : Int → α) (s : Int) (hs : 0 ≤ s)
    (hstep : ∀ (k i : Nat) (xs : List α) (v : Int), i < xs.length → xs.length ≤ 35184372088832 → 1 ≤ v → v ≤ 1000000000000000000 → xs[i]? = some (m v) → l0 (k + 1) xs v (i : Int) = l0 k xs (v + s) ((i + 1 : Nat) : Int))
    (hend : ∀ (k : Nat) (xs : List α) (v : Int), l0 (k + 1) xs v (xs.length : Int) = some v) (n : Nat) (hx : n ≤ 35184372088832) (v : Int) (hv : 1 ≤ v) (hb : v + s * n ≤ 1000000000000000000) :
    ∀ k, n < k → l0 k (marks m s v n) v 0 = some (v + s * n) := by
  have key : ∀ (e k i : Nat), n - i = e → e < k → i ≤ n → l0 k (marks m s v n) (v + s * i) (i : Int) = some (v + s * n) := by
    intro e
    induction e with
    | zero =>
      intro k i he hk hi
      obtain ⟨k, rfl⟩ : ∃ m, k = m + 1 := ⟨k - 1, by omega⟩
      obtain rfl : i = n := by omega
      have h1 := hend k (marks m s v i) (v + s * (i : Int))
      rw [marks_length] at h1
      exact h1
    | succ e ih =>
      intro k i he hk hi
      obtain ⟨k, rfl⟩ : ∃ m, k = m + 1 := ⟨k - 1, by omega⟩
      have hlt : i < n := by omega
      have h1 : s * (i : Int) ≤ s * (n : Int) := Int.mul_le_mul_of_nonneg_left (by omega) hs
      have h2 : 0 ≤ s * (i : Int) := Int.mul_nonneg hs (by omega)
      rw [hstep k i (marks m s v n) (v + s * i) (by rw [marks_length]; exact hlt) (by rw [marks_length]; exact hx) (by omega) (by omega) (marks_get _ _ _ _ _ hlt), show v + s * (i : Int) + s = v + s * ((i + 1 : Nat) : Int) by rw [show ((i + 1 : Nat) : Int) = (i : Int) + 1 by omega, Int.mul_add]; omega]
      exact ih k (i + 1) (by omega) (by omega) (by omega)
  intro k hk
  have := key n k 0 (by omega) hk (by omega)
  rwa [show v + s * ((0 : Nat) : Int) = v by simp] at this
end Go.Proofs.Ytnkaccacippbfaa.Pure

/- What the functions of address blocks compute, in plain words: sizes, validity, last addresses, membership. Conditions: those in each statement. -/
namespace Go.Proofs.Ytnkaccacippbfaa.Pure
open Go.RowKit Go.Proofs.Ytnkaccacippbfaa.Q Go.Proofs.YtnkaccacippbfaaW.PrintWords Go.Proofs.YtnkaccacippbfaaW.PrintLast Go.Proofs.YtnkaccacippbfaaW.PrintMore
/-- How many addresses a block of b bits has. -/
def sz (b : Int) : Int := 2 ^ (32 - b).toNat
theorem sz_pos (b : Int) : 0 < sz b := Int.pow_pos (by omega)
theorem sz_le {b : Int} (h : 0 ≤ b) : sz b ≤ 4294967296 := by
  have h1 : (32 - b).toNat ≤ 32 := by omega
  have h2 : (2 : Nat) ^ (32 - b).toNat ≤ 2 ^ 32 := Nat.pow_le_pow_right (by omega) h1
  have h3 : ((2 : Nat) ^ (32 - b).toNat : Nat) ≤ 4294967296 := by simpa using h2
  unfold sz
  have h4 : ((2 ^ (32 - b).toNat : Nat) : Int) = (2 : Int) ^ (32 - b).toNat := by norm_cast
  omega
theorem in_spec (a lo hi : Int) : spec_l1In.f a lo hi = some (decide (lo ≤ a ∧ a ≤ hi)) := by
  unfold spec_l1In.f
  by_cases h : a ≥ lo
  · rw [if_pos h]; simp [show lo ≤ a from h]
  · rw [if_neg h]; simp [show ¬ lo ≤ a from h]
theorem in_impl (a lo hi : Int) : impl_in.f a lo hi = some (decide (lo ≤ a ∧ a ≤ hi)) := by
  unfold impl_in.f
  by_cases h : a ≥ lo
  · rw [if_pos h]; simp [show lo ≤ a from h]
  · rw [if_neg h]; simp [show ¬ lo ≤ a from h]
/-- A block is valid. -/
def bok (a b : Int) : Bool := decide (0 ≤ a ∧ a ≤ 4294967295 ∧ 0 ≤ b ∧ b ≤ 32 ∧ a % sz b = 0)
theorem bok_iff {a b : Int} : bok a b = true ↔ 0 ≤ a ∧ a ≤ 4294967295 ∧ 0 ≤ b ∧ b ≤ 32 ∧ a % sz b = 0 := by
  unfold bok
  rw [decide_eq_true_iff]
theorem tmod_of {a b : Int} (h : 0 ≤ a) : Int.tmod a (sz b) = a % sz b := Int.tmod_eq_emod_of_nonneg h
/-- A valid block lies in another one. -/
def bin (a b c d : Int) : Bool := bok a b && (bok c d && (decide (b ≤ d) && decide (a ≤ c ∧ c ≤ a + sz b - 1)))
end Go.Proofs.Ytnkaccacippbfaa.Pure

/- Numbers read out of a few bytes, most significant first: the program's way and the reference's. Conditions: those in each statement. -/
namespace Go.Proofs.Ytnkaccacippbfaa.Pure
set_option linter.unusedSimpArgs false
open Go.RowKit Go.Proofs.Ytnkaccacippbfaa.Q Go.Proofs.YtnkaccacippbfaaW.PrintWords Go.Proofs.YtnkaccacippbfaaW.PrintLast Go.Proofs.YtnkaccacippbfaaW.PrintMore
theorem bt_getD (s : ByteArray) (i : Nat) : bt s (i : Int) = ((s.data.toList.getD i 0).toNat : Int) := by
  rw [← rd_bytesOf]
  show (bytesOf s).getD i 0 = _
  unfold bytesOf
  rw [List.getD_eq_getElem?_getD, List.getElem?_map, List.getD_eq_getElem?_getD]
  cases s.data.toList[i]? with
  | none => rfl
  | some b => rfl
theorem or_byte {x b : Int} (h0 : 0 ≤ x) (h1 : x < 1152921504606846976) (hx : x % 256 = 0) (b0 : 0 ≤ b) (b1 : b ≤ 255) : Go.bits .or .i64 x b = x + b :=
  bits_join .i64 60 (by decide) (fun n g0 g1 => by rw [IntKind.wrap_i64]; omega) 8 x b h0 (by omega) (by omega) b0 (by omega) (by omega)
theorem p256 : ∀ i : Nat, i < 7 → (256 : Int) ^ i ≤ 281474976710656 := by decide
theorem num_step (s : ByteArray) (hs : s.size ≤ 6) : ∀ i : Nat, i ≤ s.size → 0 ≤ impl_numberOf.g (s.data.toList.take i) ∧ impl_numberOf.g (s.data.toList.take i) < 256 ^ i ∧ (i < s.size → impl_numberOf.g (s.data.toList.take (i + 1)) = impl_numberOf.g (s.data.toList.take i) * 256 + bt s i) := by
  have step : ∀ i : Nat, i < s.size → 0 ≤ impl_numberOf.g (s.data.toList.take i) → impl_numberOf.g (s.data.toList.take i) < 256 ^ i → impl_numberOf.g (s.data.toList.take (i + 1)) = impl_numberOf.g (s.data.toList.take i) * 256 + bt s i := by
    intro i hi h0 h1
    have hp := p256 i (by omega)
    have hb := bt_range s (i : Int)
    rw [impl_numberOf.take_snoc s i hi, impl_numberOf.g_snoc, ← bt_getD, w64 (by omega) (by omega)]
    exact or_byte (by omega) (by omega) (by omega) hb.1 hb.2
  intro i
  induction i with
  | zero =>
    intro _
    have e : impl_numberOf.g (s.data.toList.take 0) = 0 := by rw [List.take_zero]; rfl
    have h0 : 0 ≤ impl_numberOf.g (s.data.toList.take 0) := by rw [e]; decide
    have h1 : impl_numberOf.g (s.data.toList.take 0) < 256 ^ 0 := by rw [e]; decide
    exact ⟨h0, h1, fun h => step 0 h h0 h1⟩
  | succ i ih =>
    intro hi
    obtain ⟨h0, h1, h2⟩ := ih (by omega)
    have e := h2 (by omega)
    have hb := bt_range s (i : Int)
    have h0' : 0 ≤ impl_numberOf.g (s.data.toList.take (i + 1)) := by rw [e]; omega
    have h1' : impl_numberOf.g (s.data.toList.take (i + 1)) < 256 ^ (i + 1) := by rw [e, Int.pow_succ]; omega
    exact ⟨h0', h1', fun h => step (i + 1) h h0' h1'⟩
theorem num_spec {s : ByteArray} (hs : s.size ≤ 6) {k : Nat} (hk : 10 ≤ k) : spec_l8Num.f k s = some (impl_numberOf.g s.data.toList) := by
  have key : ∀ (e i : Nat), s.size - i = e → i ≤ s.size → ∀ k, e + 1 ≤ k → spec_l8Num.l0 k s (impl_numberOf.g (s.data.toList.take i)) (i : Int) = some (impl_numberOf.g s.data.toList) := by
    intro e
    induction e with
    | zero =>
      intro i he hi k hk
      obtain ⟨k, rfl⟩ : ∃ m, k = m + 1 := ⟨k - 1, by omega⟩
      simp only [spec_l8Num.l0]
      rw [if_neg (by omega), List.take_of_length_le (by rw [data_length]; omega)]
    | succ e ih =>
      intro i he hi k hk
      obtain ⟨k, rfl⟩ : ∃ m, k = m + 1 := ⟨k - 1, by omega⟩
      obtain ⟨h0, h1, h2⟩ := num_step s hs i hi
      have e' := h2 (by omega)
      have hb := bt_range s (i : Int)
      have hp := p256 i (by omega)
      have := ih (i + 1) (by omega) (by omega) k (by omega)
      rw [e'] at this
      simp only [spec_l8Num.l0]
      rw [if_pos (by omega), if_pos (by omega), w64 (x := bt s i) (by omega) (by omega), w64 (x := impl_numberOf.g (s.data.toList.take i) * 256) (by omega) (by omega), w64 (x := impl_numberOf.g (s.data.toList.take i) * 256 + bt s i) (by omega) (by omega), w64 (x := (i : Int) + 1) (by omega) (by omega)]
      exact this
  have := key s.size 0 (by omega) (by omega) k (by omega)
  rw [List.take_zero] at this
  exact this
theorem num_impl {s : ByteArray} (hs : s.size ≤ 6) : impl_numberOf.f s = some (impl_numberOf.g s.data.toList) := by
  unfold impl_numberOf.f
  rw [if_pos (by omega)]
end Go.Proofs.Ytnkaccacippbfaa.Pure

/- The pure law behind FnExactFrameHead. No condition beyond the ranges of the lengths. -/
namespace Go.Proofs.Ytnkaccacippbfaa.Pure
set_option linter.unusedSimpArgs false
open Go.RowKit Go.Proofs.Ytnkaccacippbfaa.Q Go.Proofs.Ytnkaccacippbfaa.Open Go.Proofs.YtnkaccacippbfaaW.PrintWords Go.Proofs.YtnkaccacippbfaaW.PrintLast Go.Proofs.YtnkaccacippbfaaW.PrintMore
theorem extract_size (s : ByteArray) (i j : Nat) : (s.extract i j).size = min j s.size - i := ByteArray.size_extract
theorem head_same (s : ByteArray) (h8 : 8 ≤ s.size) (x : Bool) {k : Nat} (hk : 20 ≤ k) : spec_FrameHead.j0 k s x = impl_FrameHead.j0 k s x ∧ ∃ r, impl_FrameHead.j0 k s x = some r := by
  obtain ⟨k, rfl⟩ : ∃ m, k = m + 1 := ⟨k - 1, by omega⟩
  simp only [spec_FrameHead.j0, impl_FrameHead.j0]
  cases x with
  | true => simp
  | false =>
    have e1 : (s.extract 0 4).size ≤ 6 := by rw [extract_size]; omega
    have e2 : (s.extract 4 8).size ≤ 6 := by rw [extract_size]; omega
    rw [if_neg (show ¬ (false = true) by simp), if_neg (show ¬ (false = true) by simp), if_pos (by omega), if_pos (by omega), if_pos (by omega), if_pos (by omega), num_spec e1 (by omega), num_impl e1, num_spec e2 (by omega), num_impl e2]
    simp only [Option.bind_some]
    rw [if_pos (by omega), if_pos (by omega), if_pos (by omega), if_pos (by omega)]
    simp only [in_spec, in_impl, Option.bind_some]
    refine ⟨by first | trivial | rfl, ?_⟩
    repeat' split
    all_goals exact ⟨_, rfl⟩
theorem FnExactFrameHead : laws_FnExactFrameHead.Pure := by
  intro s _
  refine ⟨40, ?_⟩
  unfold laws_FnExactFrameHead.f
  by_cases h : (s.size : Int) > 1048576
  · rw [if_pos h]
  rw [if_neg h]
  have e : spec_FrameHead.f 40 s = impl_FrameHead.f 40 s ∧ ∃ r, impl_FrameHead.f 40 s = some r := by
    unfold spec_FrameHead.f impl_FrameHead.f
    rw [in_spec, in_impl, Option.bind_some, Option.bind_some]
    by_cases h2 : (56 : Int) ≤ (s.size : Int) ∧ (s.size : Int) ≤ 140
    · rw [if_pos (decide_eq_true h2), if_pos (decide_eq_true h2)]
      exact head_same s (by omega) _ (by omega)
    · rw [if_neg (by simpa using h2), if_neg (by simpa using h2)]
      have j : spec_FrameHead.j0 40 s true = some (0, 0, false) := by simp only [spec_FrameHead.j0, if_true]
      have j' : impl_FrameHead.j0 40 s true = some (0, 0, false) := by simp only [impl_FrameHead.j0, if_true]
      rw [j, j']
      exact ⟨rfl, _, rfl⟩
  obtain ⟨e1, r, e2⟩ := e
  rw [e1, e2, Option.bind_some, Option.bind_some, if_pos rfl, if_pos rfl, if_neg (by simp)]
end Go.Proofs.Ytnkaccacippbfaa.Pure

/- The law FnExactFrameHead answers true for every input, and its arguments read afterwards as before. No condition beyond the row's own. -/
namespace Go.Proofs.Ytnkaccacippbfaa.fnExactFrameHead
open Go.ChangeShapes Go.WideShapes Go.ChangeAt Go.RowKit Go.Proofs.YtnkaccacippbfaaW.PrintWords Go.Proofs.Ytnkaccacippbfaa.Open Go.Proofs.Ytnkaccacippbfaa.Q
open Go.ChangeMaps (open_string shut_string)
set_option linter.unusedVariables false
theorem own : ownKnob Try.prog.godebug = none := by kernel_rfl
theorem laidOut : laidOutB Try.prog = true := by kernel_rfl
set_option maxRecDepth 100000 in
theorem lifted (os : Os) (started : os.Started) (H : Type) (enc : TypeId × Value → H) :
    ReturnsInHanded {} Try.checked os 8 .any (Rows.fnExactFrameHeadSpec.pre6 enc Try.prog Try.f8 Rows.fnExactFrameHeadRow.domain false) (Rows.fnExactFrameHeadSpec.post enc Try.prog Try.f8 false true false false) := by
  refine returnsInHanded_of_change_sized (C := Try.checked) own started (by kernel_rfl) Try.func8
    (ChangeSpec.witness6 (enc := enc) (C := Try.checked) false ⟨#[], #[.string ByteArray.empty], []⟩ 8 (by kernel_rfl) (by kernel_rfl) (by kernel_rfl) (by kernel_rfl)) ?_
  intro W base args ds gs before hval0 hW hcnd hsz0 _
  have hval : ∀ (j : Nat) t v, Try.f8.params[j]? = some t → args[j]? = some v → Value.okWide Try.prog W .any base t v := hval0
  have hW' := hW
  obtain ⟨p, q, hA0, hV, rfl, hfz, hnd⟩ := hW
  have hA : DataW.TrodAll enc Try.prog W 0 (fun _ => true) true Try.f8.params.toList args.toList ds p := hA0
  rw [Try.params8] at hA hval
  obtain ⟨v0, vs0, d0, ds0, p0, q0, hargs, rfl, rfl, h0, r0⟩ := trodAll_cons hA
  obtain ⟨rfl, rfl, rfl⟩ := trodAll_nil r0
  obtain rfl : args = #[v0] := by cases args; simp_all
  obtain ⟨rfl, rfl⟩ := trodVars_none hV
  have lt0 : ∀ x ∈ p0, x.block < W.heap.size := by obtain ⟨m, hm⟩ := h0; exact DataW.trod_lt m _ _ _ hm
  have k0 := h0
  obtain ⟨x0, K0, w0⟩ := open_arg (op9 W) h0
  obtain rfl := string_of_cells (okWide_string Try.underlying9 (hval 0 9 v0 rfl rfl)) K0
  obtain ⟨k, hp⟩ := Pure.FnExactFrameHead x0 w0
  refine (laws_FnExactFrameHead.calls k x0 true W  hp).mono ?_
  rintro e W' ⟨rfl, bel0⟩
  have bel : Below W.heap.size W W' := bel0
  exact ⟨_, rfl, _, _, _, [], _, [], hW', trodAll_mk1 (shut_bool Try.underlying4 _), (trodAll_cons_mk (Below.trod laidOut (by kernel_rfl) (of_decide_eq_true (by kernel_rfl)) k0 bel lt0) trodAll_mk0), rfl, bel.frame _, fun h => by cases h⟩
theorem over : Rows.fnExactFrameHeadRow.holds Try.pinned (OpenSpec.ofChange Rows.fnExactFrameHeadSpec) :=
  OpenClaim.holds_of_wide 8 Try.f8 rfl rfl rfl rfl rfl rfl rfl ⟨rfl, rfl, rfl, rfl, rfl⟩ rfl rfl rfl rfl rfl (by kernel_rfl) Try.func8 (by kernel_rfl)
    (of_decide_eq_true (by kernel_rfl)) (by unfold Func.isWrapper; first | (rw [if_pos (by decide +kernel)]; kernel_rfl) | (rw [if_neg (by decide +kernel)]; exact ⟨rfl, rfl⟩))
    (fun os started H enc _ => lifted os started H enc)
theorem proved : Rows.FnExactFrameHeadSaid := over
#print axioms proved
end Go.Proofs.Ytnkaccacippbfaa.fnExactFrameHead
namespace Go.Proofs.Ytnkaccacippbfaa
/-- The row, under a short name, for the claim. -/
theorem fnExactFrameHead_holds : Rows.FnExactFrameHeadSaid := fnExactFrameHead.proved
end Go.Proofs.Ytnkaccacippbfaa
