/- The law FnRulesText (part 3 of 7): for every input the call answers true and its arguments read afterwards as before. No condition beyond the row's own. -/
import Derived.Shelf.Strings.Builder1
import Derived.Shelf.Strings.Builder2
import Derived.Shelf.Strings.OnBuilder
import Derived.Shelf.Small.Strs
import Derived.Shelf.Strings.BuilderF
import Derived.Shelf.Strings.BuilderK
import Derived.Shelf.Utf8.RuneCount
import Derived.Shelf.Strings.Builder2Cap
import Derived.Shelf.Strconv.Atoi
import Derived.Shelf.Strconv.Itoa0
import Derived.Shelf.Strconv.Itoa1
import Derived.Shelf.LaysM
import Derived.Shelf.Strconv.Itoa2
import Derived.Shelf.Strconv.Itoa3
import Derived.Shelf.Strconv.AtoiErrFast
import Derived.Shelf.Strconv.ParseIntEmpty
import Derived.Shelf.Strconv.AtoiFail
import Derived.Shelf.Strconv.Clone
import Derived.Shelf.Strconv.SyntaxError
import Derived.Shelf.LaysC
import Derived.Shelf.Strconv.ToError
import Derived.Shelf.Strconv.AtoiErr
import Derived.Shelf.Strconv.ErrVar
import Derived.Shelf.Strconv.Lower
import Derived.Shelf.Strconv.ParseUint10
import Derived.Shelf.Strconv.ParseUint10Empty
import Derived.Shelf.Strconv.ParseUint10Any
import Derived.Shelf.Strconv.ParseInt10
import Derived.Shelf.Strconv.AtoiLong
import Derived.Shelf.Strconv.AtoiInnerAll
import Derived.Shelf.Strconv.RangeError
import Derived.Shelf.Strconv.ToErrorRange
import Derived.Shelf.Strconv.AtoiAll
import Derived.Shelf.Strconv.ErrVarAll
import Derived.Shelf.Strconv.ParseUintEmpty
import Derived.Shelf.Strconv.ParseUint10b64
import Derived.Shelf.Strconv.ParseUint10b32
import Derived.Shelf.Strconv.ParseUint10b16
import Derived.Shelf.Strconv.ParseUint10b8
import Derived.Shelf.Strconv.ParseUint10At
import Derived.Shelf.Strconv.ParseInt10At64
import Derived.Shelf.Strconv.ParseInt10At32
import Derived.Shelf.Strconv.ParseInt10At16
import Derived.Shelf.Strconv.ParseInt10At8
import Derived.Shelf.Strconv.ParseInt10All
import Derived.Shelf.Strings.Search1
import Derived.Shelf.Strings.Search2
import Derived.Shelf.Strings.Search3
import Derived.Shelf.Strings.Cut
import Derived.Shelf.Strings.Count
import Derived.Shelf.Strings.Shaped
import Derived.Shelf.Strings.Prefix
import Derived.Shelf.Strings.Split
import Derived.Shelf.Strings.SplitShaped
import Derived.Shelf.Unicode.Decode
import Derived.Shelf.Strings.RuneCount
import Derived.Shelf.Strings.Explode
import Derived.Shelf.Unicode.DecodeSlow
import Derived.Shelf.Unicode.DecodeAny
import Derived.Shelf.Strings.BuilderCap
import Derived.Test.YtgbdnbbfgcogjaaGreatDoorProg
import Derived.Lib.LaidTab
import Derived.Lib.ItoaNum
import Derived.RowKit
import Derived.Below
import Derived.Test.YtgbdnbbfgcogjaaGreatDoorCFnRulesText2
namespace Go.Proofs.YtgbdnbbfgcogjaaGreatDoor.Q
open Go.RowKit Go.Proofs.YtgbdnbbfgcogjaaGreatDoorW.PrintWords Go.Proofs.YtgbdnbbfgcogjaaGreatDoorW.PrintLast Go.Proofs.YtgbdnbbfgcogjaaGreatDoorW.PrintMore
attribute [local go_sem] d7z d5z d9z d8z c8z c7z d6z d4z
set_option linter.unusedVariables false
set_option linter.unusedSimpArgs false
def spec_l4Put.l0 : Nat → List (S39) → ByteArray → Int → Option (ByteArray)
 | 0,_,_,_ => none
 | k + 1,x0,x3,x4 => if x4 < (x0.length : Int) then (if 0 ≤ x4 then ((spec_l4Word.f k ((a6z x0 x4).f0) ((a6z x0 x4).f1) ((a6z x0 x4).f2.f0) ((a6z x0 x4).f2.f1) ((a6z x0 x4).f3.f0) ((a6z x0 x4).f3.f1) ((a6z x0 x4).f4) ((a6z x0 x4).f5)).bind fun t103 => (if x3.size + t103.size ≤ 9223372036854775807 then (if (x3 ++ t103).size + 1 ≤ 9223372036854775807 then ((spec_l1Block.f k ((a6z x0 x4).f2.f0) ((a6z x0 x4).f2.f1)).bind fun t104 => (if ((x3 ++ t103) ++ (⟨#[32]⟩ : ByteArray)).size + t104.size ≤ 9223372036854775807 then (if (((x3 ++ t103) ++ (⟨#[32]⟩ : ByteArray)) ++ t104).size + 1 ≤ 9223372036854775807 then ((spec_l1Block.f k ((a6z x0 x4).f3.f0) ((a6z x0 x4).f3.f1)).bind fun t105 => (if ((((x3 ++ t103) ++ (⟨#[32]⟩ : ByteArray)) ++ t104) ++ (⟨#[32]⟩ : ByteArray)).size + t105.size ≤ 9223372036854775807 then (if (((((x3 ++ t103) ++ (⟨#[32]⟩ : ByteArray)) ++ t104) ++ (⟨#[32]⟩ : ByteArray)) ++ t105).size + 1 ≤ 9223372036854775807 then ((spec_l1Dec.f k ((a6z x0 x4).f4)).bind fun t106 => (if ((((((x3 ++ t103) ++ (⟨#[32]⟩ : ByteArray)) ++ t104) ++ (⟨#[32]⟩ : ByteArray)) ++ t105) ++ (⟨#[32]⟩ : ByteArray)).size + t106.size ≤ 9223372036854775807 then (if (((((((x3 ++ t103) ++ (⟨#[32]⟩ : ByteArray)) ++ t104) ++ (⟨#[32]⟩ : ByteArray)) ++ t105) ++ (⟨#[32]⟩ : ByteArray)) ++ t106).size + 1 ≤ 9223372036854775807 then ((spec_l1Dec.f k ((a6z x0 x4).f5)).bind fun t107 => (if ((((((((x3 ++ t103) ++ (⟨#[32]⟩ : ByteArray)) ++ t104) ++ (⟨#[32]⟩ : ByteArray)) ++ t105) ++ (⟨#[32]⟩ : ByteArray)) ++ t106) ++ (⟨#[45]⟩ : ByteArray)).size + t107.size ≤ 9223372036854775807 then (if (((((((((x3 ++ t103) ++ (⟨#[32]⟩ : ByteArray)) ++ t104) ++ (⟨#[32]⟩ : ByteArray)) ++ t105) ++ (⟨#[32]⟩ : ByteArray)) ++ t106) ++ (⟨#[45]⟩ : ByteArray)) ++ t107).size + 1 ≤ 9223372036854775807 then (spec_l4Put.l0 k x0 ((((((((((x3 ++ t103) ++ (⟨#[32]⟩ : ByteArray)) ++ t104) ++ (⟨#[32]⟩ : ByteArray)) ++ t105) ++ (⟨#[32]⟩ : ByteArray)) ++ t106) ++ (⟨#[45]⟩ : ByteArray)) ++ t107) ++ (⟨#[10]⟩ : ByteArray)) (wrap64 (x4 + 1))) else (none)) else (none))) else (none)) else (none))) else (none)) else (none))) else (none)) else (none))) else (none)) else (none))) else (none)) else (some x3)
def spec_l4Put.f (k : Nat) (l0 : List (S39)) : Option (ByteArray):=spec_l4Put.l0 k l0 (⟨#[]⟩ : ByteArray) 0
def spec_l4Put.T6 : Bool × List (List Nat × List Nat):=(true,[([],[]),([],[]),([1],[1]),([0,2],[0,2]),([3],[3]),([],[]),([5],[5]),([6,2],[6]),([4,7],[4,7]),([8],[8]),([],[]),([10],[10]),([11,7],[11]),([9,12],[9,12]),([13],[13]),([],[]),([15],[15]),([16,12],[16]),([14,17],[14,17]),([18],[18]),([],[]),([20],[20]),([21,17],[21]),([19,22],[19,22]),([23],[23]),([24,22,0,1,2,3,4,5,6,7,8,9,10,11,12,13,14,15,16,17,18,19,20,21,22,23,24],[0,24])])
def spec_l4Put.B6 : List Nat:=[0,0,2,7,15,0,32,102,255,511,0,1024,3302,8191,16383,0,32768,105702,262143,524287,0,1048576,3382502,8388607,16777215,33554431]
theorem spec_l4Put.tab6 : rtab .any (opsOf Tryz.f18 6) = spec_l4Put.T6:=by kernel_rfl
theorem spec_l4Put.bits6 : waitsOk spec_l4Put.T6.2 spec_l4Put.B6 = true:=by kernel_rfl
set_option maxHeartbeats 8000000 in
set_option maxRecDepth 100000 in
theorem spec_l4Put.calls (k : Nat) (A0 : Option Addr) (c0 : Nat) (l0 : List (S39)) (r : ByteArray) (w : World) (hr0 : Kd.C k39 w A0 l0.length l0) (hc0 : l0.length ≤ c0) (h : spec_l4Put.f k l0 = some r) :
  Calls Tryz.prog 18 #[.slice A0 l0.length c0] w fun e w' => e = .returned (.string r) ∧ Below w.heap.size w w':=by
 have hu39:=Tryz.underlying39
 have hu37:=Tryz.underlying37
 have HR0:=a1z.mk hr0
 have HC0:=a1z.mk hc0
 clear hr0 hc0
 have HB:=a1z.mk (Below.refl w.heap.size w)
 have H : (spec_l4Put.l0 k l0 (⟨#[]⟩ : ByteArray) 0) = some r:=h
 clear h
 have H':=a1z.mk H
 clear H
 go_enter Tryz.func18,Tryz.ntmps18
 go_wp2
 go_loopg [3,4] k (fun kq v3 v4 w' => ∃ (x3_1 : ByteArray) (x4_1 : Int),v3 = .string x3_1 ∧ v4 = .int .i64 x4_1 ∧ a1z (spec_l4Put.l0 kq l0 x3_1 x4_1 = some r) ∧ a1z (kq ≤ k) ∧ a1z (Below w.heap.size w w'))
 case atStart => exact ⟨((⟨#[]⟩ : ByteArray)),(0),(by first|rfl|(simp;done)|(simp [*];done)),(by first|rfl|(simp;done)|(simp [*];done)),H',⟨Nat.le_refl _⟩,⟨by repeat (first|(with_reducible first|exact HB.1|apply a3z|apply a0z|apply a2z)|exact HB.1)⟩⟩
 case round =>
  clear H'
  try clear c1
  obtain ⟨x3_1,x4_1,rfl,rfl,HA,HK1,HB⟩:=hrel
  cases gk with
  | zero => exact absurd HA.1 (by simp [spec_l4Put.l0])
  | succ k1 =>
   have H:=HA.1
   clear HA
   simp only [spec_l4Put.l0] at H
   by_cases c2 : x4_1 < (l0.length : Int)
   ·rw [if_pos c2] at H
    have c2b0 : decide (x4_1 < (l0.length : Int)) = true:=decide_eq_true c2
    clear c2
    by_cases c3 : 0 ≤ x4_1
    ·rw [if_pos c3] at H
     have c3b0 : decide (0 ≤ x4_1) = true:=decide_eq_true c3
     clear c3
     replace H:=Option.bind_eq_some_iff.mp H
     obtain ⟨t103,A40,H⟩:=H
     replace H : (if x3_1.size + t103.size ≤ 9223372036854775807 then (if (x3_1 ++ t103).size + 1 ≤ 9223372036854775807 then ((spec_l1Block.f k1 ((a6z l0 x4_1).f2.f0) ((a6z l0 x4_1).f2.f1)).bind fun t104 => (if ((x3_1 ++ t103) ++ (⟨#[32]⟩ : ByteArray)).size + t104.size ≤ 9223372036854775807 then (if (((x3_1 ++ t103) ++ (⟨#[32]⟩ : ByteArray)) ++ t104).size + 1 ≤ 9223372036854775807 then ((spec_l1Block.f k1 ((a6z l0 x4_1).f3.f0) ((a6z l0 x4_1).f3.f1)).bind fun t105 => (if ((((x3_1 ++ t103) ++ (⟨#[32]⟩ : ByteArray)) ++ t104) ++ (⟨#[32]⟩ : ByteArray)).size + t105.size ≤ 9223372036854775807 then (if (((((x3_1 ++ t103) ++ (⟨#[32]⟩ : ByteArray)) ++ t104) ++ (⟨#[32]⟩ : ByteArray)) ++ t105).size + 1 ≤ 9223372036854775807 then ((spec_l1Dec.f k1 ((a6z l0 x4_1).f4)).bind fun t106 => (if ((((((x3_1 ++ t103) ++ (⟨#[32]⟩ : ByteArray)) ++ t104) ++ (⟨#[32]⟩ : ByteArray)) ++ t105) ++ (⟨#[32]⟩ : ByteArray)).size + t106.size ≤ 9223372036854775807 then (if (((((((x3_1 ++ t103) ++ (⟨#[32]⟩ : ByteArray)) ++ t104) ++ (⟨#[32]⟩ : ByteArray)) ++ t105) ++ (⟨#[32]⟩ : ByteArray)) ++ t106).size + 1 ≤ 9223372036854775807 then ((spec_l1Dec.f k1 ((a6z l0 x4_1).f5)).bind fun t107 => (if ((((((((x3_1 ++ t103) ++ (⟨#[32]⟩ : ByteArray)) ++ t104) ++ (⟨#[32]⟩ : ByteArray)) ++ t105) ++ (⟨#[32]⟩ : ByteArray)) ++ t106) ++ (⟨#[45]⟩ : ByteArray)).size + t107.size ≤ 9223372036854775807 then (if (((((((((x3_1 ++ t103) ++ (⟨#[32]⟩ : ByteArray)) ++ t104) ++ (⟨#[32]⟩ : ByteArray)) ++ t105) ++ (⟨#[32]⟩ : ByteArray)) ++ t106) ++ (⟨#[45]⟩ : ByteArray)) ++ t107).size + 1 ≤ 9223372036854775807 then (spec_l4Put.l0 k1 l0 ((((((((((x3_1 ++ t103) ++ (⟨#[32]⟩ : ByteArray)) ++ t104) ++ (⟨#[32]⟩ : ByteArray)) ++ t105) ++ (⟨#[32]⟩ : ByteArray)) ++ t106) ++ (⟨#[45]⟩ : ByteArray)) ++ t107) ++ (⟨#[10]⟩ : ByteArray)) (wrap64 (x4_1 + 1))) else (none)) else (none))) else (none)) else (none))) else (none)) else (none))) else (none)) else (none))) else (none)) else (none)) = some r:=H
     have A4:=a1z.mk A40
     clear A40
     by_cases c5 : x3_1.size + t103.size ≤ 9223372036854775807
     ·rw [if_pos c5] at H
      have c5b0:=eq_true c5
      have c5b1 : decide (x3_1.size + t103.size ≤ 9223372036854775807) = true:=decide_eq_true c5
      (try (have c5b3 : (9223372036854775807 < x3_1.size + t103.size) = False:=eq_false (Nat.not_lt.2 c5);simp only [ByteArray.size_append] at c5b3))
      (try (have c5b4 : (9223372036854775807 < x3_1.size + t103.size) = False:=by (have h_:=eq_false (Nat.not_lt.2 c5);simp only [ByteArray.size_append] at h_;exact h_)))
      try have c5b2 : (9223372036854775807 < x3_1.size + t103.size) = False:=eq_false (Nat.not_lt.2 c5)
      by_cases c6 : (x3_1 ++ t103).size + 1 ≤ 9223372036854775807
      ·rw [if_pos c6] at H
       have c6b0:=eq_true c6
       have c6b1 : decide ((x3_1 ++ t103).size + 1 ≤ 9223372036854775807) = true:=decide_eq_true c6
       (try (have c6b3 : (9223372036854775807 < (x3_1 ++ t103).size + 1) = False:=eq_false (Nat.not_lt.2 c6);simp only [ByteArray.size_append] at c6b3))
       (try (have c6b4 : (9223372036854775807 < x3_1.size + t103.size + 1) = False:=by (have h_:=eq_false (Nat.not_lt.2 c6);simp only [ByteArray.size_append] at h_;exact h_)))
       try have c6b2 : (9223372036854775807 < (x3_1 ++ t103).size + 1) = False:=eq_false (Nat.not_lt.2 c6)
       replace H:=Option.bind_eq_some_iff.mp H
       obtain ⟨t104,A70,H⟩:=H
       replace H : (if ((x3_1 ++ t103) ++ (⟨#[32]⟩ : ByteArray)).size + t104.size ≤ 9223372036854775807 then (if (((x3_1 ++ t103) ++ (⟨#[32]⟩ : ByteArray)) ++ t104).size + 1 ≤ 9223372036854775807 then ((spec_l1Block.f k1 ((a6z l0 x4_1).f3.f0) ((a6z l0 x4_1).f3.f1)).bind fun t105 => (if ((((x3_1 ++ t103) ++ (⟨#[32]⟩ : ByteArray)) ++ t104) ++ (⟨#[32]⟩ : ByteArray)).size + t105.size ≤ 9223372036854775807 then (if (((((x3_1 ++ t103) ++ (⟨#[32]⟩ : ByteArray)) ++ t104) ++ (⟨#[32]⟩ : ByteArray)) ++ t105).size + 1 ≤ 9223372036854775807 then ((spec_l1Dec.f k1 ((a6z l0 x4_1).f4)).bind fun t106 => (if ((((((x3_1 ++ t103) ++ (⟨#[32]⟩ : ByteArray)) ++ t104) ++ (⟨#[32]⟩ : ByteArray)) ++ t105) ++ (⟨#[32]⟩ : ByteArray)).size + t106.size ≤ 9223372036854775807 then (if (((((((x3_1 ++ t103) ++ (⟨#[32]⟩ : ByteArray)) ++ t104) ++ (⟨#[32]⟩ : ByteArray)) ++ t105) ++ (⟨#[32]⟩ : ByteArray)) ++ t106).size + 1 ≤ 9223372036854775807 then ((spec_l1Dec.f k1 ((a6z l0 x4_1).f5)).bind fun t107 => (if ((((((((x3_1 ++ t103) ++ (⟨#[32]⟩ : ByteArray)) ++ t104) ++ (⟨#[32]⟩ : ByteArray)) ++ t105) ++ (⟨#[32]⟩ : ByteArray)) ++ t106) ++ (⟨#[45]⟩ : ByteArray)).size + t107.size ≤ 9223372036854775807 then (if (((((((((x3_1 ++ t103) ++ (⟨#[32]⟩ : ByteArray)) ++ t104) ++ (⟨#[32]⟩ : ByteArray)) ++ t105) ++ (⟨#[32]⟩ : ByteArray)) ++ t106) ++ (⟨#[45]⟩ : ByteArray)) ++ t107).size + 1 ≤ 9223372036854775807 then (spec_l4Put.l0 k1 l0 ((((((((((x3_1 ++ t103) ++ (⟨#[32]⟩ : ByteArray)) ++ t104) ++ (⟨#[32]⟩ : ByteArray)) ++ t105) ++ (⟨#[32]⟩ : ByteArray)) ++ t106) ++ (⟨#[45]⟩ : ByteArray)) ++ t107) ++ (⟨#[10]⟩ : ByteArray)) (wrap64 (x4_1 + 1))) else (none)) else (none))) else (none)) else (none))) else (none)) else (none))) else (none)) else (none)) = some r:=H
       have A7:=a1z.mk A70
       clear A70
       by_cases c8 : ((x3_1 ++ t103) ++ (⟨#[32]⟩ : ByteArray)).size + t104.size ≤ 9223372036854775807
       ·rw [if_pos c8] at H
        have c8b0:=eq_true c8
        have c8b1 : decide (((x3_1 ++ t103) ++ (⟨#[32]⟩ : ByteArray)).size + t104.size ≤ 9223372036854775807) = true:=decide_eq_true c8
        (try (have c8b3 : (9223372036854775807 < ((x3_1 ++ t103) ++ (⟨#[32]⟩ : ByteArray)).size + t104.size) = False:=eq_false (Nat.not_lt.2 c8);simp only [ByteArray.size_append] at c8b3))
        (try (have c8b4 : (9223372036854775807 < x3_1.size + t103.size + 1 + t104.size) = False:=by (have h_:=eq_false (Nat.not_lt.2 c8);simp only [ByteArray.size_append] at h_;exact h_)))
        try have c8b2 : (9223372036854775807 < ((x3_1 ++ t103) ++ (⟨#[32]⟩ : ByteArray)).size + t104.size) = False:=eq_false (Nat.not_lt.2 c8)
        by_cases c9 : (((x3_1 ++ t103) ++ (⟨#[32]⟩ : ByteArray)) ++ t104).size + 1 ≤ 9223372036854775807
        ·rw [if_pos c9] at H
         have c9b0:=eq_true c9
         have c9b1 : decide ((((x3_1 ++ t103) ++ (⟨#[32]⟩ : ByteArray)) ++ t104).size + 1 ≤ 9223372036854775807) = true:=decide_eq_true c9
         (try (have c9b3 : (9223372036854775807 < (((x3_1 ++ t103) ++ (⟨#[32]⟩ : ByteArray)) ++ t104).size + 1) = False:=eq_false (Nat.not_lt.2 c9);simp only [ByteArray.size_append] at c9b3))
         (try (have c9b4 : (9223372036854775807 < x3_1.size + t103.size + 1 + t104.size + 1) = False:=by (have h_:=eq_false (Nat.not_lt.2 c9);simp only [ByteArray.size_append] at h_;exact h_)))
         try have c9b2 : (9223372036854775807 < (((x3_1 ++ t103) ++ (⟨#[32]⟩ : ByteArray)) ++ t104).size + 1) = False:=eq_false (Nat.not_lt.2 c9)
         replace H:=Option.bind_eq_some_iff.mp H
         obtain ⟨t105,A100,H⟩:=H
         replace H : (if ((((x3_1 ++ t103) ++ (⟨#[32]⟩ : ByteArray)) ++ t104) ++ (⟨#[32]⟩ : ByteArray)).size + t105.size ≤ 9223372036854775807 then (if (((((x3_1 ++ t103) ++ (⟨#[32]⟩ : ByteArray)) ++ t104) ++ (⟨#[32]⟩ : ByteArray)) ++ t105).size + 1 ≤ 9223372036854775807 then ((spec_l1Dec.f k1 ((a6z l0 x4_1).f4)).bind fun t106 => (if ((((((x3_1 ++ t103) ++ (⟨#[32]⟩ : ByteArray)) ++ t104) ++ (⟨#[32]⟩ : ByteArray)) ++ t105) ++ (⟨#[32]⟩ : ByteArray)).size + t106.size ≤ 9223372036854775807 then (if (((((((x3_1 ++ t103) ++ (⟨#[32]⟩ : ByteArray)) ++ t104) ++ (⟨#[32]⟩ : ByteArray)) ++ t105) ++ (⟨#[32]⟩ : ByteArray)) ++ t106).size + 1 ≤ 9223372036854775807 then ((spec_l1Dec.f k1 ((a6z l0 x4_1).f5)).bind fun t107 => (if ((((((((x3_1 ++ t103) ++ (⟨#[32]⟩ : ByteArray)) ++ t104) ++ (⟨#[32]⟩ : ByteArray)) ++ t105) ++ (⟨#[32]⟩ : ByteArray)) ++ t106) ++ (⟨#[45]⟩ : ByteArray)).size + t107.size ≤ 9223372036854775807 then (if (((((((((x3_1 ++ t103) ++ (⟨#[32]⟩ : ByteArray)) ++ t104) ++ (⟨#[32]⟩ : ByteArray)) ++ t105) ++ (⟨#[32]⟩ : ByteArray)) ++ t106) ++ (⟨#[45]⟩ : ByteArray)) ++ t107).size + 1 ≤ 9223372036854775807 then (spec_l4Put.l0 k1 l0 ((((((((((x3_1 ++ t103) ++ (⟨#[32]⟩ : ByteArray)) ++ t104) ++ (⟨#[32]⟩ : ByteArray)) ++ t105) ++ (⟨#[32]⟩ : ByteArray)) ++ t106) ++ (⟨#[45]⟩ : ByteArray)) ++ t107) ++ (⟨#[10]⟩ : ByteArray)) (wrap64 (x4_1 + 1))) else (none)) else (none))) else (none)) else (none))) else (none)) else (none)) = some r:=H
         have A10:=a1z.mk A100
         clear A100
         by_cases c11 : ((((x3_1 ++ t103) ++ (⟨#[32]⟩ : ByteArray)) ++ t104) ++ (⟨#[32]⟩ : ByteArray)).size + t105.size ≤ 9223372036854775807
         ·rw [if_pos c11] at H
          have c11b0:=eq_true c11
          have c11b1 : decide (((((x3_1 ++ t103) ++ (⟨#[32]⟩ : ByteArray)) ++ t104) ++ (⟨#[32]⟩ : ByteArray)).size + t105.size ≤ 9223372036854775807) = true:=decide_eq_true c11
          (try (have c11b3 : (9223372036854775807 < ((((x3_1 ++ t103) ++ (⟨#[32]⟩ : ByteArray)) ++ t104) ++ (⟨#[32]⟩ : ByteArray)).size + t105.size) = False:=eq_false (Nat.not_lt.2 c11);simp only [ByteArray.size_append] at c11b3))
          (try (have c11b4 : (9223372036854775807 < x3_1.size + t103.size + 1 + t104.size + 1 + t105.size) = False:=by (have h_:=eq_false (Nat.not_lt.2 c11);simp only [ByteArray.size_append] at h_;exact h_)))
          try have c11b2 : (9223372036854775807 < ((((x3_1 ++ t103) ++ (⟨#[32]⟩ : ByteArray)) ++ t104) ++ (⟨#[32]⟩ : ByteArray)).size + t105.size) = False:=eq_false (Nat.not_lt.2 c11)
          by_cases c12 : (((((x3_1 ++ t103) ++ (⟨#[32]⟩ : ByteArray)) ++ t104) ++ (⟨#[32]⟩ : ByteArray)) ++ t105).size + 1 ≤ 9223372036854775807
          ·rw [if_pos c12] at H
           have c12b0:=eq_true c12
           have c12b1 : decide ((((((x3_1 ++ t103) ++ (⟨#[32]⟩ : ByteArray)) ++ t104) ++ (⟨#[32]⟩ : ByteArray)) ++ t105).size + 1 ≤ 9223372036854775807) = true:=decide_eq_true c12
           (try (have c12b3 : (9223372036854775807 < (((((x3_1 ++ t103) ++ (⟨#[32]⟩ : ByteArray)) ++ t104) ++ (⟨#[32]⟩ : ByteArray)) ++ t105).size + 1) = False:=eq_false (Nat.not_lt.2 c12);simp only [ByteArray.size_append] at c12b3))
           (try (have c12b4 : (9223372036854775807 < x3_1.size + t103.size + 1 + t104.size + 1 + t105.size + 1) = False:=by (have h_:=eq_false (Nat.not_lt.2 c12);simp only [ByteArray.size_append] at h_;exact h_)))
           try have c12b2 : (9223372036854775807 < (((((x3_1 ++ t103) ++ (⟨#[32]⟩ : ByteArray)) ++ t104) ++ (⟨#[32]⟩ : ByteArray)) ++ t105).size + 1) = False:=eq_false (Nat.not_lt.2 c12)
           replace H:=Option.bind_eq_some_iff.mp H
           obtain ⟨t106,A130,H⟩:=H
           replace H : (if ((((((x3_1 ++ t103) ++ (⟨#[32]⟩ : ByteArray)) ++ t104) ++ (⟨#[32]⟩ : ByteArray)) ++ t105) ++ (⟨#[32]⟩ : ByteArray)).size + t106.size ≤ 9223372036854775807 then (if (((((((x3_1 ++ t103) ++ (⟨#[32]⟩ : ByteArray)) ++ t104) ++ (⟨#[32]⟩ : ByteArray)) ++ t105) ++ (⟨#[32]⟩ : ByteArray)) ++ t106).size + 1 ≤ 9223372036854775807 then ((spec_l1Dec.f k1 ((a6z l0 x4_1).f5)).bind fun t107 => (if ((((((((x3_1 ++ t103) ++ (⟨#[32]⟩ : ByteArray)) ++ t104) ++ (⟨#[32]⟩ : ByteArray)) ++ t105) ++ (⟨#[32]⟩ : ByteArray)) ++ t106) ++ (⟨#[45]⟩ : ByteArray)).size + t107.size ≤ 9223372036854775807 then (if (((((((((x3_1 ++ t103) ++ (⟨#[32]⟩ : ByteArray)) ++ t104) ++ (⟨#[32]⟩ : ByteArray)) ++ t105) ++ (⟨#[32]⟩ : ByteArray)) ++ t106) ++ (⟨#[45]⟩ : ByteArray)) ++ t107).size + 1 ≤ 9223372036854775807 then (spec_l4Put.l0 k1 l0 ((((((((((x3_1 ++ t103) ++ (⟨#[32]⟩ : ByteArray)) ++ t104) ++ (⟨#[32]⟩ : ByteArray)) ++ t105) ++ (⟨#[32]⟩ : ByteArray)) ++ t106) ++ (⟨#[45]⟩ : ByteArray)) ++ t107) ++ (⟨#[10]⟩ : ByteArray)) (wrap64 (x4_1 + 1))) else (none)) else (none))) else (none)) else (none)) = some r:=H
           have A13:=a1z.mk A130
           clear A130
           by_cases c14 : ((((((x3_1 ++ t103) ++ (⟨#[32]⟩ : ByteArray)) ++ t104) ++ (⟨#[32]⟩ : ByteArray)) ++ t105) ++ (⟨#[32]⟩ : ByteArray)).size + t106.size ≤ 9223372036854775807
           ·rw [if_pos c14] at H
            have c14b0:=eq_true c14
            have c14b1 : decide (((((((x3_1 ++ t103) ++ (⟨#[32]⟩ : ByteArray)) ++ t104) ++ (⟨#[32]⟩ : ByteArray)) ++ t105) ++ (⟨#[32]⟩ : ByteArray)).size + t106.size ≤ 9223372036854775807) = true:=decide_eq_true c14
            (try (have c14b3 : (9223372036854775807 < ((((((x3_1 ++ t103) ++ (⟨#[32]⟩ : ByteArray)) ++ t104) ++ (⟨#[32]⟩ : ByteArray)) ++ t105) ++ (⟨#[32]⟩ : ByteArray)).size + t106.size) = False:=eq_false (Nat.not_lt.2 c14);simp only [ByteArray.size_append] at c14b3))
            (try (have c14b4 : (9223372036854775807 < x3_1.size + t103.size + 1 + t104.size + 1 + t105.size + 1 + t106.size) = False:=by (have h_:=eq_false (Nat.not_lt.2 c14);simp only [ByteArray.size_append] at h_;exact h_)))
            try have c14b2 : (9223372036854775807 < ((((((x3_1 ++ t103) ++ (⟨#[32]⟩ : ByteArray)) ++ t104) ++ (⟨#[32]⟩ : ByteArray)) ++ t105) ++ (⟨#[32]⟩ : ByteArray)).size + t106.size) = False:=eq_false (Nat.not_lt.2 c14)
            by_cases c15 : (((((((x3_1 ++ t103) ++ (⟨#[32]⟩ : ByteArray)) ++ t104) ++ (⟨#[32]⟩ : ByteArray)) ++ t105) ++ (⟨#[32]⟩ : ByteArray)) ++ t106).size + 1 ≤ 9223372036854775807
            ·rw [if_pos c15] at H
             have c15b0:=eq_true c15
             have c15b1 : decide ((((((((x3_1 ++ t103) ++ (⟨#[32]⟩ : ByteArray)) ++ t104) ++ (⟨#[32]⟩ : ByteArray)) ++ t105) ++ (⟨#[32]⟩ : ByteArray)) ++ t106).size + 1 ≤ 9223372036854775807) = true:=decide_eq_true c15
             (try (have c15b3 : (9223372036854775807 < (((((((x3_1 ++ t103) ++ (⟨#[32]⟩ : ByteArray)) ++ t104) ++ (⟨#[32]⟩ : ByteArray)) ++ t105) ++ (⟨#[32]⟩ : ByteArray)) ++ t106).size + 1) = False:=eq_false (Nat.not_lt.2 c15);simp only [ByteArray.size_append] at c15b3))
             (try (have c15b4 : (9223372036854775807 < x3_1.size + t103.size + 1 + t104.size + 1 + t105.size + 1 + t106.size + 1) = False:=by (have h_:=eq_false (Nat.not_lt.2 c15);simp only [ByteArray.size_append] at h_;exact h_)))
             try have c15b2 : (9223372036854775807 < (((((((x3_1 ++ t103) ++ (⟨#[32]⟩ : ByteArray)) ++ t104) ++ (⟨#[32]⟩ : ByteArray)) ++ t105) ++ (⟨#[32]⟩ : ByteArray)) ++ t106).size + 1) = False:=eq_false (Nat.not_lt.2 c15)
             replace H:=Option.bind_eq_some_iff.mp H
             obtain ⟨t107,A160,H⟩:=H
             replace H : (if ((((((((x3_1 ++ t103) ++ (⟨#[32]⟩ : ByteArray)) ++ t104) ++ (⟨#[32]⟩ : ByteArray)) ++ t105) ++ (⟨#[32]⟩ : ByteArray)) ++ t106) ++ (⟨#[45]⟩ : ByteArray)).size + t107.size ≤ 9223372036854775807 then (if (((((((((x3_1 ++ t103) ++ (⟨#[32]⟩ : ByteArray)) ++ t104) ++ (⟨#[32]⟩ : ByteArray)) ++ t105) ++ (⟨#[32]⟩ : ByteArray)) ++ t106) ++ (⟨#[45]⟩ : ByteArray)) ++ t107).size + 1 ≤ 9223372036854775807 then (spec_l4Put.l0 k1 l0 ((((((((((x3_1 ++ t103) ++ (⟨#[32]⟩ : ByteArray)) ++ t104) ++ (⟨#[32]⟩ : ByteArray)) ++ t105) ++ (⟨#[32]⟩ : ByteArray)) ++ t106) ++ (⟨#[45]⟩ : ByteArray)) ++ t107) ++ (⟨#[10]⟩ : ByteArray)) (wrap64 (x4_1 + 1))) else (none)) else (none)) = some r:=H
             have A16:=a1z.mk A160
             clear A160
             by_cases c17 : ((((((((x3_1 ++ t103) ++ (⟨#[32]⟩ : ByteArray)) ++ t104) ++ (⟨#[32]⟩ : ByteArray)) ++ t105) ++ (⟨#[32]⟩ : ByteArray)) ++ t106) ++ (⟨#[45]⟩ : ByteArray)).size + t107.size ≤ 9223372036854775807
             ·rw [if_pos c17] at H
              have c17b0:=eq_true c17
              have c17b1 : decide (((((((((x3_1 ++ t103) ++ (⟨#[32]⟩ : ByteArray)) ++ t104) ++ (⟨#[32]⟩ : ByteArray)) ++ t105) ++ (⟨#[32]⟩ : ByteArray)) ++ t106) ++ (⟨#[45]⟩ : ByteArray)).size + t107.size ≤ 9223372036854775807) = true:=decide_eq_true c17
              (try (have c17b3 : (9223372036854775807 < ((((((((x3_1 ++ t103) ++ (⟨#[32]⟩ : ByteArray)) ++ t104) ++ (⟨#[32]⟩ : ByteArray)) ++ t105) ++ (⟨#[32]⟩ : ByteArray)) ++ t106) ++ (⟨#[45]⟩ : ByteArray)).size + t107.size) = False:=eq_false (Nat.not_lt.2 c17);simp only [ByteArray.size_append] at c17b3))
              (try (have c17b4 : (9223372036854775807 < x3_1.size + t103.size + 1 + t104.size + 1 + t105.size + 1 + t106.size + 1 + t107.size) = False:=by (have h_:=eq_false (Nat.not_lt.2 c17);simp only [ByteArray.size_append] at h_;exact h_)))
              try have c17b2 : (9223372036854775807 < ((((((((x3_1 ++ t103) ++ (⟨#[32]⟩ : ByteArray)) ++ t104) ++ (⟨#[32]⟩ : ByteArray)) ++ t105) ++ (⟨#[32]⟩ : ByteArray)) ++ t106) ++ (⟨#[45]⟩ : ByteArray)).size + t107.size) = False:=eq_false (Nat.not_lt.2 c17)
              by_cases c18 : (((((((((x3_1 ++ t103) ++ (⟨#[32]⟩ : ByteArray)) ++ t104) ++ (⟨#[32]⟩ : ByteArray)) ++ t105) ++ (⟨#[32]⟩ : ByteArray)) ++ t106) ++ (⟨#[45]⟩ : ByteArray)) ++ t107).size + 1 ≤ 9223372036854775807
              ·rw [if_pos c18] at H
               have c18b0:=eq_true c18
               have c18b1 : decide ((((((((((x3_1 ++ t103) ++ (⟨#[32]⟩ : ByteArray)) ++ t104) ++ (⟨#[32]⟩ : ByteArray)) ++ t105) ++ (⟨#[32]⟩ : ByteArray)) ++ t106) ++ (⟨#[45]⟩ : ByteArray)) ++ t107).size + 1 ≤ 9223372036854775807) = true:=decide_eq_true c18
               (try (have c18b3 : (9223372036854775807 < (((((((((x3_1 ++ t103) ++ (⟨#[32]⟩ : ByteArray)) ++ t104) ++ (⟨#[32]⟩ : ByteArray)) ++ t105) ++ (⟨#[32]⟩ : ByteArray)) ++ t106) ++ (⟨#[45]⟩ : ByteArray)) ++ t107).size + 1) = False:=eq_false (Nat.not_lt.2 c18);simp only [ByteArray.size_append] at c18b3))
               (try (have c18b4 : (9223372036854775807 < x3_1.size + t103.size + 1 + t104.size + 1 + t105.size + 1 + t106.size + 1 + t107.size + 1) = False:=by (have h_:=eq_false (Nat.not_lt.2 c18);simp only [ByteArray.size_append] at h_;exact h_)))
               try have c18b2 : (9223372036854775807 < (((((((((x3_1 ++ t103) ++ (⟨#[32]⟩ : ByteArray)) ++ t104) ++ (⟨#[32]⟩ : ByteArray)) ++ t105) ++ (⟨#[32]⟩ : ByteArray)) ++ t106) ++ (⟨#[45]⟩ : ByteArray)) ++ t107).size + 1) = False:=eq_false (Nat.not_lt.2 c18)
               have H':=a1z.mk H
               clear H
               have p101 : 0 ≤ (x4_1 : Int):=of_decide_eq_true (by first|(with_reducible assumption)|assumption)
               have q101 : x4_1 < (l0.length : Int):=of_decide_eq_true (by first|(with_reducible assumption)|assumption)
               obtain ⟨ad101,e101,hx101_0,hx101_1,hx101_2,hx101_3,hx101_4,hx101_5,hx101_6,hx101_7⟩:=at_T39 HR0.1 x4_1 p101 q101
               cases e101
               replace hx101_0:=(HB.1.cell (World.block_lt_of_cell? w _ hx101_0)).trans hx101_0
               replace hx101_1:=(HB.1.cell (World.block_lt_of_cell? w _ hx101_1)).trans hx101_1
               replace hx101_2:=(HB.1.cell (World.block_lt_of_cell? w _ hx101_2)).trans hx101_2
               replace hx101_3:=(HB.1.cell (World.block_lt_of_cell? w _ hx101_3)).trans hx101_3
               replace hx101_4:=(HB.1.cell (World.block_lt_of_cell? w _ hx101_4)).trans hx101_4
               replace hx101_5:=(HB.1.cell (World.block_lt_of_cell? w _ hx101_5)).trans hx101_5
               replace hx101_6:=(HB.1.cell (World.block_lt_of_cell? w _ hx101_6)).trans hx101_6
               replace hx101_7:=(HB.1.cell (World.block_lt_of_cell? w _ hx101_7)).trans hx101_7
               replace p101:=eq_true p101
               replace q101:=eq_true q101
               try go_wp2_with (first|((with_reducible refine c5z (N:=5) rfl ?_);refine d2z ?hg (N:=5) ?hd (cs:=#[.int .i64 0,.int .i64 0,.int .i64 0,.int .i64 0,.int .i64 0,.int .i64 0,.int .i64 0,.int .i64 0]) (t:=39) ?hr ?_;(case hd => rfl);(case hg => rfl);(case hr => first|(go_simp;done)|(go_simp;rfl));intro gb102 hg w19 hbox hb;have n0_:=a1z.mk (b1z (by repeat (first|(with_reducible first|exact HB.1|apply a3z|apply a0z|apply a2z)|exact HB.1)) hb);have n1_:=a1z.mk (hbox);have n2_:=a1z.mk ((by rw [hg];exact (b8z (by repeat (first|(with_reducible first|exact HB.1|apply a3z|apply a0z|apply a2z)|exact HB.1))) : w.heap.size ≤ gb102));have n3_:=a1z.mk ((by rw [hg];exact (b8z (by repeat (first|(with_reducible first|exact HB.1|apply a3z|apply a0z|apply a2z)|exact HB.1))) : w.heap.size ≤ gb102));clear HB;have HB:=n0_;have BK102:=n1_;have GW102:=n2_;have GE102:=n3_;clear n0_ n1_ n2_ n3_;clear hb hbox hg;have hcz20_0:=c80_ BK102.1;have hcz20_1:=c81_ BK102.1;have hcz20_2:=c82_ BK102.1;have hcz20_3:=c83_ BK102.1;have hcz20_4:=c84_ BK102.1;have hcz20_5:=c85_ BK102.1;have hcz20_6:=c86_ BK102.1;have hcz20_7:=c87_ BK102.1;have hfz20_0:=a4z BK102.1 0;have hfz20_1:=a4z BK102.1 1;have hfz20_2:=a4z BK102.1 2;have hfz20_3:=a4z BK102.1 3;have hfz20_4:=a4z BK102.1 4;have hfz20_5:=a4z BK102.1 5;have hfz20_6:=a4z BK102.1 6;have hfz20_7:=a4z BK102.1 7))
               have n0_ : a1z (((((((((w19.setCell ⟨gb102,0,none⟩ (.int .i64 ((a6z l0 x4_1).f0))).setCell ⟨gb102,1,none⟩ (.int .i64 ((a6z l0 x4_1).f1))).setCell ⟨gb102,2,none⟩ (.int .i64 ((a6z l0 x4_1).f2.f0))).setCell ⟨gb102,3,none⟩ (.int .i64 ((a6z l0 x4_1).f2.f1))).setCell ⟨gb102,4,none⟩ (.int .i64 ((a6z l0 x4_1).f3.f0))).setCell ⟨gb102,5,none⟩ (.int .i64 ((a6z l0 x4_1).f3.f1))).setCell ⟨gb102,6,none⟩ (.int .i64 ((a6z l0 x4_1).f4))).setCell ⟨gb102,7,none⟩ (.int .i64 ((a6z l0 x4_1).f5))).heap[gb102]? = some (.cells #[.int .i64 ((a6z l0 x4_1).f0),.int .i64 ((a6z l0 x4_1).f1),.int .i64 ((a6z l0 x4_1).f2.f0),.int .i64 ((a6z l0 x4_1).f2.f1),.int .i64 ((a6z l0 x4_1).f3.f0),.int .i64 ((a6z l0 x4_1).f3.f1),.int .i64 ((a6z l0 x4_1).f4),.int .i64 ((a6z l0 x4_1).f5)] 39 (0,0))):=⟨by (with_reducible repeat (first|refine a8z ?_ _|refine a9z ?_|refine blk_alloc ?_ _));refine p8_ ?_;(with_reducible repeat (first|refine a8z ?_ _|refine a9z ?_|refine blk_alloc ?_ _));exact BK102.1⟩
               have n1_ : a1z (Below w.heap.size w ((((((((w19.setCell ⟨gb102,0,none⟩ (.int .i64 ((a6z l0 x4_1).f0))).setCell ⟨gb102,1,none⟩ (.int .i64 ((a6z l0 x4_1).f1))).setCell ⟨gb102,2,none⟩ (.int .i64 ((a6z l0 x4_1).f2.f0))).setCell ⟨gb102,3,none⟩ (.int .i64 ((a6z l0 x4_1).f2.f1))).setCell ⟨gb102,4,none⟩ (.int .i64 ((a6z l0 x4_1).f3.f0))).setCell ⟨gb102,5,none⟩ (.int .i64 ((a6z l0 x4_1).f3.f1))).setCell ⟨gb102,6,none⟩ (.int .i64 ((a6z l0 x4_1).f4))).setCell ⟨gb102,7,none⟩ (.int .i64 ((a6z l0 x4_1).f5)))):=⟨by repeat (first|(with_reducible first|exact HB.1|apply a3z|apply a0z|apply a2z|refine a5z ?_ GE102.1)|exact HB.1)⟩
               (try clear BK102)
               (try clear HB)
               generalize ((((((((w19.setCell ⟨gb102,0,none⟩ (.int .i64 ((a6z l0 x4_1).f0))).setCell ⟨gb102,1,none⟩ (.int .i64 ((a6z l0 x4_1).f1))).setCell ⟨gb102,2,none⟩ (.int .i64 ((a6z l0 x4_1).f2.f0))).setCell ⟨gb102,3,none⟩ (.int .i64 ((a6z l0 x4_1).f2.f1))).setCell ⟨gb102,4,none⟩ (.int .i64 ((a6z l0 x4_1).f3.f0))).setCell ⟨gb102,5,none⟩ (.int .i64 ((a6z l0 x4_1).f3.f1))).setCell ⟨gb102,6,none⟩ (.int .i64 ((a6z l0 x4_1).f4))).setCell ⟨gb102,7,none⟩ (.int .i64 ((a6z l0 x4_1).f5))) = w21 at n0_ n1_ ⊢
               have BK102:=n0_
               have HB:=n1_
               clear n0_ n1_
               have n0_:=a1z.mk (a9z BK102.1)
               have n1_:=a1z.mk (a2z HB.1)
               clear BK102 HB
               have BK102:=n0_
               have HB:=n1_
               clear n0_ n1_
               refine h6z (n:=26) (S:=fun w' => w'.cell? ⟨gb102,0,none⟩ = some (.int .i64 ((a6z l0 x4_1).f0)) ∧ w'.cell? ⟨gb102,1,none⟩ = some (.int .i64 ((a6z l0 x4_1).f1)) ∧ w'.cell? ⟨gb102,2,none⟩ = some (.int .i64 ((a6z l0 x4_1).f2.f0)) ∧ w'.cell? ⟨gb102,3,none⟩ = some (.int .i64 ((a6z l0 x4_1).f2.f1)) ∧ w'.cell? ⟨gb102,4,none⟩ = some (.int .i64 ((a6z l0 x4_1).f3.f0)) ∧ w'.cell? ⟨gb102,5,none⟩ = some (.int .i64 ((a6z l0 x4_1).f3.f1)) ∧ w'.cell? ⟨gb102,6,none⟩ = some (.int .i64 ((a6z l0 x4_1).f4)) ∧ w'.cell? ⟨gb102,7,none⟩ = some (.int .i64 ((a6z l0 x4_1).f5))) (ds:=[]) #[false,false,false,false,false,false,false,false,false,false,false,false,false,false,false,false,false,false,false,false,false,false,false,false,false,false] (by kernel_rfl) rfl rfl ⟨(b7z BK102.1 0).trans rfl,(b7z BK102.1 1).trans rfl,(b7z BK102.1 2).trans rfl,(b7z BK102.1 3).trans rfl,(b7z BK102.1 4).trans rfl,(b7z BK102.1 5).trans rfl,(b7z BK102.1 6).trans rfl,(b7z BK102.1 7).trans rfl⟩ (fun hHeld => ?_);refine g0z spec_l4Put.tab6 spec_l4Put.bits6 (fun HT_ HW_ => ?_)
               generalize w21.drew = w22 at BK102 HB hHeld ⊢
               refine pure_ (i:=0) (N:=some 16) (v:=?_) (a':=?_) #[true,false,false,false,false,false,false,false,false,false,false,false,false,false,false,false,false,false,false,false,false,false,false,false,false,false] rfl rfl (d1z HT_.1 (by kernel_rfl)) (fun _ _ _ h => h) (Or.inl ⟨by rfl,?_⟩) ?_ ?_
               rotate_left
               ·intro w'
                go_simp
                with_reducible rfl
               rotate_left
               ·simp only [Act.put,sA_,sZ_,sS_,i64_w,i32_w]
                rfl
               refine pure_ (i:=5) (N:=some 21) (v:=?_) (a':=?_) #[true,false,false,false,false,true,false,false,false,false,false,false,false,false,false,false,false,false,false,false,false,false,false,false,false,false] rfl rfl (d1z HT_.1 (by kernel_rfl)) (fun _ _ _ h => h) (Or.inl ⟨by rfl,?_⟩) ?_ ?_
               rotate_left
               ·intro w'
                go_simp
                with_reducible rfl
               rotate_left
               ·simp only [Act.put,sA_,sZ_,sS_,i64_w,i32_w]
                rfl
               refine pure_ (i:=10) (N:=some 26) (v:=?_) (a':=?_) #[true,false,false,false,false,true,false,false,false,false,true,false,false,false,false,false,false,false,false,false,false,false,false,false,false,false] rfl rfl (d1z HT_.1 (by kernel_rfl)) (fun _ _ _ h => h) (Or.inl ⟨by rfl,?_⟩) ?_ ?_
               rotate_left
               ·intro w'
                go_simp
                with_reducible rfl
               rotate_left
               ·simp only [Act.put,sA_,sZ_,sS_,i64_w,i32_w]
                rfl
               refine pure_ (i:=15) (N:=some 31) (v:=?_) (a':=?_) #[true,false,false,false,false,true,false,false,false,false,true,false,false,false,false,true,false,false,false,false,false,false,false,false,false,false] rfl rfl (d1z HT_.1 (by kernel_rfl)) (fun _ _ _ h => h) (Or.inl ⟨by rfl,?_⟩) ?_ ?_
               rotate_left
               ·intro w'
                go_simp
                with_reducible rfl
               rotate_left
               ·simp only [Act.put,sA_,sZ_,sS_,i64_w,i32_w]
                rfl
               refine pure_ (i:=20) (N:=some 36) (v:=?_) (a':=?_) #[true,false,false,false,false,true,false,false,false,false,true,false,false,false,false,true,false,false,false,false,true,false,false,false,false,false] rfl rfl (d1z HT_.1 (by kernel_rfl)) (fun _ _ _ h => h) (Or.inl ⟨by rfl,?_⟩) ?_ ?_
               rotate_left
               ·intro w'
                go_simp
                with_reducible rfl
               rotate_left
               ·simp only [Act.put,sA_,sZ_,sS_,i64_w,i32_w]
                rfl
               refine take_ (i:=1) (N:=some 17) (v:=?_) (a':=?_) #[true,true,false,false,false,true,false,false,false,false,true,false,false,false,false,true,false,false,false,false,true,false,false,false,false,false] rfl rfl (f0z HT_.1 HW_.1 (by kernel_rfl)) (fun _ _ _ h => h) (Or.inl ⟨by rfl,?_⟩) hHeld ?_ ?_
               rotate_left
               ·rintro w' ⟨s0,s1,s2,s3,s4,s5,s6,s7⟩
                go_simp
                with_reducible rfl
               rotate_left
               ·simp only [Act.put,sA_,sZ_,sS_,i64_w,i32_w]
                rfl
               refine take_ (i:=6) (N:=some 22) (v:=?_) (a':=?_) #[true,true,false,false,false,true,true,false,false,false,true,false,false,false,false,true,false,false,false,false,true,false,false,false,false,false] rfl rfl (f0z HT_.1 HW_.1 (by kernel_rfl)) (fun _ _ _ h => h) (Or.inl ⟨by rfl,?_⟩) hHeld ?_ ?_
               rotate_left
               ·rintro w' ⟨s0,s1,s2,s3,s4,s5,s6,s7⟩
                go_simp
                with_reducible rfl
               rotate_left
               ·simp only [Act.put,sA_,sZ_,sS_,i64_w,i32_w]
                rfl
               refine take_ (i:=11) (N:=some 27) (v:=?_) (a':=?_) #[true,true,false,false,false,true,true,false,false,false,true,true,false,false,false,true,false,false,false,false,true,false,false,false,false,false] rfl rfl (f0z HT_.1 HW_.1 (by kernel_rfl)) (fun _ _ _ h => h) (Or.inl ⟨by rfl,?_⟩) hHeld ?_ ?_
               rotate_left
               ·rintro w' ⟨s0,s1,s2,s3,s4,s5,s6,s7⟩
                go_simp
                with_reducible rfl
               rotate_left
               ·simp only [Act.put,sA_,sZ_,sS_,i64_w,i32_w]
                rfl
               refine take_ (i:=16) (N:=some 32) (v:=?_) (a':=?_) #[true,true,false,false,false,true,true,false,false,false,true,true,false,false,false,true,true,false,false,false,true,false,false,false,false,false] rfl rfl (f0z HT_.1 HW_.1 (by kernel_rfl)) (fun _ _ _ h => h) (Or.inl ⟨by rfl,?_⟩) hHeld ?_ ?_
               rotate_left
               ·rintro w' ⟨s0,s1,s2,s3,s4,s5,s6,s7⟩
                go_simp
                with_reducible rfl
               rotate_left
               ·simp only [Act.put,sA_,sZ_,sS_,i64_w,i32_w]
                rfl
               refine take_ (i:=21) (N:=some 37) (v:=?_) (a':=?_) #[true,true,false,false,false,true,true,false,false,false,true,true,false,false,false,true,true,false,false,false,true,true,false,false,false,false] rfl rfl (f0z HT_.1 HW_.1 (by kernel_rfl)) (fun _ _ _ h => h) (Or.inl ⟨by rfl,?_⟩) hHeld ?_ ?_
               rotate_left
               ·rintro w' ⟨s0,s1,s2,s3,s4,s5,s6,s7⟩
                go_simp
                with_reducible rfl
               rotate_left
               ·simp only [Act.put,sA_,sZ_,sS_,i64_w,i32_w]
                rfl
               refine one_ (i:=2) (N:=some 18) #[true,true,true,false,false,true,true,false,false,false,true,true,false,false,false,true,true,false,false,false,true,true,false,false,false,false] rfl rfl (e8z HT_.1 (by kernel_rfl)) (by decide) (fun K hK => ?_)
               refine goes_ Tryz.func38 (by kernel_rfl) rfl #[.agg #[.int .i64 ((a6z l0 x4_1).f0),.int .i64 ((a6z l0 x4_1).f1),.int .i64 ((a6z l0 x4_1).f2.f0),.int .i64 ((a6z l0 x4_1).f2.f1),.int .i64 ((a6z l0 x4_1).f3.f0),.int .i64 ((a6z l0 x4_1).f3.f1),.int .i64 ((a6z l0 x4_1).f4),.int .i64 ((a6z l0 x4_1).f5)]] (by rfl) rfl rfl (by (try simp only [mA_,mC_,mN_]);first|done|rfl|(simp only [lD_,lT_];rfl)) ?_
               with_reducible refine (spec_l4Word.calls k1 ((a6z l0 x4_1).f0) ((a6z l0 x4_1).f1) ((a6z l0 x4_1).f2.f0) ((a6z l0 x4_1).f2.f1) ((a6z l0 x4_1).f3.f0) ((a6z l0 x4_1).f3.f1) ((a6z l0 x4_1).f4) ((a6z l0 x4_1).f5) t103 _ A4.1).mono ?_
               rintro e w23 ⟨rfl,hb⟩
               refine ⟨_,rfl,?_⟩
               have n0_:=a1z.mk (c0z (g:=gb102) (o:=.cells #[.int .i64 ((a6z l0 x4_1).f0),.int .i64 ((a6z l0 x4_1).f1),.int .i64 ((a6z l0 x4_1).f2.f0),.int .i64 ((a6z l0 x4_1).f2.f1),.int .i64 ((a6z l0 x4_1).f3.f0),.int .i64 ((a6z l0 x4_1).f3.f1),.int .i64 ((a6z l0 x4_1).f4),.int .i64 ((a6z l0 x4_1).f5)] 39 (0,0)) (by (with_reducible repeat (first|refine a8z ?_ _|refine a9z ?_|refine blk_alloc ?_ _));exact BK102.1) hb)
               have n1_:=a1z.mk (b1z (by repeat (first|(with_reducible first|exact HB.1|apply a3z|apply a0z|apply a2z|refine a5z ?_ GE102.1)|exact HB.1)) hb)
               clear BK102 HB
               have BK102:=n0_
               have HB:=n1_
               clear n0_ n1_
               (try clear hb)
               (try clear hb2)
               (try clear hk)
               (try clear hi)
               refine hK.out _ _ ⟨(b7z BK102.1 0).trans rfl,(b7z BK102.1 1).trans rfl,(b7z BK102.1 2).trans rfl,(b7z BK102.1 3).trans rfl,(b7z BK102.1 4).trans rfl,(b7z BK102.1 5).trans rfl,(b7z BK102.1 6).trans rfl,(b7z BK102.1 7).trans rfl⟩ (fun hHeld => ?_)
               clear hK K
               refine norm_ (a':=?_) ?_ ?_
               rotate_left
               ·show Act.put _ (some 18) _ = _
                simp only [Act.put,sA_,sZ_,sS_,i64_w,i32_w]
                rfl
               refine pure_ (i:=3) (N:=some 19) (v:=?_) (a':=?_) #[true,true,true,true,false,true,true,false,false,false,true,true,false,false,false,true,true,false,false,false,true,true,false,false,false,false] rfl rfl (d1z HT_.1 (by kernel_rfl)) (fun _ _ _ h => h) (Or.inl ⟨by rfl,?_⟩) ?_ ?_
               rotate_left
               ·intro w'
                go_simp
                with_reducible rfl
               rotate_left
               ·simp only [Act.put,sA_,sZ_,sS_,i64_w,i32_w]
                rfl
               refine pure_ (i:=4) (N:=some 20) (v:=?_) (a':=?_) #[true,true,true,true,true,true,true,false,false,false,true,true,false,false,false,true,true,false,false,false,true,true,false,false,false,false] rfl rfl (d1z HT_.1 (by kernel_rfl)) (fun _ _ _ h => h) (Or.inl ⟨by rfl,?_⟩) ?_ ?_
               rotate_left
               ·intro w'
                go_simp
                with_reducible rfl
               rotate_left
               ·simp only [Act.put,sA_,sZ_,sS_,i64_w,i32_w]
                rfl
               refine one_ (i:=7) (N:=some 23) #[true,true,true,true,true,true,true,true,false,false,true,true,false,false,false,true,true,false,false,false,true,true,false,false,false,false] rfl rfl (e8z HT_.1 (by kernel_rfl)) (by decide) (fun K hK => ?_)
               refine goes_ Tryz.func39 (by kernel_rfl) rfl #[.agg #[.int .i64 ((a6z l0 x4_1).f2.f0),.int .i64 ((a6z l0 x4_1).f2.f1)]] (by rfl) rfl rfl (by (try simp only [mA_,mC_,mN_]);first|done|rfl|(simp only [lD_,lT_];rfl)) ?_
               with_reducible refine (spec_l1Block.calls k1 ((a6z l0 x4_1).f2.f0) ((a6z l0 x4_1).f2.f1) t104 _ A7.1).mono ?_
               rintro e w24 ⟨rfl,hb⟩
               refine ⟨_,rfl,?_⟩
               have n0_:=a1z.mk (c0z (g:=gb102) (o:=.cells #[.int .i64 ((a6z l0 x4_1).f0),.int .i64 ((a6z l0 x4_1).f1),.int .i64 ((a6z l0 x4_1).f2.f0),.int .i64 ((a6z l0 x4_1).f2.f1),.int .i64 ((a6z l0 x4_1).f3.f0),.int .i64 ((a6z l0 x4_1).f3.f1),.int .i64 ((a6z l0 x4_1).f4),.int .i64 ((a6z l0 x4_1).f5)] 39 (0,0)) (by (with_reducible repeat (first|refine a8z ?_ _|refine a9z ?_|refine blk_alloc ?_ _));exact BK102.1) hb)
               have n1_:=a1z.mk (b1z (by repeat (first|(with_reducible first|exact HB.1|apply a3z|apply a0z|apply a2z|refine a5z ?_ GE102.1)|exact HB.1)) hb)
               clear BK102 HB
               have BK102:=n0_
               have HB:=n1_
               clear n0_ n1_
               (try clear hb)
               (try clear hb2)
               (try clear hk)
               (try clear hi)
               refine hK.out _ _ ⟨(b7z BK102.1 0).trans rfl,(b7z BK102.1 1).trans rfl,(b7z BK102.1 2).trans rfl,(b7z BK102.1 3).trans rfl,(b7z BK102.1 4).trans rfl,(b7z BK102.1 5).trans rfl,(b7z BK102.1 6).trans rfl,(b7z BK102.1 7).trans rfl⟩ (fun hHeld => ?_)
               clear hK K
               refine norm_ (a':=?_) ?_ ?_
               rotate_left
               ·show Act.put _ (some 23) _ = _
                simp only [Act.put,sA_,sZ_,sS_,i64_w,i32_w]
                rfl
               refine pure_ (i:=8) (N:=some 24) (v:=?_) (a':=?_) #[true,true,true,true,true,true,true,true,true,false,true,true,false,false,false,true,true,false,false,false,true,true,false,false,false,false] rfl rfl (d1z HT_.1 (by kernel_rfl)) (fun _ _ _ h => h) (Or.inl ⟨by rfl,?_⟩) ?_ ?_
               rotate_left
               ·intro w'
                go_simp
                with_reducible rfl
               rotate_left
               ·simp only [Act.put,sA_,sZ_,sS_,i64_w,i32_w]
                rfl
               refine pure_ (i:=9) (N:=some 25) (v:=?_) (a':=?_) #[true,true,true,true,true,true,true,true,true,true,true,true,false,false,false,true,true,false,false,false,true,true,false,false,false,false] rfl rfl (d1z HT_.1 (by kernel_rfl)) (fun _ _ _ h => h) (Or.inl ⟨by rfl,?_⟩) ?_ ?_
               rotate_left
               ·intro w'
                go_simp
                with_reducible rfl
               rotate_left
               ·simp only [Act.put,sA_,sZ_,sS_,i64_w,i32_w]
                rfl
               refine one_ (i:=12) (N:=some 28) #[true,true,true,true,true,true,true,true,true,true,true,true,true,false,false,true,true,false,false,false,true,true,false,false,false,false] rfl rfl (e8z HT_.1 (by kernel_rfl)) (by decide) (fun K hK => ?_)
               refine goes_ Tryz.func39 (by kernel_rfl) rfl #[.agg #[.int .i64 ((a6z l0 x4_1).f3.f0),.int .i64 ((a6z l0 x4_1).f3.f1)]] (by rfl) rfl rfl (by (try simp only [mA_,mC_,mN_]);first|done|rfl|(simp only [lD_,lT_];rfl)) ?_
               with_reducible refine (spec_l1Block.calls k1 ((a6z l0 x4_1).f3.f0) ((a6z l0 x4_1).f3.f1) t105 _ A10.1).mono ?_
               rintro e w25 ⟨rfl,hb⟩
               refine ⟨_,rfl,?_⟩
               have n0_:=a1z.mk (c0z (g:=gb102) (o:=.cells #[.int .i64 ((a6z l0 x4_1).f0),.int .i64 ((a6z l0 x4_1).f1),.int .i64 ((a6z l0 x4_1).f2.f0),.int .i64 ((a6z l0 x4_1).f2.f1),.int .i64 ((a6z l0 x4_1).f3.f0),.int .i64 ((a6z l0 x4_1).f3.f1),.int .i64 ((a6z l0 x4_1).f4),.int .i64 ((a6z l0 x4_1).f5)] 39 (0,0)) (by (with_reducible repeat (first|refine a8z ?_ _|refine a9z ?_|refine blk_alloc ?_ _));exact BK102.1) hb)
               have n1_:=a1z.mk (b1z (by repeat (first|(with_reducible first|exact HB.1|apply a3z|apply a0z|apply a2z|refine a5z ?_ GE102.1)|exact HB.1)) hb)
               clear BK102 HB
               have BK102:=n0_
               have HB:=n1_
               clear n0_ n1_
               (try clear hb)
               (try clear hb2)
               (try clear hk)
               (try clear hi)
               refine hK.out _ _ ⟨(b7z BK102.1 0).trans rfl,(b7z BK102.1 1).trans rfl,(b7z BK102.1 2).trans rfl,(b7z BK102.1 3).trans rfl,(b7z BK102.1 4).trans rfl,(b7z BK102.1 5).trans rfl,(b7z BK102.1 6).trans rfl,(b7z BK102.1 7).trans rfl⟩ (fun hHeld => ?_)
               clear hK K
               refine norm_ (a':=?_) ?_ ?_
               rotate_left
               ·show Act.put _ (some 28) _ = _
                simp only [Act.put,sA_,sZ_,sS_,i64_w,i32_w]
                rfl
               refine pure_ (i:=13) (N:=some 29) (v:=?_) (a':=?_) #[true,true,true,true,true,true,true,true,true,true,true,true,true,true,false,true,true,false,false,false,true,true,false,false,false,false] rfl rfl (d1z HT_.1 (by kernel_rfl)) (fun _ _ _ h => h) (Or.inl ⟨by rfl,?_⟩) ?_ ?_
               rotate_left
               ·intro w'
                go_simp
                with_reducible rfl
               rotate_left
               ·simp only [Act.put,sA_,sZ_,sS_,i64_w,i32_w]
                rfl
               refine pure_ (i:=14) (N:=some 30) (v:=?_) (a':=?_) #[true,true,true,true,true,true,true,true,true,true,true,true,true,true,true,true,true,false,false,false,true,true,false,false,false,false] rfl rfl (d1z HT_.1 (by kernel_rfl)) (fun _ _ _ h => h) (Or.inl ⟨by rfl,?_⟩) ?_ ?_
               rotate_left
               ·intro w'
                go_simp
                with_reducible rfl
               rotate_left
               ·simp only [Act.put,sA_,sZ_,sS_,i64_w,i32_w]
                rfl
               refine one_ (i:=17) (N:=some 33) #[true,true,true,true,true,true,true,true,true,true,true,true,true,true,true,true,true,true,false,false,true,true,false,false,false,false] rfl rfl (e8z HT_.1 (by kernel_rfl)) (by decide) (fun K hK => ?_)
               refine goes_ Tryz.func40 (by kernel_rfl) rfl #[.int .i64 ((a6z l0 x4_1).f4)] (by rfl) rfl rfl (by (try simp only [mA_,mC_,mN_]);first|done|rfl|(simp only [lD_,lT_];rfl)) ?_
               with_reducible refine (spec_l1Dec.calls k1 ((a6z l0 x4_1).f4) t106 _ A13.1).mono ?_
               rintro e w26 ⟨rfl,hb⟩
               refine ⟨_,rfl,?_⟩
               have n0_:=a1z.mk (c0z (g:=gb102) (o:=.cells #[.int .i64 ((a6z l0 x4_1).f0),.int .i64 ((a6z l0 x4_1).f1),.int .i64 ((a6z l0 x4_1).f2.f0),.int .i64 ((a6z l0 x4_1).f2.f1),.int .i64 ((a6z l0 x4_1).f3.f0),.int .i64 ((a6z l0 x4_1).f3.f1),.int .i64 ((a6z l0 x4_1).f4),.int .i64 ((a6z l0 x4_1).f5)] 39 (0,0)) (by (with_reducible repeat (first|refine a8z ?_ _|refine a9z ?_|refine blk_alloc ?_ _));exact BK102.1) hb)
               have n1_:=a1z.mk (b1z (by repeat (first|(with_reducible first|exact HB.1|apply a3z|apply a0z|apply a2z|refine a5z ?_ GE102.1)|exact HB.1)) hb)
               clear BK102 HB
               have BK102:=n0_
               have HB:=n1_
               clear n0_ n1_
               (try clear hb)
               (try clear hb2)
               (try clear hk)
               (try clear hi)
               refine hK.out _ _ ⟨(b7z BK102.1 0).trans rfl,(b7z BK102.1 1).trans rfl,(b7z BK102.1 2).trans rfl,(b7z BK102.1 3).trans rfl,(b7z BK102.1 4).trans rfl,(b7z BK102.1 5).trans rfl,(b7z BK102.1 6).trans rfl,(b7z BK102.1 7).trans rfl⟩ (fun hHeld => ?_)
               clear hK K
               refine norm_ (a':=?_) ?_ ?_
               rotate_left
               ·show Act.put _ (some 33) _ = _
                simp only [Act.put,sA_,sZ_,sS_,i64_w,i32_w]
                rfl
               refine pure_ (i:=18) (N:=some 34) (v:=?_) (a':=?_) #[true,true,true,true,true,true,true,true,true,true,true,true,true,true,true,true,true,true,true,false,true,true,false,false,false,false] rfl rfl (d1z HT_.1 (by kernel_rfl)) (fun _ _ _ h => h) (Or.inl ⟨by rfl,?_⟩) ?_ ?_
               rotate_left
               ·intro w'
                go_simp
                with_reducible rfl
               rotate_left
               ·simp only [Act.put,sA_,sZ_,sS_,i64_w,i32_w]
                rfl
               refine pure_ (i:=19) (N:=some 35) (v:=?_) (a':=?_) #[true,true,true,true,true,true,true,true,true,true,true,true,true,true,true,true,true,true,true,true,true,true,false,false,false,false] rfl rfl (d1z HT_.1 (by kernel_rfl)) (fun _ _ _ h => h) (Or.inl ⟨by rfl,?_⟩) ?_ ?_
               rotate_left
               ·intro w'
                go_simp
                with_reducible rfl
               rotate_left
               ·simp only [Act.put,sA_,sZ_,sS_,i64_w,i32_w]
                rfl
               refine one_ (i:=22) (N:=some 38) #[true,true,true,true,true,true,true,true,true,true,true,true,true,true,true,true,true,true,true,true,true,true,true,false,false,false] rfl rfl (e8z HT_.1 (by kernel_rfl)) (by decide) (fun K hK => ?_)
               refine goes_ Tryz.func40 (by kernel_rfl) rfl #[.int .i64 ((a6z l0 x4_1).f5)] (by rfl) rfl rfl (by (try simp only [mA_,mC_,mN_]);first|done|rfl|(simp only [lD_,lT_];rfl)) ?_
               with_reducible refine (spec_l1Dec.calls k1 ((a6z l0 x4_1).f5) t107 _ A16.1).mono ?_
               rintro e w27 ⟨rfl,hb⟩
               refine ⟨_,rfl,?_⟩
               have n0_:=a1z.mk (c0z (g:=gb102) (o:=.cells #[.int .i64 ((a6z l0 x4_1).f0),.int .i64 ((a6z l0 x4_1).f1),.int .i64 ((a6z l0 x4_1).f2.f0),.int .i64 ((a6z l0 x4_1).f2.f1),.int .i64 ((a6z l0 x4_1).f3.f0),.int .i64 ((a6z l0 x4_1).f3.f1),.int .i64 ((a6z l0 x4_1).f4),.int .i64 ((a6z l0 x4_1).f5)] 39 (0,0)) (by (with_reducible repeat (first|refine a8z ?_ _|refine a9z ?_|refine blk_alloc ?_ _));exact BK102.1) hb)
               have n1_:=a1z.mk (b1z (by repeat (first|(with_reducible first|exact HB.1|apply a3z|apply a0z|apply a2z|refine a5z ?_ GE102.1)|exact HB.1)) hb)
               clear BK102 HB
               have BK102:=n0_
               have HB:=n1_
               clear n0_ n1_
               (try clear hb)
               (try clear hb2)
               (try clear hk)
               (try clear hi)
               refine hK.out _ _ ⟨(b7z BK102.1 0).trans rfl,(b7z BK102.1 1).trans rfl,(b7z BK102.1 2).trans rfl,(b7z BK102.1 3).trans rfl,(b7z BK102.1 4).trans rfl,(b7z BK102.1 5).trans rfl,(b7z BK102.1 6).trans rfl,(b7z BK102.1 7).trans rfl⟩ (fun hHeld => ?_)
               clear hK K
               refine norm_ (a':=?_) ?_ ?_
               rotate_left
               ·show Act.put _ (some 38) _ = _
                simp only [Act.put,sA_,sZ_,sS_,i64_w,i32_w]
                rfl
               refine pure_ (i:=23) (N:=some 39) (v:=?_) (a':=?_) #[true,true,true,true,true,true,true,true,true,true,true,true,true,true,true,true,true,true,true,true,true,true,true,true,false,false] rfl rfl (d1z HT_.1 (by kernel_rfl)) (fun _ _ _ h => h) (Or.inl ⟨by rfl,?_⟩) ?_ ?_
               rotate_left
               ·intro w'
                go_simp
                with_reducible rfl
               rotate_left
               ·simp only [Act.put,sA_,sZ_,sS_,i64_w,i32_w]
                rfl
               refine pure_ (i:=24) (N:=some 40) (v:=?_) (a':=?_) #[true,true,true,true,true,true,true,true,true,true,true,true,true,true,true,true,true,true,true,true,true,true,true,true,true,false] rfl rfl (d1z HT_.1 (by kernel_rfl)) (fun _ _ _ h => h) (Or.inl ⟨by rfl,?_⟩) ?_ ?_
               rotate_left
               ·intro w'
                go_simp
                with_reducible rfl
               rotate_left
               ·simp only [Act.put,sA_,sZ_,sS_,i64_w,i32_w]
                rfl
               refine pure_ (i:=25) (N:=some 3) (v:=?_) (a':=?_) #[true,true,true,true,true,true,true,true,true,true,true,true,true,true,true,true,true,true,true,true,true,true,true,true,true,true] rfl rfl (d1z HT_.1 (by kernel_rfl)) (fun _ _ _ h => h) (Or.inl ⟨by rfl,?_⟩) ?_ ?_
               rotate_left
               ·intro w'
                go_simp
                with_reducible rfl
               rotate_left
               ·simp only [Act.put,sA_,sZ_,sS_,i64_w,i32_w]
                rfl
               refine done_ (g8z HT_.1 (by kernel_rfl)) ?_
               try go_wp2
               go_roundg k1
               case measure => have:=HK1.1;omega
               case rel => exact ⟨((((((((((x3_1 ++ t103) ++ (⟨#[32]⟩ : ByteArray)) ++ t104) ++ (⟨#[32]⟩ : ByteArray)) ++ t105) ++ (⟨#[32]⟩ : ByteArray)) ++ t106) ++ (⟨#[45]⟩ : ByteArray)) ++ t107) ++ (⟨#[10]⟩ : ByteArray)),(wrap64 (x4_1 + 1)),(by first|rfl|(simp;done)|(simp [*];done)),(by first|rfl|(simp;done)|(simp [*];done)),H',⟨by have:=HK1.1;omega⟩,⟨by repeat (first|(with_reducible first|exact HB.1|apply a3z|apply a0z|apply a2z|refine a5z ?_ GE102.1)|exact HB.1)⟩⟩
              ·rw [if_neg c18] at H
               exact absurd H (by simp)
             ·rw [if_neg c17] at H
              exact absurd H (by simp)
            ·rw [if_neg c15] at H
             exact absurd H (by simp)
           ·rw [if_neg c14] at H
            exact absurd H (by simp)
          ·rw [if_neg c12] at H
           exact absurd H (by simp)
         ·rw [if_neg c11] at H
          exact absurd H (by simp)
        ·rw [if_neg c9] at H
         exact absurd H (by simp)
       ·rw [if_neg c8] at H
        exact absurd H (by simp)
      ·rw [if_neg c6] at H
       exact absurd H (by simp)
     ·rw [if_neg c5] at H
      exact absurd H (by simp)
    ·rw [if_neg c3] at H
     exact absurd H (by simp)
   ·rw [if_neg c2] at H
    have c2b0 : decide (x4_1 < (l0.length : Int)) = false:=decide_eq_false c2
    clear c2
    obtain rfl:=Option.some.inj H
    go_wp2
    go_ret
    exact ⟨by first|rfl|(simp [b5z,b4z] <;> rfl)|(simp [*,b5z,b4z] <;> rfl),by repeat (first|(with_reducible first|exact HB.1|apply a3z|apply a0z|apply a2z)|exact HB.1)⟩
def spec_RulesGet.l0 : Nat → ByteArray → List ByteArray → List (S39) → Int → Option ((List (S39)) × Bool)
 | 0,_,_,_,_ => none
 | k + 1,x0,x4,x5,x6 => if (wrap64 (x6 + 1)) < (x4.length : Int) then (if 0 ≤ x6 then (if x6 < (x4.length : Int) then ((spec_l4Line.f k (rdOf ByteArray.empty x4 x6)).bind fun bt108 => (if bt108.2.2.2.2.2.2.2.2 = true then (if x5.length < 2199023255552 then (spec_RulesGet.l0 k x0 x4 (x5 ++ [(⟨bt108.1,bt108.2.1,(⟨bt108.2.2.1,bt108.2.2.2.1⟩ : S37),(⟨bt108.2.2.2.2.1,bt108.2.2.2.2.2.1⟩ : S37),bt108.2.2.2.2.2.2.1,bt108.2.2.2.2.2.2.2.1⟩ : S39)]) (wrap64 (x6 + 1))) else (none)) else (some ((([] : List (S39))),false)))) else (none)) else (none)) else ((spec_RulesOk.f k x5).bind fun t124 => (if t124 = true then ((spec_l4Put.f k x5).bind fun t125 => (if t125.toList = x0.toList then (some (x5,true)) else (some ((([] : List (S39))),false)))) else (some ((([] : List (S39))),false))))
def spec_RulesGet.f (k : Nat) (a0 : ByteArray) : Option ((List (S39)) × Bool):=(spec_l1Cut.f k a0 10).bind fun t101 => (spec_RulesGet.l0 k a0 t101 (([] : List (S39))) 0)
set_option maxHeartbeats 8000000 in
set_option maxRecDepth 100000 in
theorem spec_RulesGet.calls (k : Nat) (a0 : ByteArray) (r1 : List (S39)) (r2 : Bool) (w : World) (h : spec_RulesGet.f k a0 = some (r1,r2)) :
  Calls Tryz.prog 5 #[.string a0] w fun e w' => ∃ v0_ : Value,e = .returned (.tuple #[v0_,.bool r2]) ∧ Kd.R k39 39 w' w.heap.size (fun _ => True) v0_ r1 ∧ Below w.heap.size w w':=by
 have hu39:=Tryz.underlying39
 have HB:=a1z.mk (Below.refl w.heap.size w)
 have H : ((spec_l1Cut.f k a0 10).bind fun t101 => (spec_RulesGet.l0 k a0 t101 (([] : List (S39))) 0)) = some (r1,r2):=h
 clear h
 replace H:=Option.bind_eq_some_iff.mp H
 obtain ⟨t101,A20,H⟩:=H
 replace H : (spec_RulesGet.l0 k a0 t101 (([] : List (S39))) 0) = some (r1,r2):=H
 have A2:=a1z.mk A20
 clear A20
 obtain ⟨y104,hy104⟩ : ∃ y_ : List (S39),y_ = (([] : List (S39))):=⟨_,rfl⟩
 replace H : (spec_RulesGet.l0 k a0 t101 y104 0) = some (r1,r2):=by first|(rw [hy104];with_reducible exact H)|(have H2_:=(Option.bind_some _ _).symm.trans H;rw [hy104];with_reducible exact H2_)|(have H2_:=(Option.bind_some _ _).symm.trans H;with_reducible exact H2_)|with_reducible exact H|(rw [hy104];exact H)|exact H
 have Ny104:=a1z.mk hy104
 clear hy104
 have H':=a1z.mk H
 clear H
 go_enter Tryz.func5,Tryz.ntmps5
 go_wp2_with (first|((with_reducible refine b2z (f:=16) rfl ?_);refine c1z (some 10) rfl rfl Tryz.func16 (by kernel_rfl) rfl #[.string a0,.int .u8 10] rfl (by (try simp only [mA_,mC_,mN_]);first|done|rfl|(simp only [lD_,lT_];rfl)) ?_;(with_reducible refine (spec_l1Cut.calls k a0 10 t101 _ A2.1).mono ?_);rintro e w3 ⟨v102,rfl,ho0,hb⟩;refine ⟨_,rfl,?_⟩;have n0_:=a1z.mk (Kd.e1z ho0 (b8z (by repeat (first|(with_reducible first|exact HB.1|apply a3z|apply a0z|apply a2z)|exact HB.1))));have n1_:=a1z.mk (b1z (by repeat (first|(with_reducible first|exact HB.1|apply a3z|apply a0z|apply a2z)|exact HB.1)) hb);clear HB;have HO103:=n0_;have HB:=n1_;clear n0_ n1_;(try clear hb);(try clear ho0))|((with_reducible refine c5z (N:=11) rfl ?_);refine Kd.R_lit k39 _ 39 ?hg (N:=11) ?hd (xs:=([] : List (S39))) (inner:=[]) (ok:=fun _ => True) (okp:=fun _ => True) ?hr ?hp (fun _ hk => hk) trivial (Below.refl _ _) (Nat.le_refl _) (by simp) ?_;(case hd => rfl);(case hg => rfl);(case hr => first|(go_simp;done)|(go_simp;rfl));(case hp => exact (Reps.none _ _));intro v105 w4 ho5 hb hg_ hnew_;clear hg_ hnew_;(first|rw [← Ny104.1] at ho5|(simp only [Int.reduceToNat] at ho5;rw [← Ny104.1] at ho5));have n0_:=a1z.mk (Kd.d3z (by (with_reducible repeat (first|apply Kd.R_alloc|apply Kd.b6z|apply Kd.b9z));exact HO103.1) hb);have n1_:=a1z.mk (Kd.e1z ho5 (b8z (by repeat (first|(with_reducible first|exact HB.1|apply a3z|apply a0z|apply a2z)|exact HB.1))));have n2_:=a1z.mk (b1z (by repeat (first|(with_reducible first|exact HB.1|apply a3z|apply a0z|apply a2z)|exact HB.1)) hb);clear HO103 HB;have HO103:=n0_;have HO106:=n1_;have HB:=n2_;clear n0_ n1_ n2_;clear hb ho5))
 go_loopg [5,6] k (fun kq v5 v6 w' => ∃ (x5_1 : List (S39)) (x6_1 : Int),v6 = .int .i64 x6_1 ∧ a1z (spec_RulesGet.l0 kq a0 t101 x5_1 x6_1 = some (r1,r2)) ∧ a1z (kq ≤ k) ∧ a1z (Kd.R Kd.string 9 w' w.heap.size (fun _ => True) v102 t101) ∧ a1z (Kd.R k39 39 w' w.heap.size (fun _ => True) v5 x5_1) ∧ a1z (Below w.heap.size w w'))
 case atStart => exact ⟨(y104),(0),(by first|rfl|(simp;done)|(simp [*];done)),H',⟨Nat.le_refl _⟩,⟨by (with_reducible repeat (first|apply Kd.R_alloc|apply Kd.b6z|apply Kd.b9z));exact HO103.1⟩,⟨by (with_reducible repeat (first|apply Kd.R_alloc|apply Kd.b6z|apply Kd.b9z));exact HO106.1⟩,⟨by repeat (first|(with_reducible first|exact HB.1|apply a3z|apply a0z|apply a2z)|exact HB.1)⟩⟩
 case round =>
  clear H'
  try clear c1
  try clear p2
  try clear c5
  obtain ⟨x5_1,x6_1,rfl,HA,HK1,HO_4,HO_5,HB⟩:=hrel
  cases gk with
  | zero => exact absurd HA.1 (by simp [spec_RulesGet.l0])
  | succ k1 =>
   have H:=HA.1
   clear HA
   simp only [spec_RulesGet.l0] at H
   by_cases c6 : (wrap64 (x6_1 + 1)) < (t101.length : Int)
   ·rw [if_pos c6] at H
    have c6b0 : decide ((wrap64 (x6_1 + 1)) < (t101.length : Int)) = true:=decide_eq_true c6
    clear c6
    by_cases c7 : 0 ≤ x6_1
    ·rw [if_pos c7] at H
     have c7b0 : decide (0 ≤ x6_1) = true:=decide_eq_true c7
     clear c7
     by_cases c8 : x6_1 < (t101.length : Int)
     ·rw [if_pos c8] at H
      have c8b0 : decide (x6_1 < (t101.length : Int)) = true:=decide_eq_true c8
      clear c8
      replace H:=Option.bind_eq_some_iff.mp H
      obtain ⟨⟨t108,t109,t110,t111,t112,t113,t114,t115,t116⟩,A90,H⟩:=H
      replace H : (if t116 = true then (if x5_1.length < 2199023255552 then (spec_RulesGet.l0 k1 a0 t101 (x5_1 ++ [(⟨t108,t109,(⟨t110,t111⟩ : S37),(⟨t112,t113⟩ : S37),t114,t115⟩ : S39)]) (wrap64 (x6_1 + 1))) else (none)) else (some ((([] : List (S39))),false))) = some (r1,r2):=H
      have A9:=a1z.mk A90
      clear A90
      by_cases c10 : t116 = true
      ·subst c10
       have H1 : (if x5_1.length < 2199023255552 then (spec_RulesGet.l0 k1 a0 t101 (x5_1 ++ [(⟨t108,t109,(⟨t110,t111⟩ : S37),(⟨t112,t113⟩ : S37),t114,t115⟩ : S39)]) (wrap64 (x6_1 + 1))) else (none)) = some (r1,r2):=by rw [if_pos rfl] at H;exact H
       clear H
       have H:=H1
       clear H1
       by_cases c11 : x5_1.length < 2199023255552
       ·rw [if_pos c11] at H
        have LMc11:=a1z.mk c11
        clear c11
        obtain ⟨y118,hy118⟩ : ∃ y_ : List (S39),y_ = (x5_1 ++ [(⟨t108,t109,(⟨t110,t111⟩ : S37),(⟨t112,t113⟩ : S37),t114,t115⟩ : S39)]):=⟨_,rfl⟩
        replace H : (spec_RulesGet.l0 k1 a0 t101 y118 (wrap64 (x6_1 + 1))) = some (r1,r2):=by first|(rw [hy118];with_reducible exact H)|(have H2_:=(Option.bind_some _ _).symm.trans H;rw [hy118];with_reducible exact H2_)|(have H2_:=(Option.bind_some _ _).symm.trans H;with_reducible exact H2_)|with_reducible exact H|(rw [hy118];exact H)|exact H
        have Ny118:=a1z.mk hy118
        clear hy118
        have H':=a1z.mk H
        clear H
        obtain ⟨Ao12,co12,eo12⟩:=Kd.e0z HO_4.1
        subst eo12
        have p107 : 0 ≤ (x6_1 : Int):=of_decide_eq_true (by first|(with_reducible assumption)|assumption)
        have q107 : x6_1 < (t101.length : Int):=of_decide_eq_true (by first|(with_reducible assumption)|assumption)
        obtain ⟨ad107,e107,hx107_0⟩:=Kd.e7z (Kd.c2z HO_4.1).2.2 x6_1 p107 q107
        cases e107
        replace p107:=eq_true p107
        replace q107:=eq_true q107
        go_wp2_with (first|((with_reducible refine b2z (f:=17) rfl ?_);refine c1z (some 24) rfl rfl Tryz.func17 (by kernel_rfl) rfl #[.string (rdOf ByteArray.empty t101 x6_1)] rfl (by (try simp only [mA_,mC_,mN_]);first|done|rfl|(simp only [lD_,lT_];rfl)) ?_;(with_reducible refine (spec_l4Line.calls k1 (rdOf ByteArray.empty t101 x6_1) t108 t109 t110 t111 t112 t113 t114 t115 true _ A9.1).mono ?_);rintro e w13 ⟨rfl,hb⟩;refine ⟨_,rfl,?_⟩;have n0_:=a1z.mk (Kd.d3z (by (with_reducible repeat (first|apply Kd.R_alloc|apply Kd.b6z|apply Kd.b9z));exact HO_4.1) hb);have n1_:=a1z.mk (Kd.d3z (by (with_reducible repeat (first|apply Kd.R_alloc|apply Kd.b6z|apply Kd.b9z));exact HO_5.1) hb);have n2_:=a1z.mk (b1z (by repeat (first|(with_reducible first|exact HB.1|apply a3z|apply a0z|apply a2z)|exact HB.1)) hb);clear HO_4 HO_5 HB;have HO_4:=n0_;have HO_5:=n1_;have HB:=n2_;clear n0_ n1_ n2_;(try clear hb))|((with_reducible refine c5z (N:=7) rfl ?_);refine d2z ?hg (N:=7) ?hd (cs:=#[.int .i64 0,.int .i64 0,.int .i64 0,.int .i64 0,.int .i64 0,.int .i64 0,.int .i64 0,.int .i64 0]) (t:=39) ?hr ?_;(case hd => rfl);(case hg => rfl);(case hr => first|(go_simp;done)|(go_simp;rfl));intro gb117 hg w14 hbox hb;have n0_:=a1z.mk (Kd.d3z (by (with_reducible repeat (first|apply Kd.R_alloc|apply Kd.b6z|apply Kd.b9z));exact HO_4.1) hb);have n1_:=a1z.mk (Kd.d3z (Kd.R_elderB (by (with_reducible repeat (first|apply Kd.R_alloc|apply Kd.b6z|apply Kd.b9z));exact HO_5.1) gb117 (Nat.le_of_eq hg.symm)) hb);have n2_:=a1z.mk (b1z (by repeat (first|(with_reducible first|exact HB.1|apply a3z|apply a0z|apply a2z)|exact HB.1)) hb);have n3_:=a1z.mk (hbox);have n4_:=a1z.mk ((by rw [hg];exact (b8z (by repeat (first|(with_reducible first|exact HB.1|apply a3z|apply a0z|apply a2z)|exact HB.1))) : w.heap.size ≤ gb117));have n5_:=a1z.mk ((by rw [hg];exact (b8z (by repeat (first|(with_reducible first|exact HB.1|apply a3z|apply a0z|apply a2z)|exact HB.1))) : w.heap.size ≤ gb117));clear HO_4 HO_5 HB;have HO_4:=n0_;have HO_5:=n1_;have HB:=n2_;have BK117:=n3_;have GW117:=n4_;have GE117:=n5_;clear n0_ n1_ n2_ n3_ n4_ n5_;clear hb hbox hg;have hcz15_0:=c80_ BK117.1;have hcz15_1:=c81_ BK117.1;have hcz15_2:=c82_ BK117.1;have hcz15_3:=c83_ BK117.1;have hcz15_4:=c84_ BK117.1;have hcz15_5:=c85_ BK117.1;have hcz15_6:=c86_ BK117.1;have hcz15_7:=c87_ BK117.1;have hfz15_0:=a4z BK117.1 0;have hfz15_1:=a4z BK117.1 1;have hfz15_2:=a4z BK117.1 2;have hfz15_3:=a4z BK117.1 3;have hfz15_4:=a4z BK117.1 4;have hfz15_5:=a4z BK117.1 5;have hfz15_6:=a4z BK117.1 6;have hfz15_7:=a4z BK117.1 7)|((with_reducible refine g7z (b:=.append) (xs:=#[.tmp 30,.tmp 32]) rfl ?_);at_builtin;refine Kd.R_append k39 (w0:=w) w.heap.size rfl (.tmp 30) (.tmp 32) 22 39 (.agg #[(.int .i64 0),(.int .i64 0),(.int .i64 0),(.int .i64 0),(.int .i64 0),(.int .i64 0),(.int .i64 0),(.int .i64 0)]) 64 rfl Tryz.underlying22 info39 rfl (by decide) (by omega) u5 x5_1 (⟨t108,t109,(⟨t110,t111⟩ : S37),(⟨t112,t113⟩ : S37),t114,t115⟩ : S39) [.int .i64 t108,.int .i64 t109,.int .i64 t110,.int .i64 t111,.int .i64 t112,.int .i64 t113,.int .i64 t114,.int .i64 t115] (fun k_ => k_ ≠ gb117) (fun _ => False) rfl (by first|(go_simp;done)|(go_simp;rfl)) ?aP (fun _ hk => hk.elim) ?aF ?aO ?aB ?aS ?aL ?_;(case aP => exact k39_mkM _ _ _ (⟨t108,t109,(⟨t110,t111⟩ : S37),(⟨t112,t113⟩ : S37),t114,t115⟩ : S39));(case aB => exact (by repeat (first|(with_reducible first|exact HB.1|apply a3z|apply a0z|apply a2z|refine a5z ?_ GE117.1)|exact HB.1)));(case aF => exact (fun k_ hk => Kd.freshB (g:=gb117) (o:=.cells #[.int .i64 t108,.int .i64 t109,.int .i64 t110,.int .i64 t111,.int .i64 t112,.int .i64 t113,.int .i64 t114,.int .i64 t115] 39 (0,0)) (by (with_reducible repeat (first|refine a8z ?_ _|refine a9z ?_|refine blk_alloc ?_ _));refine p8_ ?_;(with_reducible repeat (first|refine a8z ?_ _|refine a9z ?_|refine blk_alloc ?_ _));exact BK117.1) k_ hk));(case aO => exact (by (with_reducible repeat (first|apply Kd.R_alloc|apply Kd.b6z|apply Kd.b9z));exact Kd.c9z (f8_ (g:=gb117) (Kd.c9z HO_5.1 (fun k_ hk => (⟨hk,hk.2⟩ : _ ∧ k_ ≠ gb117))) (fun _ hk => hk.2) (.int .i64 t108) (.int .i64 t109) (.int .i64 t110) (.int .i64 t111) (.int .i64 t112) (.int .i64 t113) (.int .i64 t114) (.int .i64 t115)) (fun _ hk => hk.1.2)));(case aS => exact (b8z (by repeat (first|(with_reducible first|exact HB.1|apply a3z|apply a0z|apply a2z|refine a5z ?_ GE117.1)|exact HB.1))));(case aL => have:=LMc11.1;omega);intro v119 w16 ho hb hg hat;rw [← Ny118.1] at ho;have n0_:=a1z.mk (Kd.R_over' (by (with_reducible repeat (first|apply Kd.R_alloc|apply Kd.b6z|apply Kd.b9z));exact (Kd.c9z (f8_ (g:=gb117) (Kd.g9z HO_4.1 BK117.1 (by decide)) (fun _ hk => hk.2) (.int .i64 t108) (.int .i64 t109) (.int .i64 t110) (.int .i64 t111) (.int .i64 t112) (.int .i64 t113) (.int .i64 t114) (.int .i64 t115)) (fun _ h_ => h_.1))) (Kd.R_typed (by (with_reducible repeat (first|apply Kd.R_alloc|apply Kd.b6z|apply Kd.b9z));exact (Kd.c9z (f8_ (g:=gb117) (Kd.c9z HO_5.1 (fun k_ hk => (⟨hk,hk.2⟩ : _ ∧ k_ ≠ gb117))) (fun _ hk => hk.2) (.int .i64 t108) (.int .i64 t109) (.int .i64 t110) (.int .i64 t111) (.int .i64 t112) (.int .i64 t113) (.int .i64 t114) (.int .i64 t115)) (fun _ h_ => h_.1)))) (by decide) hg);have n1_:=a1z.mk (blk_grown (g:=gb117) (o:=.cells #[.int .i64 t108,.int .i64 t109,.int .i64 t110,.int .i64 t111,.int .i64 t112,.int .i64 t113,.int .i64 t114,.int .i64 t115] 39 (0,0)) (by (with_reducible repeat (first|refine a8z ?_ _|refine a9z ?_|refine blk_alloc ?_ _));refine p8_ ?_;(with_reducible repeat (first|refine a8z ?_ _|refine a9z ?_|refine blk_alloc ?_ _));exact BK117.1) hg (Kd.R_away HO_5.1 (fun _ hk => hk.2)));have n2_:=a1z.mk (hb);have n3_:=a1z.mk (ho);clear HO_4 BK117 HB HO_5;have HO_4:=n0_;have BK117:=n1_;have HB:=n2_;have HO120:=n3_;clear n0_ n1_ n2_ n3_;clear ho hb hg hat))
        go_roundg k1
        case measure => have:=HK1.1;omega
        case rel => exact ⟨(y118),(wrap64 (x6_1 + 1)),(by first|rfl|(simp;done)|(simp [*];done)),H',⟨by have:=HK1.1;omega⟩,⟨by (with_reducible repeat (first|apply Kd.R_alloc|apply Kd.b6z|apply Kd.b9z));exact HO_4.1⟩,⟨by (with_reducible repeat (first|apply Kd.R_alloc|apply Kd.b6z|apply Kd.b9z));exact Kd.c9z HO120.1 (fun _ hk => trivial)⟩,⟨by repeat (first|(with_reducible first|exact HB.1|apply a3z|apply a0z|apply a2z|refine a5z ?_ GE117.1)|exact HB.1)⟩⟩
       ·rw [if_neg c11] at H
        exact absurd H (by simp)
      ·replace c10:=Bool.eq_false_iff.mpr c10
       subst c10
       have H1 : (some ((([] : List (S39))),false)) = some (r1,r2):=by rw [if_neg (show ¬ (false = true) by decide)] at H;exact H
       clear H
       have H:=H1
       clear H1
       obtain ⟨y121,hy121⟩ : ∃ y_ : List (S39),y_ = (([] : List (S39))):=⟨_,rfl⟩
       replace H : (some (y121,false)) = some (r1,r2):=by first|(rw [hy121];with_reducible exact H)|(have H2_:=(Option.bind_some _ _).symm.trans H;rw [hy121];with_reducible exact H2_)|(have H2_:=(Option.bind_some _ _).symm.trans H;with_reducible exact H2_)|with_reducible exact H|(rw [hy121];exact H)|exact H
       have Ny121:=a1z.mk hy121
       clear hy121
       simp only [Option.some.injEq,Prod.mk.injEq] at H
       obtain ⟨rfl,rfl⟩:=H
       obtain ⟨Ao17,co17,eo17⟩:=Kd.e0z HO_4.1
       subst eo17
       have p107 : 0 ≤ (x6_1 : Int):=of_decide_eq_true (by first|(with_reducible assumption)|assumption)
       have q107 : x6_1 < (t101.length : Int):=of_decide_eq_true (by first|(with_reducible assumption)|assumption)
       obtain ⟨ad107,e107,hx107_0⟩:=Kd.e7z (Kd.c2z HO_4.1).2.2 x6_1 p107 q107
       cases e107
       replace p107:=eq_true p107
       replace q107:=eq_true q107
       go_wp2_with (first|((with_reducible refine b2z (f:=17) rfl ?_);refine c1z (some 24) rfl rfl Tryz.func17 (by kernel_rfl) rfl #[.string (rdOf ByteArray.empty t101 x6_1)] rfl (by (try simp only [mA_,mC_,mN_]);first|done|rfl|(simp only [lD_,lT_];rfl)) ?_;(with_reducible refine (spec_l4Line.calls k1 (rdOf ByteArray.empty t101 x6_1) t108 t109 t110 t111 t112 t113 t114 t115 false _ A9.1).mono ?_);rintro e w18 ⟨rfl,hb⟩;refine ⟨_,rfl,?_⟩;have n0_:=a1z.mk (Kd.d3z (by (with_reducible repeat (first|apply Kd.R_alloc|apply Kd.b6z|apply Kd.b9z));exact HO_4.1) hb);have n1_:=a1z.mk (Kd.d3z (by (with_reducible repeat (first|apply Kd.R_alloc|apply Kd.b6z|apply Kd.b9z));exact HO_5.1) hb);have n2_:=a1z.mk (b1z (by repeat (first|(with_reducible first|exact HB.1|apply a3z|apply a0z|apply a2z)|exact HB.1)) hb);clear HO_4 HO_5 HB;have HO_4:=n0_;have HO_5:=n1_;have HB:=n2_;clear n0_ n1_ n2_;(try clear hb))|((with_reducible refine c5z (N:=7) rfl ?_);refine d2z ?hg (N:=7) ?hd (cs:=#[.int .i64 0,.int .i64 0,.int .i64 0,.int .i64 0,.int .i64 0,.int .i64 0,.int .i64 0,.int .i64 0]) (t:=39) ?hr ?_;(case hd => rfl);(case hg => rfl);(case hr => first|(go_simp;done)|(go_simp;rfl));intro gb117 hg w19 hbox hb;have n0_:=a1z.mk (Kd.d3z (by (with_reducible repeat (first|apply Kd.R_alloc|apply Kd.b6z|apply Kd.b9z));exact HO_4.1) hb);have n1_:=a1z.mk (Kd.d3z (Kd.R_elderB (by (with_reducible repeat (first|apply Kd.R_alloc|apply Kd.b6z|apply Kd.b9z));exact HO_5.1) gb117 (Nat.le_of_eq hg.symm)) hb);have n2_:=a1z.mk (b1z (by repeat (first|(with_reducible first|exact HB.1|apply a3z|apply a0z|apply a2z)|exact HB.1)) hb);have n3_:=a1z.mk (hbox);have n4_:=a1z.mk ((by rw [hg];exact (b8z (by repeat (first|(with_reducible first|exact HB.1|apply a3z|apply a0z|apply a2z)|exact HB.1))) : w.heap.size ≤ gb117));have n5_:=a1z.mk ((by rw [hg];exact (b8z (by repeat (first|(with_reducible first|exact HB.1|apply a3z|apply a0z|apply a2z)|exact HB.1))) : w.heap.size ≤ gb117));clear HO_4 HO_5 HB;have HO_4:=n0_;have HO_5:=n1_;have HB:=n2_;have BK117:=n3_;have GW117:=n4_;have GE117:=n5_;clear n0_ n1_ n2_ n3_ n4_ n5_;clear hb hbox hg;have hcz20_0:=c80_ BK117.1;have hcz20_1:=c81_ BK117.1;have hcz20_2:=c82_ BK117.1;have hcz20_3:=c83_ BK117.1;have hcz20_4:=c84_ BK117.1;have hcz20_5:=c85_ BK117.1;have hcz20_6:=c86_ BK117.1;have hcz20_7:=c87_ BK117.1;have hfz20_0:=a4z BK117.1 0;have hfz20_1:=a4z BK117.1 1;have hfz20_2:=a4z BK117.1 2;have hfz20_3:=a4z BK117.1 3;have hfz20_4:=a4z BK117.1 4;have hfz20_5:=a4z BK117.1 5;have hfz20_6:=a4z BK117.1 6;have hfz20_7:=a4z BK117.1 7)|((with_reducible refine c5z (N:=29) rfl ?_);refine Kd.R_lit k39 _ 39 ?hg (N:=29) ?hd (xs:=([] : List (S39))) (inner:=[]) (ok:=fun _ => True) (okp:=fun _ => True) ?hr ?hp (fun _ hk => hk) trivial (Below.refl _ _) (Nat.le_refl _) (by simp) ?_;(case hd => rfl);(case hg => rfl);(case hr => first|(go_simp;done)|(go_simp;rfl));(case hp => exact (Reps.none _ _));intro v122 w21 ho22 hb hg_ hnew_;clear hg_ hnew_;(first|rw [← Ny121.1] at ho22|(simp only [Int.reduceToNat] at ho22;rw [← Ny121.1] at ho22));have n0_:=a1z.mk (Kd.d3z (by (with_reducible repeat (first|apply Kd.R_alloc|apply Kd.b6z|apply Kd.b9z));exact (Kd.c9z (f8_ (g:=gb117) (Kd.g9z HO_4.1 BK117.1 (by decide)) (fun _ hk => hk.2) (.int .i64 t108) (.int .i64 t109) (.int .i64 t110) (.int .i64 t111) (.int .i64 t112) (.int .i64 t113) (.int .i64 t114) (.int .i64 t115)) (fun _ h_ => h_.1))) hb);have n1_:=a1z.mk (Kd.f8z (by (with_reducible repeat (first|apply Kd.R_alloc|apply Kd.b6z|apply Kd.b9z));exact (Kd.c9z (f8_ (g:=gb117) (Kd.c9z HO_5.1 (fun k_ hk => (⟨hk,hk.2⟩ : _ ∧ k_ ≠ gb117))) (fun _ hk => hk.2) (.int .i64 t108) (.int .i64 t109) (.int .i64 t110) (.int .i64 t111) (.int .i64 t112) (.int .i64 t113) (.int .i64 t114) (.int .i64 t115)) (fun _ h_ => h_.1))) (Kd.g3z ho22) hb);have n2_:=a1z.mk (Kd.e1z (Kd.R_newB (Kd.g2z ho22 (Kd.R_lt (by (with_reducible repeat (first|apply Kd.R_alloc|apply Kd.b6z|apply Kd.b9z));exact (Kd.c9z (f8_ (g:=gb117) (Kd.c9z HO_5.1 (fun k_ hk => (⟨hk,hk.2⟩ : _ ∧ k_ ≠ gb117))) (fun _ hk => hk.2) (.int .i64 t108) (.int .i64 t109) (.int .i64 t110) (.int .i64 t111) (.int .i64 t112) (.int .i64 t113) (.int .i64 t114) (.int .i64 t115)) (fun _ h_ => h_.1))))) (g:=gb117) (o:=.cells #[.int .i64 t108,.int .i64 t109,.int .i64 t110,.int .i64 t111,.int .i64 t112,.int .i64 t113,.int .i64 t114,.int .i64 t115] 39 (0,0)) (by (with_reducible repeat (first|refine a8z ?_ _|refine a9z ?_|refine blk_alloc ?_ _));refine p8_ ?_;(with_reducible repeat (first|refine a8z ?_ _|refine a9z ?_|refine blk_alloc ?_ _));exact BK117.1)) (b8z (by repeat (first|(with_reducible first|exact HB.1|apply a3z|apply a0z|apply a2z|refine a5z ?_ GE117.1)|exact HB.1))));have n3_:=a1z.mk (c0z (g:=gb117) (o:=.cells #[.int .i64 t108,.int .i64 t109,.int .i64 t110,.int .i64 t111,.int .i64 t112,.int .i64 t113,.int .i64 t114,.int .i64 t115] 39 (0,0)) (by (with_reducible repeat (first|refine a8z ?_ _|refine a9z ?_|refine blk_alloc ?_ _));refine p8_ ?_;(with_reducible repeat (first|refine a8z ?_ _|refine a9z ?_|refine blk_alloc ?_ _));exact BK117.1) hb);have n4_:=a1z.mk (b1z (by repeat (first|(with_reducible first|exact HB.1|apply a3z|apply a0z|apply a2z|refine a5z ?_ GE117.1)|exact HB.1)) hb);clear HO_4 HO_5 BK117 HB;have HO_4:=n0_;have HO_5:=n1_;have HO123:=n2_;have BK117:=n3_;have HB:=n4_;clear n0_ n1_ n2_ n3_ n4_;clear hb ho22))
       go_ret2
       exact ⟨_,by first|rfl|(simp [b5z,b4z] <;> rfl)|(simp [*,b5z,b4z] <;> rfl),by (with_reducible repeat (first|apply Kd.R_alloc|apply Kd.b6z|apply Kd.b9z));exact Kd.c9z HO123.1 (fun _ hk => trivial),by repeat (first|(with_reducible first|exact HB.1|apply a3z|apply a0z|apply a2z|refine a5z ?_ GE117.1)|exact HB.1)⟩
     ·rw [if_neg c8] at H
      exact absurd H (by simp)
    ·rw [if_neg c7] at H
     exact absurd H (by simp)
   ·rw [if_neg c6] at H
    have c6b0 : decide ((wrap64 (x6_1 + 1)) < (t101.length : Int)) = false:=decide_eq_false c6
    clear c6
    replace H:=Option.bind_eq_some_iff.mp H
    obtain ⟨t124,A230,H⟩:=H
    replace H : (if t124 = true then ((spec_l4Put.f k1 x5_1).bind fun t125 => (if t125.toList = a0.toList then (some (x5_1,true)) else (some ((([] : List (S39))),false)))) else (some ((([] : List (S39))),false))) = some (r1,r2):=H
    have A23:=a1z.mk A230
    clear A230
    by_cases c24 : t124 = true
    ·subst c24
     have H1 : ((spec_l4Put.f k1 x5_1).bind fun t125 => (if t125.toList = a0.toList then (some (x5_1,true)) else (some ((([] : List (S39))),false)))) = some (r1,r2):=by rw [if_pos rfl] at H;exact H
     clear H
     have H:=H1
     clear H1
     replace H:=Option.bind_eq_some_iff.mp H
     obtain ⟨t125,A250,H⟩:=H
     replace H : (if t125.toList = a0.toList then (some (x5_1,true)) else (some ((([] : List (S39))),false))) = some (r1,r2):=H
     have A25:=a1z.mk A250
     clear A250
     by_cases c26 : t125.toList = a0.toList
     ·rw [if_pos c26] at H
      have c26b0 : (t125.toList == a0.toList) = true:=beq_iff_eq.mpr c26
      have c26b1 : (t125.toList != a0.toList) = false:=bne_eq_false_iff_eq.mpr c26
      clear c26
      simp only [Option.some.injEq,Prod.mk.injEq] at H
      obtain ⟨rfl,rfl⟩:=H
      obtain ⟨Ao27,co27,eo27⟩:=Kd.e0z HO_4.1
      subst eo27
      obtain ⟨Ao28,co28,eo28⟩:=Kd.e0z HO_5.1
      subst eo28
      go_wp2_with (first|((with_reducible refine b2z (f:=13) rfl ?_);refine c1z (some 35) rfl rfl Tryz.func13 (by kernel_rfl) rfl #[.slice Ao28 x5_1.length co28] rfl (by (try simp only [mA_,mC_,mN_]);first|done|rfl|(simp only [lD_,lT_];rfl)) ?_;(with_reducible refine (spec_RulesOk.calls k1 _ _ x5_1 true _ ?side1 ?side2 A23.1).mono ?_);(case side1 => repeat (first|exact (Kd.c2z HO_5.1).2.2|(with_reducible refine Kd.C_alloc ?_ _)|(with_reducible refine Kd.C_drewN ?_ _)|(with_reducible refine Kd.e5z ?_)));(case side2 => exact (Kd.c2z HO_5.1).2.1);rintro e w29 ⟨rfl,hb⟩;refine ⟨_,rfl,?_⟩;have n0_:=a1z.mk (Kd.d3z (by (with_reducible repeat (first|apply Kd.R_alloc|apply Kd.b6z|apply Kd.b9z));exact HO_4.1) hb);have n1_:=a1z.mk (Kd.d3z (by (with_reducible repeat (first|apply Kd.R_alloc|apply Kd.b6z|apply Kd.b9z));exact HO_5.1) hb);have n2_:=a1z.mk (b1z (by repeat (first|(with_reducible first|exact HB.1|apply a3z|apply a0z|apply a2z)|exact HB.1)) hb);clear HO_4 HO_5 HB;have HO_4:=n0_;have HO_5:=n1_;have HB:=n2_;clear n0_ n1_ n2_;(try clear hb))|(go_at_call 18;(with_reducible refine (spec_l4Put.calls k1 _ _ x5_1 t125 _ ?side1 ?side2 A25.1).mono ?_);(case side1 => repeat (first|exact (Kd.c2z HO_5.1).2.2|(with_reducible refine Kd.C_alloc ?_ _)|(with_reducible refine Kd.C_drewN ?_ _)|(with_reducible refine Kd.e5z ?_)));(case side2 => exact (Kd.c2z HO_5.1).2.1);rintro e w30 ⟨rfl,hb⟩;have n0_:=a1z.mk (Kd.d3z (by (with_reducible repeat (first|apply Kd.R_alloc|apply Kd.b6z|apply Kd.b9z));exact HO_4.1) hb);have n1_:=a1z.mk (Kd.d3z (by (with_reducible repeat (first|apply Kd.R_alloc|apply Kd.b6z|apply Kd.b9z));exact HO_5.1) hb);have n2_:=a1z.mk (b1z (by repeat (first|(with_reducible first|exact HB.1|apply a3z|apply a0z|apply a2z)|exact HB.1)) hb);clear HO_4 HO_5 HB;have HO_4:=n0_;have HO_5:=n1_;have HB:=n2_;clear n0_ n1_ n2_;(try clear hb)))
      go_ret2
      exact ⟨_,by first|rfl|(simp [b5z,b4z] <;> rfl)|(simp [*,b5z,b4z] <;> rfl),by (with_reducible repeat (first|apply Kd.R_alloc|apply Kd.b6z|apply Kd.b9z));exact HO_5.1,by repeat (first|(with_reducible first|exact HB.1|apply a3z|apply a0z|apply a2z)|exact HB.1)⟩
     ·rw [if_neg c26] at H
      have c26b0 : (t125.toList == a0.toList) = false:=beq_eq_false_iff_ne.mpr c26
      have c26b1 : (t125.toList != a0.toList) = true:=bne_iff_ne.mpr c26
      obtain ⟨y126,hy126⟩ : ∃ y_ : List (S39),y_ = (([] : List (S39))):=⟨_,rfl⟩
      replace H : (some (y126,false)) = some (r1,r2):=by first|(rw [hy126];with_reducible exact H)|(have H2_:=(Option.bind_some _ _).symm.trans H;rw [hy126];with_reducible exact H2_)|(have H2_:=(Option.bind_some _ _).symm.trans H;with_reducible exact H2_)|with_reducible exact H|(rw [hy126];exact H)|exact H
      have Ny126:=a1z.mk hy126
      clear hy126
      simp only [Option.some.injEq,Prod.mk.injEq] at H
      obtain ⟨rfl,rfl⟩:=H
      obtain ⟨Ao31,co31,eo31⟩:=Kd.e0z HO_4.1
      subst eo31
      obtain ⟨Ao32,co32,eo32⟩:=Kd.e0z HO_5.1
      subst eo32
      go_wp2_with (first|((with_reducible refine b2z (f:=13) rfl ?_);refine c1z (some 35) rfl rfl Tryz.func13 (by kernel_rfl) rfl #[.slice Ao32 x5_1.length co32] rfl (by (try simp only [mA_,mC_,mN_]);first|done|rfl|(simp only [lD_,lT_];rfl)) ?_;(with_reducible refine (spec_RulesOk.calls k1 _ _ x5_1 true _ ?side1 ?side2 A23.1).mono ?_);(case side1 => repeat (first|exact (Kd.c2z HO_5.1).2.2|(with_reducible refine Kd.C_alloc ?_ _)|(with_reducible refine Kd.C_drewN ?_ _)|(with_reducible refine Kd.e5z ?_)));(case side2 => exact (Kd.c2z HO_5.1).2.1);rintro e w33 ⟨rfl,hb⟩;refine ⟨_,rfl,?_⟩;have n0_:=a1z.mk (Kd.d3z (by (with_reducible repeat (first|apply Kd.R_alloc|apply Kd.b6z|apply Kd.b9z));exact HO_4.1) hb);have n1_:=a1z.mk (Kd.d3z (by (with_reducible repeat (first|apply Kd.R_alloc|apply Kd.b6z|apply Kd.b9z));exact HO_5.1) hb);have n2_:=a1z.mk (b1z (by repeat (first|(with_reducible first|exact HB.1|apply a3z|apply a0z|apply a2z)|exact HB.1)) hb);clear HO_4 HO_5 HB;have HO_4:=n0_;have HO_5:=n1_;have HB:=n2_;clear n0_ n1_ n2_;(try clear hb))|(go_at_call 18;(with_reducible refine (spec_l4Put.calls k1 _ _ x5_1 t125 _ ?side1 ?side2 A25.1).mono ?_);(case side1 => repeat (first|exact (Kd.c2z HO_5.1).2.2|(with_reducible refine Kd.C_alloc ?_ _)|(with_reducible refine Kd.C_drewN ?_ _)|(with_reducible refine Kd.e5z ?_)));(case side2 => exact (Kd.c2z HO_5.1).2.1);rintro e w34 ⟨rfl,hb⟩;have n0_:=a1z.mk (Kd.d3z (by (with_reducible repeat (first|apply Kd.R_alloc|apply Kd.b6z|apply Kd.b9z));exact HO_4.1) hb);have n1_:=a1z.mk (Kd.d3z (by (with_reducible repeat (first|apply Kd.R_alloc|apply Kd.b6z|apply Kd.b9z));exact HO_5.1) hb);have n2_:=a1z.mk (b1z (by repeat (first|(with_reducible first|exact HB.1|apply a3z|apply a0z|apply a2z)|exact HB.1)) hb);clear HO_4 HO_5 HB;have HO_4:=n0_;have HO_5:=n1_;have HB:=n2_;clear n0_ n1_ n2_;(try clear hb))|((with_reducible refine c5z (N:=43) rfl ?_);refine Kd.R_lit k39 _ 39 ?hg (N:=43) ?hd (xs:=([] : List (S39))) (inner:=[]) (ok:=fun _ => True) (okp:=fun _ => True) ?hr ?hp (fun _ hk => hk) trivial (Below.refl _ _) (Nat.le_refl _) (by simp) ?_;(case hd => rfl);(case hg => rfl);(case hr => first|(go_simp;done)|(go_simp;rfl));(case hp => exact (Reps.none _ _));intro v127 w35 ho36 hb hg_ hnew_;clear hg_ hnew_;(first|rw [← Ny126.1] at ho36|(simp only [Int.reduceToNat] at ho36;rw [← Ny126.1] at ho36));have n0_:=a1z.mk (Kd.d3z (by (with_reducible repeat (first|apply Kd.R_alloc|apply Kd.b6z|apply Kd.b9z));exact HO_4.1) hb);have n1_:=a1z.mk (Kd.f8z (by (with_reducible repeat (first|apply Kd.R_alloc|apply Kd.b6z|apply Kd.b9z));exact HO_5.1) (Kd.g3z ho36) hb);have n2_:=a1z.mk (Kd.e1z (Kd.g2z ho36 (Kd.R_lt (by (with_reducible repeat (first|apply Kd.R_alloc|apply Kd.b6z|apply Kd.b9z));exact HO_5.1))) (b8z (by repeat (first|(with_reducible first|exact HB.1|apply a3z|apply a0z|apply a2z)|exact HB.1))));have n3_:=a1z.mk (b1z (by repeat (first|(with_reducible first|exact HB.1|apply a3z|apply a0z|apply a2z)|exact HB.1)) hb);clear HO_4 HO_5 HB;have HO_4:=n0_;have HO_5:=n1_;have HO128:=n2_;have HB:=n3_;clear n0_ n1_ n2_ n3_;clear hb ho36))
      go_ret2
      exact ⟨_,by first|rfl|(simp [b5z,b4z] <;> rfl)|(simp [*,b5z,b4z] <;> rfl),by (with_reducible repeat (first|apply Kd.R_alloc|apply Kd.b6z|apply Kd.b9z));exact Kd.c9z HO128.1 (fun _ hk => trivial),by repeat (first|(with_reducible first|exact HB.1|apply a3z|apply a0z|apply a2z)|exact HB.1)⟩
    ·replace c24:=Bool.eq_false_iff.mpr c24
     subst c24
     have H1 : (some ((([] : List (S39))),false)) = some (r1,r2):=by rw [if_neg (show ¬ (false = true) by decide)] at H;exact H
     clear H
     have H:=H1
     clear H1
     obtain ⟨y129,hy129⟩ : ∃ y_ : List (S39),y_ = (([] : List (S39))):=⟨_,rfl⟩
     replace H : (some (y129,false)) = some (r1,r2):=by first|(rw [hy129];with_reducible exact H)|(have H2_:=(Option.bind_some _ _).symm.trans H;rw [hy129];with_reducible exact H2_)|(have H2_:=(Option.bind_some _ _).symm.trans H;with_reducible exact H2_)|with_reducible exact H|(rw [hy129];exact H)|exact H
     have Ny129:=a1z.mk hy129
     clear hy129
     simp only [Option.some.injEq,Prod.mk.injEq] at H
     obtain ⟨rfl,rfl⟩:=H
     obtain ⟨Ao37,co37,eo37⟩:=Kd.e0z HO_4.1
     subst eo37
     obtain ⟨Ao38,co38,eo38⟩:=Kd.e0z HO_5.1
     subst eo38
     go_wp2_with (first|((with_reducible refine b2z (f:=13) rfl ?_);refine c1z (some 35) rfl rfl Tryz.func13 (by kernel_rfl) rfl #[.slice Ao38 x5_1.length co38] rfl (by (try simp only [mA_,mC_,mN_]);first|done|rfl|(simp only [lD_,lT_];rfl)) ?_;(with_reducible refine (spec_RulesOk.calls k1 _ _ x5_1 false _ ?side1 ?side2 A23.1).mono ?_);(case side1 => repeat (first|exact (Kd.c2z HO_5.1).2.2|(with_reducible refine Kd.C_alloc ?_ _)|(with_reducible refine Kd.C_drewN ?_ _)|(with_reducible refine Kd.e5z ?_)));(case side2 => exact (Kd.c2z HO_5.1).2.1);rintro e w39 ⟨rfl,hb⟩;refine ⟨_,rfl,?_⟩;have n0_:=a1z.mk (Kd.d3z (by (with_reducible repeat (first|apply Kd.R_alloc|apply Kd.b6z|apply Kd.b9z));exact HO_4.1) hb);have n1_:=a1z.mk (Kd.d3z (by (with_reducible repeat (first|apply Kd.R_alloc|apply Kd.b6z|apply Kd.b9z));exact HO_5.1) hb);have n2_:=a1z.mk (b1z (by repeat (first|(with_reducible first|exact HB.1|apply a3z|apply a0z|apply a2z)|exact HB.1)) hb);clear HO_4 HO_5 HB;have HO_4:=n0_;have HO_5:=n1_;have HB:=n2_;clear n0_ n1_ n2_;(try clear hb))|((with_reducible refine c5z (N:=43) rfl ?_);refine Kd.R_lit k39 _ 39 ?hg (N:=43) ?hd (xs:=([] : List (S39))) (inner:=[]) (ok:=fun _ => True) (okp:=fun _ => True) ?hr ?hp (fun _ hk => hk) trivial (Below.refl _ _) (Nat.le_refl _) (by simp) ?_;(case hd => rfl);(case hg => rfl);(case hr => first|(go_simp;done)|(go_simp;rfl));(case hp => exact (Reps.none _ _));intro v130 w40 ho41 hb hg_ hnew_;clear hg_ hnew_;(first|rw [← Ny129.1] at ho41|(simp only [Int.reduceToNat] at ho41;rw [← Ny129.1] at ho41));have n0_:=a1z.mk (Kd.d3z (by (with_reducible repeat (first|apply Kd.R_alloc|apply Kd.b6z|apply Kd.b9z));exact HO_4.1) hb);have n1_:=a1z.mk (Kd.f8z (by (with_reducible repeat (first|apply Kd.R_alloc|apply Kd.b6z|apply Kd.b9z));exact HO_5.1) (Kd.g3z ho41) hb);have n2_:=a1z.mk (Kd.e1z (Kd.g2z ho41 (Kd.R_lt (by (with_reducible repeat (first|apply Kd.R_alloc|apply Kd.b6z|apply Kd.b9z));exact HO_5.1))) (b8z (by repeat (first|(with_reducible first|exact HB.1|apply a3z|apply a0z|apply a2z)|exact HB.1))));have n3_:=a1z.mk (b1z (by repeat (first|(with_reducible first|exact HB.1|apply a3z|apply a0z|apply a2z)|exact HB.1)) hb);clear HO_4 HO_5 HB;have HO_4:=n0_;have HO_5:=n1_;have HO131:=n2_;have HB:=n3_;clear n0_ n1_ n2_ n3_;clear hb ho41))
     go_ret2
     exact ⟨_,by first|rfl|(simp [b5z,b4z] <;> rfl)|(simp [*,b5z,b4z] <;> rfl),by (with_reducible repeat (first|apply Kd.R_alloc|apply Kd.b6z|apply Kd.b9z));exact Kd.c9z HO131.1 (fun _ hk => trivial),by repeat (first|(with_reducible first|exact HB.1|apply a3z|apply a0z|apply a2z)|exact HB.1)⟩
end Go.Proofs.YtgbdnbbfgcogjaaGreatDoor.Q

namespace Go.Proofs
open Go.Shelf
def Tryz.lays169_ren : Go.Shelf.Ren:=⟨fun|169 => 32|n => n,fun|70 => 52|9 => 9|0 => 0|72 => 54|37 => 28|127 => 85|3 => 3|5 => 5|n => n,fun|n => n⟩
theorem Tryz.lays169 : Go.Proofs.Lays.n169 Tryz.prog Tryz.lays169_ren:={
 mixed:=by kernel_rfl
 f169:=Tryz.func32.trans (congrArg some (by kernel_rfl))
 t0:=Tryz.underlying0
 a0:=Tryz.isAgg0
 z0:=Tryz.sizeOf0
 v0:=Tryz.zeroValue0
 t3:=Tryz.underlying3
 a3:=Tryz.isAgg3
 z3:=Tryz.sizeOf3
 v3:=Tryz.zeroValue3
 t9:=Tryz.underlying9
 a9:=Tryz.isAgg9
 z9:=Tryz.sizeOf9
 v9:=Tryz.zeroValue9
 t37:=Tryz.underlying28
 a37:=Tryz.isAgg28
 z37:=Tryz.sizeOf28
 v37:=Tryz.zeroValue28
 t70:=Tryz.underlying52
 a70:=Tryz.isAgg52
 z70:=Tryz.sizeOf52
 v70:=Tryz.zeroValue52
 t72:=Tryz.underlying54
 a72:=Tryz.isAgg54
 z72:=Tryz.sizeOf54
 v72:=Tryz.zeroValue54
 t127:=Tryz.underlying85
 a127:=Tryz.isAgg85
 z127:=Tryz.sizeOf85
 v127:=Tryz.zeroValue85 }
theorem Tryz.Builder_Extra_169 : Builder.Extra Tryz.prog Tryz.lays169_ren:={
 sizeBuilder:=by kernel_rfl
 liesBuilder:=by kernel_rfl
 t5:=Tryz.underlying5
 a5:=Tryz.isAgg5
 z5:=Tryz.sizeOf5
 v5:=Tryz.zeroValue5
 infoByte:=by kernel_rfl
 cellsByte:=by kernel_rfl
 sizeByte:=by kernel_rfl
 neB5:=by decide }
open Go.RowKit in
/-- (*strings.Builder).String: "String returns the accumulated string.": WHATEVER THE BUILDER HOLDS. (LAID: no walk: one application.) -/
theorem Tryz.Builder_String_any (B b : Nat) (l : List UInt8) (w : World) (h : Lib.IsBuilder 54 5 B b (Lib.byteCells l) w) (hBw : B ≤ w.heap.size) :
  Calls Tryz.prog 32 #[.pointer (some ⟨b,0,none⟩)] w fun e w' => e = .returned (.string ⟨l.toArray⟩) ∧ Below B w w':=Any.Builder_String_any Tryz.lays169 Tryz.Builder_Extra_169 B b l w h hBw
def Tryz.lays156_ren : Go.Shelf.Ren:=⟨fun|156 => 29|165 => 59|166 => 28|169 => 32|240 => 58|241 => 83|276 => 82|277 => 105|n => n,fun|31 => 34|9 => 9|3 => 3|4 => 4|0 => 0|20 => 20|72 => 54|76 => 58|70 => 52|37 => 28|75 => 57|127 => 85|164 => 97|5 => 5|80 => 61|n => n,fun|n => n⟩
theorem Tryz.lays156 : Go.Proofs.Lays.n156 Tryz.prog Tryz.lays156_ren:={
 mixed:=by kernel_rfl
 f156:=Tryz.func29.trans (congrArg some (by kernel_rfl))
 f165:=Tryz.func59.trans (congrArg some (by kernel_rfl))
 f166:=Tryz.func28.trans (congrArg some (by kernel_rfl))
 f169:=Tryz.func32.trans (congrArg some (by kernel_rfl))
 f240:=Tryz.func58.trans (congrArg some (by kernel_rfl))
 f241:=Tryz.func83.trans (congrArg some (by kernel_rfl))
 f276:=Tryz.func82.trans (congrArg some (by kernel_rfl))
 f277:=Tryz.func105.trans (congrArg some (by kernel_rfl))
 t0:=Tryz.underlying0
 a0:=Tryz.isAgg0
 z0:=Tryz.sizeOf0
 v0:=Tryz.zeroValue0
 t3:=Tryz.underlying3
 a3:=Tryz.isAgg3
 z3:=Tryz.sizeOf3
 v3:=Tryz.zeroValue3
 t4:=Tryz.underlying4
 a4:=Tryz.isAgg4
 z4:=Tryz.sizeOf4
 v4:=Tryz.zeroValue4
 t9:=Tryz.underlying9
 a9:=Tryz.isAgg9
 z9:=Tryz.sizeOf9
 v9:=Tryz.zeroValue9
 t20:=Tryz.underlying20
 a20:=Tryz.isAgg20
 z20:=Tryz.sizeOf20
 v20:=Tryz.zeroValue20
 t31:=Tryz.underlying34
 a31:=Tryz.isAgg34
 z31:=Tryz.sizeOf34
 v31:=Tryz.zeroValue34
 t37:=Tryz.underlying28
 a37:=Tryz.isAgg28
 z37:=Tryz.sizeOf28
 v37:=Tryz.zeroValue28
 t70:=Tryz.underlying52
 a70:=Tryz.isAgg52
 z70:=Tryz.sizeOf52
 v70:=Tryz.zeroValue52
 t72:=Tryz.underlying54
 a72:=Tryz.isAgg54
 z72:=Tryz.sizeOf54
 v72:=Tryz.zeroValue54
 t75:=Tryz.underlying57
 a75:=Tryz.isAgg57
 z75:=Tryz.sizeOf57
 v75:=Tryz.zeroValue57
 t76:=Tryz.underlying58
 a76:=Tryz.isAgg58
 z76:=Tryz.sizeOf58
 v76:=Tryz.zeroValue58
 t127:=Tryz.underlying85
 a127:=Tryz.isAgg85
 z127:=Tryz.sizeOf85
 v127:=Tryz.zeroValue85
 t164:=Tryz.underlying97
 a164:=Tryz.isAgg97
 z164:=Tryz.sizeOf97
 v164:=Tryz.zeroValue97 }
theorem Tryz.Builder_Extra_156 : Builder.Extra Tryz.prog Tryz.lays156_ren:={
 sizeBuilder:=by kernel_rfl
 liesBuilder:=by kernel_rfl
 t5:=Tryz.underlying5
 a5:=Tryz.isAgg5
 z5:=Tryz.sizeOf5
 v5:=Tryz.zeroValue5
 infoByte:=by kernel_rfl
 cellsByte:=by kernel_rfl
 sizeByte:=by kernel_rfl
 neB5:=by decide }
open Go.RowKit in
/-- No element: the empty string; the world is as it was. (Whatever the slice's address and capacity: a nil slice too.) (LAID: no walk: one application.) -/
theorem Tryz.strings_Join_none (a : Option Addr) (c : Nat) (sep : ByteArray) (w : World) :
  Calls Tryz.prog 29 #[.slice a 0 c,.string sep] w fun e w' => e = .returned (.string ⟨#[]⟩) ∧ w' = w:=Any.strings_Join_none Tryz.lays156 Tryz.Builder_Extra_156 a c sep w
open Go.RowKit in
/-- strings.Join: "Join concatenates the elements of its first argument to create a single string. The separator string sep is placed between elements in the resulting string.": HOWEVER MANY ELEMENTS. Below the heap's end the world is as it was. (LAID: no walk: one application.) -/
theorem Tryz.strings_Join (bk o c : Nat) (xs : List ByteArray) (sep : ByteArray) (w : World) (hcells : ∀ (j : Nat) x,xs[j]? = some x → w.cell? ⟨bk,o + j,none⟩ = some (.string x)) (hbk : bk < w.heap.size) (hN : xs.length ≤ 140737488355328) (hcap : xs.length ≤ c) (hlen : (Lib.join (xs.map (·.data.toList)) sep.data.toList).length ≤ 140737488355328) :
  Calls Tryz.prog 29 #[.slice (some ⟨bk,o,none⟩) xs.length c,.string sep] w fun e w' => e = .returned (.string ⟨(Lib.join (xs.map (·.data.toList)) sep.data.toList).toArray⟩) ∧ Below w.heap.size w w':=Any.strings_Join Tryz.lays156 Tryz.Builder_Extra_156 bk o c xs sep w hcells hbk hN hcap hlen
def Tryz.lays137_ren : Go.Shelf.Ren:=⟨fun|137 => 42|217 => 68|266 => 88|n => n,fun|9 => 9|5 => 5|3 => 3|n => n,fun|n => n⟩
theorem Tryz.lays137 : Go.Proofs.Lays.n137 Tryz.prog Tryz.lays137_ren:={
 mixed:=by kernel_rfl
 f137:=Tryz.func42.trans (congrArg some (by kernel_rfl))
 f217:=Tryz.func68.trans (congrArg some (by kernel_rfl))
 f266:=Tryz.func88.trans (congrArg some (by kernel_rfl))
 t3:=Tryz.underlying3
 a3:=Tryz.isAgg3
 z3:=Tryz.sizeOf3
 v3:=Tryz.zeroValue3
 t5:=Tryz.underlying5
 a5:=Tryz.isAgg5
 z5:=Tryz.sizeOf5
 v5:=Tryz.zeroValue5
 t9:=Tryz.underlying9
 a9:=Tryz.isAgg9
 z9:=Tryz.sizeOf9
 v9:=Tryz.zeroValue9 }
open Go.RowKit in
/-- strings.IndexByte: "IndexByte returns the index of the first instance of c in s, or -1 if c is not present in s.": IT RETURNS 'Lib.indexByte s c'; the world is as it was. (LAID: no walk: one application.) -/
theorem Tryz.strings_IndexByte (s : ByteArray) (c : Int) (w : World) :
  Calls Tryz.prog 42 #[.string s,.int .u8 c] w fun e w' => e = .returned (.int .i64 (Lib.indexByte s.data.toList c.toNat.toUInt8)) ∧ w' = w:=Any.strings_IndexByte Tryz.lays137 s c w
def Tryz.laysM171_ren : Go.Shelf.Ren:=⟨fun|171 => 27|243 => 57|246 => 81|283 => 101|284 => 102|285 => 103|286 => 104|129 => 116|317 => 115|318 => 117|319 => 118|320 => 119|337 => 124|338 => 125|n => n,fun|3 => 3|9 => 9|2 => 2|4 => 4|171 => 112|0 => 0|53 => 113|37 => 28|5 => 5|173 => 116|212 => 127|51 => 128|20 => 20|213 => 129|46 => 110|232 => 142|233 => 143|n => n,fun|17 => 3|18 => 6|19 => 7|n => n⟩
theorem Tryz.laysM171 : Go.Proofs.LaysM.n171 Tryz.prog Tryz.laysM171_ren:={
 mixed:=by kernel_rfl
 f129:=Tryz.func116.trans (congrArg some (by kernel_rfl))
 f171:=Tryz.func27.trans (congrArg some (by kernel_rfl))
 f243:=Tryz.func57.trans (congrArg some (by kernel_rfl))
 f246:=Tryz.func81.trans (congrArg some (by kernel_rfl))
 f283:=Tryz.func101.trans (congrArg some (by kernel_rfl))
 f284:=Tryz.func102.trans (congrArg some (by kernel_rfl))
 f285:=Tryz.func103.trans (congrArg some (by kernel_rfl))
 f286:=Tryz.func104.trans (congrArg some (by kernel_rfl))
 f317:=Tryz.func115.trans (congrArg some (by kernel_rfl))
 f318:=Tryz.func117.trans (congrArg some (by kernel_rfl))
 f319:=Tryz.func118.trans (congrArg some (by kernel_rfl))
 f320:=Tryz.func119.trans (congrArg some (by kernel_rfl))
 f337:=Tryz.func124.trans (congrArg some (by kernel_rfl))
 f338:=Tryz.func125.trans (congrArg some (by kernel_rfl))
 t0:=Tryz.underlying0
 a0:=Tryz.isAgg0
 z0:=Tryz.sizeOf0
 v0:=Tryz.zeroValue0
 t2:=Tryz.underlying2
 a2:=Tryz.isAgg2
 z2:=Tryz.sizeOf2
 v2:=Tryz.zeroValue2
 t3:=Tryz.underlying3
 a3:=Tryz.isAgg3
 z3:=Tryz.sizeOf3
 v3:=Tryz.zeroValue3
 t4:=Tryz.underlying4
 a4:=Tryz.isAgg4
 z4:=Tryz.sizeOf4
 v4:=Tryz.zeroValue4
 t5:=Tryz.underlying5
 a5:=Tryz.isAgg5
 z5:=Tryz.sizeOf5
 v5:=Tryz.zeroValue5
 t9:=Tryz.underlying9
 a9:=Tryz.isAgg9
 z9:=Tryz.sizeOf9
 v9:=Tryz.zeroValue9
 t20:=Tryz.underlying20
 a20:=Tryz.isAgg20
 z20:=Tryz.sizeOf20
 v20:=Tryz.zeroValue20
 t37:=Tryz.underlying28
 a37:=Tryz.isAgg28
 z37:=Tryz.sizeOf28
 v37:=Tryz.zeroValue28
 t46:=Tryz.underlying110
 a46:=Tryz.isAgg110
 z46:=Tryz.sizeOf110
 v46:=Tryz.zeroValue110
 t51:=Tryz.underlying128
 a51:=Tryz.isAgg128
 z51:=Tryz.sizeOf128
 v51:=Tryz.zeroValue128
 t53:=Tryz.underlying113
 a53:=Tryz.isAgg113
 z53:=Tryz.sizeOf113
 v53:=Tryz.zeroValue113
 t171:=Tryz.underlying112
 a171:=Tryz.isAgg112
 z171:=Tryz.sizeOf112
 v171:=Tryz.zeroValue112
 t173:=Tryz.underlying116
 a173:=Tryz.isAgg116
 z173:=Tryz.sizeOf116
 v173:=Tryz.zeroValue116
 t212:=Tryz.underlying127
 a212:=Tryz.isAgg127
 z212:=Tryz.sizeOf127
 v212:=Tryz.zeroValue127
 t213:=Tryz.underlying129
 a213:=Tryz.isAgg129
 z213:=Tryz.sizeOf129
 t232:=Tryz.underlying142
 a232:=Tryz.isAgg142
 z232:=Tryz.sizeOf142
 v232:=Tryz.zeroValue142
 t233:=Tryz.underlying143
 a233:=Tryz.isAgg143
 z233:=Tryz.sizeOf143
 v233:=Tryz.zeroValue143
 g17:=by kernel_rfl
 g18:=by kernel_rfl
 g19:=by kernel_rfl
 i0:=by kernel_rfl
 i2:=by kernel_rfl
 i3:=by kernel_rfl
 i4:=by kernel_rfl
 i5:=by kernel_rfl
 i9:=by kernel_rfl
 i20:=by kernel_rfl
 i37:=by kernel_rfl
 i46:=by kernel_rfl
 i51:=by kernel_rfl
 i53:=by kernel_rfl
 i171:=by kernel_rfl
 i173:=by kernel_rfl
 i212:=by kernel_rfl
 i232:=by kernel_rfl
 i233:=by kernel_rfl
 m17:=by kernel_rfl
 m18:=by kernel_rfl
 m19:=by kernel_rfl }
open Go.RowKit Go.Sort Go.Lib in
/-- strconv.Itoa: "Itoa is equivalent to FormatInt(int64(i), 10).": i's DECIMAL NUMERAL ('Lib.itoa': a '-' where i is negative, then the digits), FOR EVERY int. The world behind the call: the world before it, new blocks behind the heap (the library's 'var a [24]byte'), draws. (LAID: no walk: one application.) -/
theorem Tryz.strconv_Itoa (n : Int) (h0 : -9223372036854775808 ≤ n) (h1 : n ≤ 9223372036854775807) (w : World) (htab : Lib.TabIs Tryz.prog w "internal/strconv.uint64pow10" .u64 Lib.pow10Tab) :
  Calls Tryz.prog 27 #[.int .i64 n] w fun e w' => e = .returned (.string ⟨(Lib.itoa n).toArray⟩) ∧ ∃ k os,w' = grow (w.drewN k) os:=Any.strconv_Itoa Tryz.laysM171 n h0 h1 w htab
def Tryz.laysC172_ren : Go.Shelf.Ren:=⟨fun|172 => 45|244 => 73|245 => 74|247 => 93|279 => 94|280 => 95|281 => 96|282 => 97|287 => 111|316 => 112|171 => 27|205 => 113|321 => 121|322 => 122|243 => 57|246 => 81|283 => 101|284 => 102|285 => 103|286 => 104|129 => 116|317 => 115|318 => 117|319 => 118|320 => 119|337 => 124|338 => 125|n => n,fun|9 => 9|3 => 3|75 => 57|76 => 58|4 => 4|5 => 5|167 => 103|37 => 28|0 => 0|85 => 104|2 => 2|168 => 106|53 => 113|175 => 119|46 => 110|210 => 123|127 => 85|145 => 140|143 => 138|21 => 21|171 => 112|173 => 116|212 => 127|51 => 128|20 => 20|213 => 129|232 => 142|233 => 143|80 => 61|n => n,fun|15 => 1|16 => 2|17 => 3|18 => 6|19 => 7|n => n⟩
theorem Tryz.laysC172 : Go.Proofs.LaysC.n172 Tryz.prog Tryz.laysC172_ren:={
 mixed:=by kernel_rfl
 f129:=Tryz.func116.trans (congrArg some (by kernel_rfl))
 f171:=Tryz.func27.trans (congrArg some (by kernel_rfl))
 f172:=Tryz.func45.trans (congrArg some (by kernel_rfl))
 f205:=Tryz.func113.trans (congrArg some (by kernel_rfl))
 f243:=Tryz.func57.trans (congrArg some (by kernel_rfl))
 f244:=Tryz.func73.trans (congrArg some (by kernel_rfl))
 f245:=Tryz.func74.trans (congrArg some (by kernel_rfl))
 f246:=Tryz.func81.trans (congrArg some (by kernel_rfl))
 f247:=Tryz.func93.trans (congrArg some (by kernel_rfl))
 f279:=Tryz.func94.trans (congrArg some (by kernel_rfl))
 f280:=Tryz.func95.trans (congrArg some (by kernel_rfl))
 f281:=Tryz.func96.trans (congrArg some (by kernel_rfl))
 f282:=Tryz.func97.trans (congrArg some (by kernel_rfl))
 f283:=Tryz.func101.trans (congrArg some (by kernel_rfl))
 f284:=Tryz.func102.trans (congrArg some (by kernel_rfl))
 f285:=Tryz.func103.trans (congrArg some (by kernel_rfl))
 f286:=Tryz.func104.trans (congrArg some (by kernel_rfl))
 f287:=Tryz.func111.trans (congrArg some (by kernel_rfl))
 f316:=Tryz.func112.trans (congrArg some (by kernel_rfl))
 f317:=Tryz.func115.trans (congrArg some (by kernel_rfl))
 f318:=Tryz.func117.trans (congrArg some (by kernel_rfl))
 f319:=Tryz.func118.trans (congrArg some (by kernel_rfl))
 f320:=Tryz.func119.trans (congrArg some (by kernel_rfl))
 f321:=Tryz.func121.trans (congrArg some (by kernel_rfl))
 f322:=Tryz.func122.trans (congrArg some (by kernel_rfl))
 f337:=Tryz.func124.trans (congrArg some (by kernel_rfl))
 f338:=Tryz.func125.trans (congrArg some (by kernel_rfl))
 t0:=Tryz.underlying0
 a0:=Tryz.isAgg0
 z0:=Tryz.sizeOf0
 v0:=Tryz.zeroValue0
 t2:=Tryz.underlying2
 a2:=Tryz.isAgg2
 z2:=Tryz.sizeOf2
 v2:=Tryz.zeroValue2
 t3:=Tryz.underlying3
 a3:=Tryz.isAgg3
 z3:=Tryz.sizeOf3
 v3:=Tryz.zeroValue3
 t4:=Tryz.underlying4
 a4:=Tryz.isAgg4
 z4:=Tryz.sizeOf4
 v4:=Tryz.zeroValue4
 t5:=Tryz.underlying5
 a5:=Tryz.isAgg5
 z5:=Tryz.sizeOf5
 v5:=Tryz.zeroValue5
 t9:=Tryz.underlying9
 a9:=Tryz.isAgg9
 z9:=Tryz.sizeOf9
 v9:=Tryz.zeroValue9
 t20:=Tryz.underlying20
 a20:=Tryz.isAgg20
 z20:=Tryz.sizeOf20
 v20:=Tryz.zeroValue20
 t21:=Tryz.underlying21
 a21:=Tryz.isAgg21
 z21:=Tryz.sizeOf21
 v21:=Tryz.zeroValue21
 t37:=Tryz.underlying28
 a37:=Tryz.isAgg28
 z37:=Tryz.sizeOf28
 v37:=Tryz.zeroValue28
 t46:=Tryz.underlying110
 a46:=Tryz.isAgg110
 z46:=Tryz.sizeOf110
 v46:=Tryz.zeroValue110
 t51:=Tryz.underlying128
 a51:=Tryz.isAgg128
 z51:=Tryz.sizeOf128
 v51:=Tryz.zeroValue128
 t53:=Tryz.underlying113
 a53:=Tryz.isAgg113
 z53:=Tryz.sizeOf113
 v53:=Tryz.zeroValue113
 t75:=Tryz.underlying57
 a75:=Tryz.isAgg57
 z75:=Tryz.sizeOf57
 v75:=Tryz.zeroValue57
 t76:=Tryz.underlying58
 a76:=Tryz.isAgg58
 z76:=Tryz.sizeOf58
 v76:=Tryz.zeroValue58
 t85:=Tryz.underlying104
 a85:=Tryz.isAgg104
 z85:=Tryz.sizeOf104
 v85:=Tryz.zeroValue104
 t127:=Tryz.underlying85
 a127:=Tryz.isAgg85
 z127:=Tryz.sizeOf85
 v127:=Tryz.zeroValue85
 t143:=Tryz.underlying138
 a143:=Tryz.isAgg138
 z143:=Tryz.sizeOf138
 v143:=Tryz.zeroValue138
 t145:=Tryz.underlying140
 a145:=Tryz.isAgg140
 z145:=Tryz.sizeOf140
 v145:=Tryz.zeroValue140
 t167:=Tryz.underlying103
 a167:=Tryz.isAgg103
 z167:=Tryz.sizeOf103
 v167:=Tryz.zeroValue103
 t168:=Tryz.underlying106
 a168:=Tryz.isAgg106
 z168:=Tryz.sizeOf106
 v168:=Tryz.zeroValue106
 t171:=Tryz.underlying112
 a171:=Tryz.isAgg112
 z171:=Tryz.sizeOf112
 v171:=Tryz.zeroValue112
 t173:=Tryz.underlying116
 a173:=Tryz.isAgg116
 z173:=Tryz.sizeOf116
 v173:=Tryz.zeroValue116
 t175:=Tryz.underlying119
 a175:=Tryz.isAgg119
 z175:=Tryz.sizeOf119
 v175:=Tryz.zeroValue119
 t210:=Tryz.underlying123
 a210:=Tryz.isAgg123
 z210:=Tryz.sizeOf123
 v210:=Tryz.zeroValue123
 t212:=Tryz.underlying127
 a212:=Tryz.isAgg127
 z212:=Tryz.sizeOf127
 v212:=Tryz.zeroValue127
 t213:=Tryz.underlying129
 a213:=Tryz.isAgg129
 z213:=Tryz.sizeOf129
 t232:=Tryz.underlying142
 a232:=Tryz.isAgg142
 z232:=Tryz.sizeOf142
 v232:=Tryz.zeroValue142
 t233:=Tryz.underlying143
 a233:=Tryz.isAgg143
 z233:=Tryz.sizeOf143
 v233:=Tryz.zeroValue143
 g15:=by kernel_rfl
 g16:=by kernel_rfl
 g17:=by kernel_rfl
 g18:=by kernel_rfl
 g19:=by kernel_rfl
 t80:=Tryz.underlying61
 a80:=Tryz.isAgg61
 z80:=Tryz.sizeOf61
 v80:=Tryz.zeroValue61
 i0:=by kernel_rfl
 i2:=by kernel_rfl
 i3:=by kernel_rfl
 i4:=by kernel_rfl
 i5:=by kernel_rfl
 i9:=by kernel_rfl
 i20:=by kernel_rfl
 i21:=by kernel_rfl
 i37:=by kernel_rfl
 i46:=by kernel_rfl
 i51:=by kernel_rfl
 i53:=by kernel_rfl
 i75:=by kernel_rfl
 i76:=by kernel_rfl
 i80:=by kernel_rfl
 i85:=by kernel_rfl
 i127:=by kernel_rfl
 i143:=by kernel_rfl
 i145:=by kernel_rfl
 i167:=by kernel_rfl
 i168:=by kernel_rfl
 i171:=by kernel_rfl
 i173:=by kernel_rfl
 i175:=by kernel_rfl
 i210:=by kernel_rfl
 i212:=by kernel_rfl
 i232:=by kernel_rfl
 i233:=by kernel_rfl
 m15:=by kernel_rfl
 m16:=by kernel_rfl
 m17:=by kernel_rfl
 m18:=by kernel_rfl
 m19:=by kernel_rfl
 c0:=by kernel_rfl
 c2:=by kernel_rfl
 c3:=by kernel_rfl
 c4:=by kernel_rfl
 c5:=by kernel_rfl
 c9:=by kernel_rfl
 c20:=by kernel_rfl
 c21:=by kernel_rfl
 c37:=by kernel_rfl
 c46:=by kernel_rfl
 c51:=by kernel_rfl
 c53:=by kernel_rfl
 c75:=by kernel_rfl
 c76:=by kernel_rfl
 c80:=by kernel_rfl
 c85:=by kernel_rfl
 c127:=by kernel_rfl
 c143:=by kernel_rfl
 c145:=by kernel_rfl
 c167:=by kernel_rfl
 c168:=by kernel_rfl
 c171:=by kernel_rfl
 c173:=by kernel_rfl
 c175:=by kernel_rfl
 c210:=by kernel_rfl
 c212:=by kernel_rfl
 c213:=by kernel_rfl
 c232:=by kernel_rfl
 c233:=by kernel_rfl }
open Go.RowKit in
/-- strconv.Atoi, AT EVERY STRING THAT SPELLS AN int ('Lib.atoiAll .. = .ok v'; of whatever length: leading zeros count): v, AND NO ERROR. The world: as it was, or with the one new row that '[]byte(..)' lays. (LAID: no walk: one application.) -/
theorem Tryz.strconv_Atoi_ok (s : ByteArray) (hmax : s.size ≤ 9223372036854775806) (v : Int) (h : Lib.atoiAll s.data.toList = .ok v) (w : World) :
  Calls Tryz.prog 45 #[.string s] w fun e w' => e = .returned (.tuple #[.int .i64 v,.nilIface]) ∧ (w' = w ∨ ∃ t,w' = Lib.bytesWorld w 5 t):=Any.strconv_Atoi_ok Tryz.laysC172 s hmax v h w
open Go.RowKit in
/-- strconv.Atoi, AT EVERY STRING THAT IS NO DECIMAL NUMERAL ('.syntax'): 0, AND AN ERROR THAT IS NOT nil: a *NumError in a new block N: {Func: "Atoi", Num: s's bytes, Err: what the variable ErrSyntax holds}. Of what was there nothing has turned. (LAID: no walk: one application.) -/
theorem Tryz.strconv_Atoi_syntax (s : ByteArray) (hlim : s.size ≤ 281474976710656) (h : match Lib.atoiAll s.data.toList with|.ok _ => False|.range => False|_ => True) (ev : Value) (w : World) (hv : w.cell? ⟨1,0,none⟩ = some ev) (hev : ev = .nilIface ∨ ∃ te pe,ev = .iface te pe) :
  Calls Tryz.prog 45 #[.string s] w fun e w' => ∃ N,e = .returned (.tuple #[.int .i64 (0),.iface 106 (.pointer (some ⟨N,0,none⟩))]) ∧ w.heap.size ≤ N ∧ w'.heap[N]? = some (.cells #[.string ⟨#[65,116,111,105]⟩,.string s,ev] 123 (0,0)) ∧ Below w.heap.size w w':=Any.strconv_Atoi_syntax Tryz.laysC172 s hlim (by revert h;cases Lib.atoiAll s.data.toList <;> simp) ev w hv hev
open Go.RowKit in
/-- strconv.Atoi, AT EVERY NUMERAL THAT NO int HOLDS ('.range'): THE GREATEST OR THE LEAST int, BY THE SIGN ('Lib.atoiSat'), AND AN ERROR THAT IS NOT nil: a *NumError in a new block N: {Func: "Atoi", Num: s's bytes, Err: what the variable ErrRange holds}. Of what was there nothing has turned. (LAID: no walk: one application.) -/
theorem Tryz.strconv_Atoi_range (s : ByteArray) (hlim : s.size ≤ 281474976710656) (h : Lib.atoiAll s.data.toList = .range) (ev : Value) (w : World) (hv : w.cell? ⟨2,0,none⟩ = some ev) (hev : ev = .nilIface ∨ ∃ te pe,ev = .iface te pe) :
  Calls Tryz.prog 45 #[.string s] w fun e w' => ∃ N,e = .returned (.tuple #[.int .i64 (Lib.atoiSat s.data.toList),.iface 106 (.pointer (some ⟨N,0,none⟩))]) ∧ w.heap.size ≤ N ∧ w'.heap[N]? = some (.cells #[.string ⟨#[65,116,111,105]⟩,.string s,ev] 123 (0,0)) ∧ Below w.heap.size w w':=Any.strconv_Atoi_range Tryz.laysC172 s hlim h ev w hv hev
def Tryz.lays219_ren : Go.Shelf.Ren:=⟨fun|219 => 92|217 => 68|225 => 108|224 => 109|267 => 110|266 => 88|314 => 120|n => n,fun|9 => 9|3 => 3|4 => 4|5 => 5|46 => 110|146 => 135|51 => 128|n => n,fun|1 => 0|n => n⟩
theorem Tryz.lays219 : Go.Proofs.Lays.n219 Tryz.prog Tryz.lays219_ren:={
 mixed:=by kernel_rfl
 f217:=Tryz.func68.trans (congrArg some (by kernel_rfl))
 f219:=Tryz.func92.trans (congrArg some (by kernel_rfl))
 f224:=Tryz.func109.trans (congrArg some (by kernel_rfl))
 f225:=Tryz.func108.trans (congrArg some (by kernel_rfl))
 f266:=Tryz.func88.trans (congrArg some (by kernel_rfl))
 f267:=Tryz.func110.trans (congrArg some (by kernel_rfl))
 f314:=Tryz.func120.trans (congrArg some (by kernel_rfl))
 t3:=Tryz.underlying3
 a3:=Tryz.isAgg3
 z3:=Tryz.sizeOf3
 v3:=Tryz.zeroValue3
 t4:=Tryz.underlying4
 a4:=Tryz.isAgg4
 z4:=Tryz.sizeOf4
 v4:=Tryz.zeroValue4
 t5:=Tryz.underlying5
 a5:=Tryz.isAgg5
 z5:=Tryz.sizeOf5
 v5:=Tryz.zeroValue5
 t9:=Tryz.underlying9
 a9:=Tryz.isAgg9
 z9:=Tryz.sizeOf9
 v9:=Tryz.zeroValue9
 t46:=Tryz.underlying110
 a46:=Tryz.isAgg110
 z46:=Tryz.sizeOf110
 v46:=Tryz.zeroValue110
 t51:=Tryz.underlying128
 a51:=Tryz.isAgg128
 z51:=Tryz.sizeOf128
 v51:=Tryz.zeroValue128
 t146:=Tryz.underlying135
 a146:=Tryz.isAgg135
 z146:=Tryz.sizeOf135
 v146:=Tryz.zeroValue135
 g1:=by kernel_rfl }
open Go.RowKit Go.Lib in
/-- internal/stringslite.Index (what strings.Index calls) AT A substr OF ONE BYTE c: IT RETURNS 'Lib.indexByte s c'; the world is as it was. (LAID: no walk: one application.) -/
theorem Tryz.stringslite_Index_one (s : ByteArray) (c : UInt8) (w : World) :
  Calls Tryz.prog 92 #[.string s,.string ⟨#[c]⟩] w fun e w' => e = .returned (.int .i64 (Lib.indexByte s.data.toList c)) ∧ w' = w:=Any.stringslite_Index_one Tryz.lays219 s c w
def Tryz.lays143_ren : Go.Shelf.Ren:=⟨fun|143 => 71|219 => 92|217 => 68|225 => 108|224 => 109|267 => 110|266 => 88|314 => 120|n => n,fun|9 => 9|3 => 3|4 => 4|5 => 5|46 => 110|146 => 135|51 => 128|n => n,fun|1 => 0|n => n⟩
theorem Tryz.lays143 : Go.Proofs.Lays.n143 Tryz.prog Tryz.lays143_ren:={
 mixed:=by kernel_rfl
 f143:=Tryz.func71.trans (congrArg some (by kernel_rfl))
 f217:=Tryz.func68.trans (congrArg some (by kernel_rfl))
 f219:=Tryz.func92.trans (congrArg some (by kernel_rfl))
 f224:=Tryz.func109.trans (congrArg some (by kernel_rfl))
 f225:=Tryz.func108.trans (congrArg some (by kernel_rfl))
 f266:=Tryz.func88.trans (congrArg some (by kernel_rfl))
 f267:=Tryz.func110.trans (congrArg some (by kernel_rfl))
 f314:=Tryz.func120.trans (congrArg some (by kernel_rfl))
 t3:=Tryz.underlying3
 a3:=Tryz.isAgg3
 z3:=Tryz.sizeOf3
 v3:=Tryz.zeroValue3
 t4:=Tryz.underlying4
 a4:=Tryz.isAgg4
 z4:=Tryz.sizeOf4
 v4:=Tryz.zeroValue4
 t5:=Tryz.underlying5
 a5:=Tryz.isAgg5
 z5:=Tryz.sizeOf5
 v5:=Tryz.zeroValue5
 t9:=Tryz.underlying9
 a9:=Tryz.isAgg9
 z9:=Tryz.sizeOf9
 v9:=Tryz.zeroValue9
 t46:=Tryz.underlying110
 a46:=Tryz.isAgg110
 z46:=Tryz.sizeOf110
 v46:=Tryz.zeroValue110
 t51:=Tryz.underlying128
 a51:=Tryz.isAgg128
 z51:=Tryz.sizeOf128
 v51:=Tryz.zeroValue128
 t146:=Tryz.underlying135
 a146:=Tryz.isAgg135
 z146:=Tryz.sizeOf135
 v146:=Tryz.zeroValue135
 g1:=by kernel_rfl }
open Go.RowKit Go.Lib in
/-- strings.Index: "Index returns the index of the first instance of substr in s, or -1 if substr is not present in s.": AT A substr OF ONE BYTE c: IT RETURNS 'Lib.indexByte s c'; the world is as it was. (LAID: no walk: one application.) -/
theorem Tryz.strings_Index_one (s : ByteArray) (c : UInt8) (w : World) :
  Calls Tryz.prog 71 #[.string s,.string ⟨#[c]⟩] w fun e w' => e = .returned (.int .i64 (Lib.indexByte s.data.toList c)) ∧ w' = w:=Any.strings_Index_one Tryz.lays143 s c w
def Tryz.lays102_ren : Go.Shelf.Ren:=⟨fun|102 => 21|209 => 44|207 => 72|n => n,fun|9 => 9|4 => 4|3 => 3|n => n,fun|n => n⟩
theorem Tryz.lays102 : Go.Proofs.Lays.n102 Tryz.prog Tryz.lays102_ren:={
 mixed:=by kernel_rfl
 f102:=Tryz.func21.trans (congrArg some (by kernel_rfl))
 f207:=Tryz.func72.trans (congrArg some (by kernel_rfl))
 f209:=Tryz.func44.trans (congrArg some (by kernel_rfl))
 t3:=Tryz.underlying3
 a3:=Tryz.isAgg3
 z3:=Tryz.sizeOf3
 v3:=Tryz.zeroValue3
 t4:=Tryz.underlying4
 a4:=Tryz.isAgg4
 z4:=Tryz.sizeOf4
 v4:=Tryz.zeroValue4
 t9:=Tryz.underlying9
 a9:=Tryz.isAgg9
 z9:=Tryz.sizeOf9
 v9:=Tryz.zeroValue9 }
open Go.RowKit Go.Lib in
/-- strings.TrimSuffix: "TrimSuffix returns s without the provided trailing suffix string. If s doesn't end with suffix, s is returned unchanged.": IT RETURNS 'Lib.trimSuffix s suffix'; the world is as it was. (LAID: no walk: one application.) -/
theorem Tryz.strings_TrimSuffix (s p : ByteArray) (w : World) (hs : s.size ≤ 9223372036854775807) :
  Calls Tryz.prog 21 #[.string s,.string p] w fun e w' => e = .returned (.string ⟨(Lib.trimSuffix s.data.toList p.data.toList).toArray⟩) ∧ w' = w:=Any.strings_TrimSuffix Tryz.lays102 s p w hs
def Tryz.lays146_ren : Go.Shelf.Ren:=⟨fun|146 => 20|221 => 43|268 => 69|138 => 70|143 => 71|195 => 89|197 => 90|218 => 91|219 => 92|260 => 107|217 => 68|225 => 108|224 => 109|267 => 110|266 => 88|314 => 120|n => n,fun|9 => 9|31 => 34|3 => 3|4 => 4|0 => 0|105 => 101|21 => 21|5 => 5|46 => 110|119 => 131|139 => 134|138 => 133|146 => 135|51 => 128|n => n,fun|1 => 0|3 => 4|4 => 5|n => n⟩
theorem Tryz.lays146 : Go.Proofs.Lays.n146 Tryz.prog Tryz.lays146_ren:={
 mixed:=by kernel_rfl
 f138:=Tryz.func70.trans (congrArg some (by kernel_rfl))
 f143:=Tryz.func71.trans (congrArg some (by kernel_rfl))
 f146:=Tryz.func20.trans (congrArg some (by kernel_rfl))
 f195:=Tryz.func89.trans (congrArg some (by kernel_rfl))
 f197:=Tryz.func90.trans (congrArg some (by kernel_rfl))
 f217:=Tryz.func68.trans (congrArg some (by kernel_rfl))
 f218:=Tryz.func91.trans (congrArg some (by kernel_rfl))
 f219:=Tryz.func92.trans (congrArg some (by kernel_rfl))
 f221:=Tryz.func43.trans (congrArg some (by kernel_rfl))
 f224:=Tryz.func109.trans (congrArg some (by kernel_rfl))
 f225:=Tryz.func108.trans (congrArg some (by kernel_rfl))
 f260:=Tryz.func107.trans (congrArg some (by kernel_rfl))
 f266:=Tryz.func88.trans (congrArg some (by kernel_rfl))
 f267:=Tryz.func110.trans (congrArg some (by kernel_rfl))
 f268:=Tryz.func69.trans (congrArg some (by kernel_rfl))
 f314:=Tryz.func120.trans (congrArg some (by kernel_rfl))
 t0:=Tryz.underlying0
 a0:=Tryz.isAgg0
 z0:=Tryz.sizeOf0
 v0:=Tryz.zeroValue0
 t3:=Tryz.underlying3
 a3:=Tryz.isAgg3
 z3:=Tryz.sizeOf3
 v3:=Tryz.zeroValue3
 t4:=Tryz.underlying4
 a4:=Tryz.isAgg4
 z4:=Tryz.sizeOf4
 v4:=Tryz.zeroValue4
 t5:=Tryz.underlying5
 a5:=Tryz.isAgg5
 z5:=Tryz.sizeOf5
 v5:=Tryz.zeroValue5
 t9:=Tryz.underlying9
 a9:=Tryz.isAgg9
 z9:=Tryz.sizeOf9
 v9:=Tryz.zeroValue9
 t21:=Tryz.underlying21
 a21:=Tryz.isAgg21
 z21:=Tryz.sizeOf21
 v21:=Tryz.zeroValue21
 t31:=Tryz.underlying34
 a31:=Tryz.isAgg34
 z31:=Tryz.sizeOf34
 v31:=Tryz.zeroValue34
 t46:=Tryz.underlying110
 a46:=Tryz.isAgg110
 z46:=Tryz.sizeOf110
 v46:=Tryz.zeroValue110
 t51:=Tryz.underlying128
 a51:=Tryz.isAgg128
 z51:=Tryz.sizeOf128
 v51:=Tryz.zeroValue128
 t105:=Tryz.underlying101
 a105:=Tryz.isAgg101
 z105:=Tryz.sizeOf101
 v105:=Tryz.zeroValue101
 t119:=Tryz.underlying131
 a119:=Tryz.isAgg131
 z119:=Tryz.sizeOf131
 t138:=Tryz.underlying133
 a138:=Tryz.isAgg133
 z138:=Tryz.sizeOf133
 v138:=Tryz.zeroValue133
 t139:=Tryz.underlying134
 a139:=Tryz.isAgg134
 z139:=Tryz.sizeOf134
 v139:=Tryz.zeroValue134
 t146:=Tryz.underlying135
 a146:=Tryz.isAgg135
 z146:=Tryz.sizeOf135
 v146:=Tryz.zeroValue135
 g1:=by kernel_rfl
 g3:=by kernel_rfl
 g4:=by kernel_rfl }
open Go.RowKit Go.Lib in
/-- strings.Split. (LAID: no walk: one application.) -/
theorem Tryz.strings_Split (s sep : ByteArray) (m : Int) (w : World) (hs : s.size < 4294967281) (hm : w.cell? ⟨0,0,none⟩ = some (.int .i64 m)) (h1 : 1 ≤ sep.size) :
  Calls Tryz.prog 20 #[.string s,.string sep] w fun e w' =>
   e = .returned (.slice (some ⟨w.heap.size,0,none⟩) (Lib.countB s sep + 1) (Lib.countB s sep + 1)) ∧ w' = w.alloc (.cells ((Lib.splitB sep 0 (Lib.countB s sep) s).map Value.string).toArray 9):=Any.strings_Split Tryz.lays146 (by kernel_rfl) s sep m w hs hm h1
end Go.Proofs

namespace Go.Proofs.YtgbdnbbfgcogjaaGreatDoor.Tb
open Go.RowKit
/-- The table of powers of ten lies as the library's text lays it. -/
def T1 (w : World) : Prop:=Lib.TabIs Tryz.prog w "internal/strconv.uint64pow10" .u64 Lib.pow10Tab
theorem T1.below {w w' : World} (h : T1 w) (hb : Below w.heap.size w w') : T1 w':=by
 unfold T1 Lib.TabIs World.var? at h ⊢
 rcases hg : Tryz.prog.globalNamed "internal/strconv.uint64pow10" with _|g
 ·rw [hg] at h
  cases h
 ·rw [hg] at h
  simp only [Option.bind_some] at h ⊢
  have hlt : g < w.heap.size:=by
   rcases Nat.lt_or_ge g w.heap.size with h'|h'
   ·exact h'
   ·rw [Array.getElem?_eq_none h'] at h;cases h
  rw [hb.block g hlt]
  exact h
/-- The variables of the two errors hold interface values. -/
def Er (w : World) : Prop:=(∃ ev,w.cell? ⟨1,0,none⟩ = some ev ∧ (ev = .nilIface ∨ ∃ te pe,ev = .iface te pe)) ∧ (∃ ev,w.cell? ⟨2,0,none⟩ = some ev ∧ (ev = .nilIface ∨ ∃ te pe,ev = .iface te pe))
theorem cell_later {w w' : World} (hb : Below w.heap.size w w') {a : Addr} {v : Value} (hc : w.cell? a = some v) : w'.cell? a = some v:=(hb.cell (World.block_lt_of_cell? w a hc)).trans hc
theorem Er.below {w w' : World} (h : Er w) (hb : Below w.heap.size w w') : Er w':=by
 obtain ⟨⟨e1,h1,k1⟩,e2,h2,k2⟩:=h
 exact ⟨⟨e1,cell_later hb h1,k1⟩,e2,cell_later hb h2,k2⟩
/-- The table, and the errors' variables. -/
def T2 (w : World) : Prop:=T1 w ∧ Er w
theorem T2.below {w w' : World} (h : T2 w) (hb : Below w.heap.size w w') : T2 w':=⟨h.1.below hb,h.2.below hb⟩
theorem T1.of {w : World} (h : T2 w) : T1 w:=h.1
theorem below_drewN (w : World) : ∀ n,Below w.heap.size w (w.drewN n)
 | 0 => Below.refl _ _
 | n + 1 => by
  rw [← World.drew_drewN]
  exact (below_drewN w n).drew
open Go.Shelf Go.Sort in
theorem below_grow (w : World) (n : Nat) (os : Array Obj) : Below w.heap.size w (grow (w.drewN n) os):=by
 have h:=below_drewN w n
 have hs:=h.size
 refine ⟨h.os,h.tape,h.output,?_,fun i hi => ?_⟩
 ·simp
 ·rw [heap_grow_old _ _ (by omega)]
  exact h.block i hi
end Go.Proofs.YtgbdnbbfgcogjaaGreatDoor.Tb

namespace Go.Proofs.YtgbdnbbfgcogjaaGreatDoor.Q
open Go.RowKit Go.Proofs.YtgbdnbbfgcogjaaGreatDoorW.PrintWords Go.Proofs.YtgbdnbbfgcogjaaGreatDoorW.PrintLast Go.Proofs.YtgbdnbbfgcogjaaGreatDoorW.PrintMore
attribute [local go_sem] d7z d5z d9z d8z c8z c7z d6z d4z
set_option linter.unusedVariables false
set_option linter.unusedSimpArgs false
/-- A number in decimals. -/
def strconv_Itoa.f (a0 : Int) : Option ByteArray:=if -9223372036854775808 ≤ a0 ∧ a0 ≤ 9223372036854775807 then some ⟨(Lib.itoa a0).toArray⟩ else none
theorem strconv_Itoa.calls (a0 : Int) (r : ByteArray) (w : World) (hT : Tb.T1 w) (h : strconv_Itoa.f a0 = some r) :
  Calls Tryz.prog 27 #[.int .i64 a0] w fun e w' => e = .returned (.string r) ∧ Below w.heap.size w w':=by
 unfold strconv_Itoa.f at h
 split at h
 ·rename_i hc
  obtain rfl:=Option.some.inj h
  refine (Tryz.strconv_Itoa a0 hc.1 hc.2 w hT).mono ?_
  rintro e w' ⟨rfl,k,os,rfl⟩
  exact ⟨rfl,Tb.below_grow w k os⟩
 ·cases h
/-- Strings joined by a separator. -/
def strings_Join.f (l0 : List ByteArray) (a1 : ByteArray) : Option ByteArray :=
 if l0.length ≤ 140737488355328 ∧ (Lib.join (l0.map (·.data.toList)) a1.data.toList).length ≤ 140737488355328 then some ⟨(Lib.join (l0.map (·.data.toList)) a1.data.toList).toArray⟩ else none
theorem strings_Join.calls (A0 : Option Addr) (c0 : Nat) (l0 : List ByteArray) (a1 : ByteArray) (r : ByteArray) (w : World) (hr0 : Kd.C Kd.string w A0 l0.length l0) (hc0 : l0.length ≤ c0) (h : strings_Join.f l0 a1 = some r) :
  Calls Tryz.prog 29 #[.slice A0 l0.length c0,.string a1] w fun e w' => e = .returned (.string r) ∧ Below w.heap.size w w':=by
 unfold strings_Join.f at h
 split at h
 ·rename_i hc
  obtain rfl:=Option.some.inj h
  rcases Nat.eq_zero_or_pos l0.length with h0|h0
  ·obtain rfl:=List.length_eq_zero_iff.1 h0
   refine (Tryz.strings_Join_none A0 c0 a1 w).mono ?_
   rintro e w' ⟨rfl,rfl⟩
   exact ⟨rfl,Below.refl _ _⟩
  ·obtain ⟨ad,rfl,c00⟩:=Kd.e7z hr0 0 (Int.le_refl 0) (by omega)
   have hn : ad.spot = none:=by
    have h : w.cell? (ad.add 0) = _:=c00
    unfold Addr.add World.cell? at h
    rw [if_pos rfl] at h
    split at h
    ·cases hs : ad.spot with
     | none => rfl
     | some x => rw [hs] at h;simp at h
    ·cases h
   obtain ⟨b,off,sp⟩:=ad
   obtain rfl : sp = none:=hn
   refine (Tryz.strings_Join b off c0 l0 a1 w (fun j x hj => ?_) (World.block_lt_of_cell? w ⟨b,off,none⟩ c00) hc.1 hc0 hc.2).mono ?_
   ·have hlt : j < l0.length:=by
     rcases Nat.lt_or_ge j l0.length with h|h
     ·exact h
     ·rw [List.getElem?_eq_none h] at hj;cases hj
    obtain ⟨ad,e,c0⟩:=Kd.e7z hr0 j (by omega) (by omega)
    obtain rfl : (⟨b,off,none⟩ : Addr) = ad:=Option.some.inj e
    simp only [Addr.add_lit,Int.toNat_natCast] at c0
    have hx : rdOf ByteArray.empty l0 (j : Int) = x:=by
     show l0.getD ((j : Int)).toNat _ = x
     rw [Int.toNat_natCast,List.getD_eq_getElem?_getD,hj]
     rfl
    rw [c0,hx]
   ·rintro e w' ⟨rfl,hb⟩
    exact ⟨rfl,hb⟩
 ·cases h
def impl_in.f (a0 : Int) (a1 : Int) (a2 : Int) : Option (Bool):=if a0 ≥ a1 then (some (decide (a0 ≤ a2))) else (some false)
set_option maxHeartbeats 8000000 in
set_option maxRecDepth 100000 in
theorem impl_in.calls (a0 : Int) (a1 : Int) (a2 : Int) (r : Bool) (w : World) (h : impl_in.f a0 a1 a2 = some r) :
  Calls Tryz.prog 80 #[.int .i64 a0,.int .i64 a1,.int .i64 a2] w fun e w' => e = .returned (.bool r) ∧ Drawn0 w w':=by
 have H : (if a0 ≥ a1 then (some (decide (a0 ≤ a2))) else (some false)) = some r:=h
 clear h
 by_cases c4 : a0 ≥ a1
 ·rw [if_pos c4] at H
  have c4b0 : decide (a1 ≤ a0) = true:=decide_eq_true c4
  clear c4
  obtain rfl:=Option.some.inj H
  go_enter Tryz.func80,Tryz.ntmps80
  go_wp2
  go_ret
  exact ⟨by first|rfl|(simp;done)|(simp [*];done),by repeat (first|exact Drawn0.refl _|apply Drawn0.step)⟩
 ·rw [if_neg c4] at H
  have c4b0 : decide (a1 ≤ a0) = false:=decide_eq_false c4
  clear c4
  obtain rfl:=Option.some.inj H
  go_enter Tryz.func80,Tryz.ntmps80
  go_wp2
  go_ret
  exact ⟨by first|rfl|(simp;done)|(simp [*];done),by repeat (first|exact Drawn0.refl _|apply Drawn0.step)⟩
def impl_isAddr.f (a0 : Int) : Option (Bool):=(impl_in.f a0 0 4294967295).bind fun t101 => (some t101)
set_option maxHeartbeats 8000000 in
set_option maxRecDepth 100000 in
theorem impl_isAddr.calls (a0 : Int) (r : Bool) (w : World) (h : impl_isAddr.f a0 = some r) :
  Calls Tryz.prog 84 #[.int .i64 a0] w fun e w' => e = .returned (.bool r) ∧ Drawn0 w w':=by
 have H : ((impl_in.f a0 0 4294967295).bind fun t101 => (some t101)) = some r:=h
 clear h
 replace H:=Option.bind_eq_some_iff.mp H
 obtain ⟨t101,A20,H⟩:=H
 replace H : (some t101) = some r:=H
 have A2:=a1z.mk A20
 clear A20
 obtain rfl:=Option.some.inj H
 go_enter Tryz.func84,Tryz.ntmps84
 go_wp2_with (first|((with_reducible refine b2z (f:=80) rfl ?_);refine c1z (some 4) rfl rfl Tryz.func80 (by kernel_rfl) rfl #[.int .i64 a0,.int .i64 0,.int .i64 4294967295] rfl (by (try simp only [mA_,mC_,mN_]);first|done|rfl|(simp only [lD_,lT_];rfl)) ?_;(with_reducible refine (impl_in.calls a0 0 4294967295 t101 _ A2.1).mono ?_);rintro e w' ⟨rfl,⟨nd,rfl⟩⟩;refine ⟨_,rfl,?_⟩))
 go_ret
 exact ⟨by first|rfl|(simp;done)|(simp [*];done),by repeat (first|exact Drawn0.refl _|apply Drawn0.step)⟩
def impl_AddrText.l0 : Nat → Int → List ByteArray → Int → Option (ByteArray)
 | 0,_,_,_ => none
 | k + 1,x0,x3,x4 => if x4 ≥ 0 then (if 0 ≤ x4 then ((strconv_Itoa.f (Go.bits .and .i64 (shr .i64 x0 x4) 255)).bind fun t102 => (if x3.length < 8796093022208 then (impl_AddrText.l0 k x0 (x3 ++ [t102]) (wrap64 (x4 - 8))) else (none))) else (none)) else ((strings_Join.f x3 (⟨#[46]⟩ : ByteArray)).bind fun t106 => (some t106))
def impl_AddrText.f (k : Nat) (a0 : Int) : Option (ByteArray):=(impl_isAddr.f a0).bind fun t101 => (if t101 = true then (impl_AddrText.l0 k a0 ([] : List ByteArray) 24) else (some (⟨#[]⟩ : ByteArray)))
set_option maxHeartbeats 8000000 in
set_option maxRecDepth 100000 in
theorem impl_AddrText.calls (k : Nat) (a0 : Int) (r : ByteArray) (w : World) (hT : Tb.T1 w) (h : impl_AddrText.f k a0 = some r) :
  Calls Tryz.prog 61 #[.int .i64 a0] w fun e w' => e = .returned (.string r) ∧ Below w.heap.size w w':=by
 have HT:=a1z.mk hT
 clear hT
 have HB:=a1z.mk (Below.refl w.heap.size w)
 have H : ((impl_isAddr.f a0).bind fun t101 => (if t101 = true then (impl_AddrText.l0 k a0 ([] : List ByteArray) 24) else (some (⟨#[]⟩ : ByteArray)))) = some r:=h
 clear h
 replace H:=Option.bind_eq_some_iff.mp H
 obtain ⟨t101,A20,H⟩:=H
 replace H : (if t101 = true then (impl_AddrText.l0 k a0 ([] : List ByteArray) 24) else (some (⟨#[]⟩ : ByteArray))) = some r:=H
 have A2:=a1z.mk A20
 clear A20
 by_cases c3 : t101 = true
 ·subst c3
  have H1 : (impl_AddrText.l0 k a0 ([] : List ByteArray) 24) = some r:=by rw [if_pos rfl] at H;exact H
  clear H
  have H:=H1
  clear H1
  have H':=a1z.mk H
  clear H
  go_enter Tryz.func61,Tryz.ntmps61
  go_wp2_with (first|((with_reducible refine b2z (f:=84) rfl ?_);refine c1z (some 6) rfl rfl Tryz.func84 (by kernel_rfl) rfl #[.int .i64 a0] rfl (by (try simp only [mA_,mC_,mN_]);first|done|rfl|(simp only [lD_,lT_];rfl)) ?_;(with_reducible refine (impl_isAddr.calls a0 true _ A2.1).mono ?_);rintro e w' ⟨rfl,⟨nd,rfl⟩⟩;refine ⟨_,rfl,?_⟩))
  go_loopg [3,4] k (fun kq v3 v4 w' => ∃ (x3_1 : List ByteArray) (x4_1 : Int),v4 = .int .i64 x4_1 ∧ a1z (impl_AddrText.l0 kq a0 x3_1 x4_1 = some r) ∧ a1z (kq ≤ k) ∧ a1z (Kd.R Kd.string 9 w' w.heap.size (fun _ => True) v3 x3_1) ∧ a1z (Below w.heap.size w w'))
  case atStart => exact ⟨(([] : List ByteArray)),(24),(by first|rfl|(simp;done)|(simp [*];done)),H',⟨Nat.le_refl _⟩,⟨by first|exact Kd.R_nil _ _ _ _ _|exact Kd.N_nil _ _ _ _ _|exact Kd.V_nil _ _ _ _ _|exact Kd.Q_nil _ _ _ _ _|exact Kd.S_nil _ _ _ _ _⟩,⟨by repeat (first|(with_reducible first|exact HB.1|apply a3z|apply a0z|apply a2z)|exact HB.1)⟩⟩
  case round =>
   clear H'
   try clear p2
   try clear c3
   obtain ⟨x3_1,x4_1,rfl,HA,HK1,HO_3,HB⟩:=hrel
   cases gk with
   | zero => exact absurd HA.1 (by simp [impl_AddrText.l0])
   | succ k1 =>
    have H:=HA.1
    clear HA
    simp only [impl_AddrText.l0] at H
    by_cases c4 : x4_1 ≥ 0
    ·rw [if_pos c4] at H
     have c4b0 : decide (0 ≤ x4_1) = true:=decide_eq_true c4
     clear c4
     by_cases c5 : 0 ≤ x4_1
     ·rw [if_pos c5] at H
      have c5b0:=eq_true c5
      have c5b1 : decide (0 ≤ x4_1) = true:=decide_eq_true c5
      clear c5
      obtain ⟨ji6,hji6⟩ : ∃ j_ : Int,(shr .i64 a0 x4_1) = j_:=⟨_,rfl⟩
      replace H : ((strconv_Itoa.f (Go.bits .and .i64 (ji6) 255)).bind fun t102 => (if x3_1.length < 8796093022208 then (impl_AddrText.l0 k1 a0 (x3_1 ++ [t102]) (wrap64 (x4_1 - 8))) else (none))) = some r:=by first|(rw [hji6] at H;exact H)|(simp only [hji6] at H ⊢;exact H)
      have hji6_ : (a0 / 2 ^ min x4_1.toNat 64) = ji6:=hji6
      have hji6z : x4_1 ≤ 64 → (a0 / 2 ^ x4_1.toNat) = ji6:=shr_small hji6
      replace H:=Option.bind_eq_some_iff.mp H
      obtain ⟨t102,A70,H⟩:=H
      replace H : (if x3_1.length < 8796093022208 then (impl_AddrText.l0 k1 a0 (x3_1 ++ [t102]) (wrap64 (x4_1 - 8))) else (none)) = some r:=H
      have A7:=a1z.mk A70
      clear A70
      by_cases c8 : x3_1.length < 8796093022208
      ·rw [if_pos c8] at H
       have LMc8:=a1z.mk c8
       clear c8
       obtain ⟨y103,hy103⟩ : ∃ y_ : List ByteArray,y_ = (x3_1 ++ [t102]):=⟨_,rfl⟩
       replace H : (impl_AddrText.l0 k1 a0 y103 (wrap64 (x4_1 - 8))) = some r:=by first|(rw [hy103];with_reducible exact H)|(have H2_:=(Option.bind_some _ _).symm.trans H;rw [hy103];with_reducible exact H2_)|(have H2_:=(Option.bind_some _ _).symm.trans H;with_reducible exact H2_)|with_reducible exact H|(rw [hy103];exact H)|exact H
       have Ny103:=a1z.mk hy103
       clear hy103
       have H':=a1z.mk H
       clear H
       go_wp2_with (first|((with_reducible refine b2z (f:=27) rfl ?_);refine c1z (some 17) rfl rfl Tryz.func27 (by kernel_rfl) rfl #[.int .i64 (Go.bits .and .i64 (ji6) 255)] rfl (by (try simp only [mA_,mC_,mN_]);first|done|(simp only [hji6];rfl)|rfl|(simp only [lD_,lT_];rfl)) ?_;(with_reducible refine (strconv_Itoa.calls (Go.bits .and .i64 (ji6) 255) t102 _ ?side1 A7.1).mono ?_);(case side1 => exact (Tb.T1.below HT.out (by repeat (first|(with_reducible first|exact HB.1|apply a3z|apply a0z|apply a2z)|exact HB.1))));rintro e w9 ⟨rfl,hb⟩;refine ⟨_,rfl,?_⟩;have n0_:=a1z.mk (Kd.d3z (by (with_reducible repeat (first|apply Kd.R_alloc|apply Kd.b6z|apply Kd.b9z));exact HO_3.1) hb);have n1_:=a1z.mk (b1z (by repeat (first|(with_reducible first|exact HB.1|apply a3z|apply a0z|apply a2z)|exact HB.1)) hb);clear HO_3 HB;have HO_3:=n0_;have HB:=n1_;clear n0_ n1_;(try clear hb))|((with_reducible refine g7z (b:=.append) (xs:=#[.tmp 12,.tmp 18]) rfl ?_);at_builtin;refine Kd.R_append Kd.string (w0:=w) w.heap.size rfl (.tmp 12) (.tmp 18) 34 9 (.string ⟨#[]⟩) 16 rfl Tryz.underlying34 info9 rfl (by decide) (by omega) u3 x3_1 t102 [.string t102] (fun _ => True) (fun _ => False) rfl rfl ?aP (fun _ hk => hk.elim) ?aF ?aO ?aB ?aS ?aL ?_;(case aP => exact rfl);(case aB => exact (by repeat (first|(with_reducible first|exact HB.1|apply a3z|apply a0z|apply a2z)|exact HB.1)));(case aF => exact (fun _ _ => trivial));(case aO => exact (by (with_reducible repeat (first|apply Kd.R_alloc|apply Kd.b6z|apply Kd.b9z));exact HO_3.1));(case aS => exact (b8z (by repeat (first|(with_reducible first|exact HB.1|apply a3z|apply a0z|apply a2z)|exact HB.1))));(case aL => have:=LMc8.1;omega);intro v104 w10 ho hb hg hat;rw [← Ny103.1] at ho;have n0_:=a1z.mk (hb);have n1_:=a1z.mk (ho);clear HB HO_3;have HB:=n0_;have HO105:=n1_;clear n0_ n1_;clear ho hb hg hat))
       go_roundg k1
       case measure => have:=HK1.1;omega
       case rel => exact ⟨(y103),(wrap64 (x4_1 - 8)),(by first|rfl|(simp;done)|(simp [*];done)),H',⟨by have:=HK1.1;omega⟩,⟨by (with_reducible repeat (first|apply Kd.R_alloc|apply Kd.b6z|apply Kd.b9z));exact HO105.1⟩,⟨by repeat (first|(with_reducible first|exact HB.1|apply a3z|apply a0z|apply a2z)|exact HB.1)⟩⟩
      ·rw [if_neg c8] at H
       exact absurd H (by simp)
     ·rw [if_neg c5] at H
      exact absurd H (by simp)
    ·rw [if_neg c4] at H
     have c4b0 : decide (0 ≤ x4_1) = false:=decide_eq_false c4
     clear c4
     replace H:=Option.bind_eq_some_iff.mp H
     obtain ⟨t106,A110,H⟩:=H
     replace H : (some t106) = some r:=H
     have A11:=a1z.mk A110
     clear A110
     obtain rfl:=Option.some.inj H
     obtain ⟨Ao12,co12,eo12⟩:=Kd.e0z HO_3.1
     subst eo12
     go_wp2_with (first|((with_reducible refine b2z (f:=29) rfl ?_);refine c1z (some 21) rfl rfl Tryz.func29 (by kernel_rfl) rfl #[.slice Ao12 x3_1.length co12,.string (⟨#[46]⟩ : ByteArray)] rfl (by (try simp only [mA_,mC_,mN_]);first|done|rfl|(simp only [lD_,lT_];rfl)) ?_;(with_reducible refine (strings_Join.calls _ _ x3_1 (⟨#[46]⟩ : ByteArray) t106 _ ?side1 ?side2 A11.1).mono ?_);(case side1 => repeat (first|exact (Kd.c2z HO_3.1).2.2|(with_reducible refine Kd.C_alloc ?_ _)|(with_reducible refine Kd.C_drewN ?_ _)|(with_reducible refine Kd.e5z ?_)));(case side2 => exact (Kd.c2z HO_3.1).2.1);rintro e w13 ⟨rfl,hb⟩;refine ⟨_,rfl,?_⟩;have n0_:=a1z.mk (Kd.d3z (by (with_reducible repeat (first|apply Kd.R_alloc|apply Kd.b6z|apply Kd.b9z));exact HO_3.1) hb);have n1_:=a1z.mk (b1z (by repeat (first|(with_reducible first|exact HB.1|apply a3z|apply a0z|apply a2z)|exact HB.1)) hb);clear HO_3 HB;have HO_3:=n0_;have HB:=n1_;clear n0_ n1_;(try clear hb)))
     go_ret
     exact ⟨by first|rfl|(simp [b5z,b4z] <;> rfl)|(simp [*,b5z,b4z] <;> rfl),by repeat (first|(with_reducible first|exact HB.1|apply a3z|apply a0z|apply a2z)|exact HB.1)⟩
 ·replace c3:=Bool.eq_false_iff.mpr c3
  subst c3
  have H1 : (some (⟨#[]⟩ : ByteArray)) = some r:=by rw [if_neg (show ¬ (false = true) by decide)] at H;exact H
  clear H
  have H:=H1
  clear H1
  obtain rfl:=Option.some.inj H
  go_enter Tryz.func61,Tryz.ntmps61
  go_wp2_with (first|((with_reducible refine b2z (f:=84) rfl ?_);refine c1z (some 6) rfl rfl Tryz.func84 (by kernel_rfl) rfl #[.int .i64 a0] rfl (by (try simp only [mA_,mC_,mN_]);first|done|rfl|(simp only [lD_,lT_];rfl)) ?_;(with_reducible refine (impl_isAddr.calls a0 false _ A2.1).mono ?_);rintro e w' ⟨rfl,⟨nd,rfl⟩⟩;refine ⟨_,rfl,?_⟩))
  go_ret
  exact ⟨by first|rfl|(simp [b5z,b4z] <;> rfl)|(simp [*,b5z,b4z] <;> rfl),by repeat (first|(with_reducible first|exact HB.1|apply a3z|apply a0z|apply a2z)|exact HB.1)⟩
def impl_Block_size.f (a0_0 : Int) (a0_1 : Int) : Option (Int):=if 0 ≤ (wrap64 (32 - a0_1)) then (some (shl .i64 1 (wrap64 (32 - a0_1)))) else (none)
set_option maxHeartbeats 8000000 in
set_option maxRecDepth 100000 in
theorem impl_Block_size.calls (a0_0 : Int) (a0_1 : Int) (r : Int) (w : World) (h : impl_Block_size.f a0_0 a0_1 = some r) :
  Calls Tryz.prog 85 #[.agg #[.int .i64 a0_0,.int .i64 a0_1]] w fun e w' => e = .returned (.int .i64 r) ∧ Below w.heap.size w w':=by
 have hu37:=Tryz.underlying37
 have HB:=a1z.mk (Below.refl w.heap.size w)
 have H : (if 0 ≤ (wrap64 (32 - a0_1)) then (some (shl .i64 1 (wrap64 (32 - a0_1)))) else (none)) = some r:=h
 clear h
 obtain ⟨ji2,hji2⟩ : ∃ j_ : Int,(wrap64 (32 - a0_1)) = j_:=⟨_,rfl⟩
 replace H : (if 0 ≤ (ji2) then (some (shl .i64 1 (ji2))) else (none)) = some r:=by first|(rw [hji2] at H;exact H)|(simp only [hji2] at H ⊢;exact H)
 have hji2w : (IntKind.i64.wrap (32 - a0_1)) = ji2:=(i64_w _).trans hji2
 by_cases c3 : 0 ≤ (ji2)
 ·rw [if_pos c3] at H
  have c3b0:=eq_true c3
  have c3b1 : decide (0 ≤ (ji2)) = true:=decide_eq_true c3
  clear c3
  obtain ⟨ji4,hji4⟩ : ∃ j_ : Int,(shl .i64 1 (ji2)) = j_:=⟨_,rfl⟩
  replace H : (some ji4) = some r:=by first|(rw [hji4] at H;exact H)|(simp only [hji4] at H ⊢;exact H)
  have hji4_ : (IntKind.i64.wrap (1 * 2 ^ min (ji2).toNat 64)) = ji4:=hji4
  have hji4z : (ji2) ≤ 64 → (IntKind.i64.wrap (1 * 2 ^ (ji2).toNat)) = ji4:=shl_small hji4
  have hji4u : (IntKind.i64.wrap (2 ^ min (ji2).toNat 64)) = ji4:=by have h_:=hji4_;rw [Int.one_mul] at h_;exact h_
  have hji4v : (ji2) ≤ 64 → (IntKind.i64.wrap (2 ^ (ji2).toNat)) = ji4:=fun hle_ => by have h_:=hji4z hle_;rw [Int.one_mul] at h_;exact h_
  have hji4y : (wrap64 (1 * 2 ^ min (ji2).toNat 64)) = ji4:=(i64_w _).symm.trans hji4_
  have hji4x : (ji2) ≤ 64 → (wrap64 (1 * 2 ^ (ji2).toNat)) = ji4:=fun h_ => (i64_w _).symm.trans (hji4z h_)
  obtain rfl:=Option.some.inj H
  go_enter Tryz.func85,Tryz.ntmps85
  go_wp2_with (first|((with_reducible refine c5z (N:=1) rfl ?_);refine d2z ?hg (N:=1) ?hd (cs:=#[.int .i64 a0_0,.int .i64 a0_1]) (t:=37) ?hr ?_;(case hd => rfl);(case hg => rfl);(case hr => first|(go_simp;done)|(go_simp;rfl));intro gb101 hg w5 hbox hb;have n0_:=a1z.mk (b1z (by repeat (first|(with_reducible first|exact HB.1|apply a3z|apply a0z|apply a2z)|exact HB.1)) hb);have n1_:=a1z.mk (hbox);have n2_:=a1z.mk ((by rw [hg];exact (b8z (by repeat (first|(with_reducible first|exact HB.1|apply a3z|apply a0z|apply a2z)|exact HB.1))) : w.heap.size ≤ gb101));have n3_:=a1z.mk ((by rw [hg];exact (b8z (by repeat (first|(with_reducible first|exact HB.1|apply a3z|apply a0z|apply a2z)|exact HB.1))) : w.heap.size ≤ gb101));clear HB;have HB:=n0_;have BK101:=n1_;have GW101:=n2_;have GE101:=n3_;clear n0_ n1_ n2_ n3_;clear hb hbox hg;have hcz6_0:=c20_ BK101.1;have hcz6_1:=c21_ BK101.1;have hfz6_0:=a4z BK101.1 0;have hfz6_1:=a4z BK101.1 1))
  go_ret
  exact ⟨by first|rfl|(simp [b5z,b4z] <;> rfl)|(simp only [← hji2,← hji4];first|rfl|(simp [b5z,b4z] <;> rfl))|(simp [*,b5z,b4z] <;> rfl),by repeat (first|(with_reducible first|exact HB.1|apply a3z|apply a0z|apply a2z|refine a5z ?_ GE101.1)|exact HB.1)⟩
 ·rw [if_neg c3] at H
  exact absurd H (by simp)
def impl_BlockOk.f (a0_0 : Int) (a0_1 : Int) : Option (Bool):=(impl_isAddr.f a0_0).bind fun t102 => (if t102 = true then ((impl_in.f a0_1 0 32).bind fun t103 => (if t103 = true then ((impl_Block_size.f a0_0 a0_1).bind fun t104 => (if t104 = 0 then (none) else (some ((Int.tmod a0_0 t104) == 0)))) else (some false))) else (some false))
def impl_BlockOk.T1 : Bool × List (List Nat × List Nat):=(true,[([],[]),([0],[0]),([1],[1]),([2,2],[2]),([3],[3]),([4,3],[3,4]),([5,3,3],[3,5]),([3,6],[3,6]),([7,6],[7]),([8],[8]),([9,8],[8,9]),([8],[8]),([11,8,8],[8,11]),([10,12,8],[8,10,12]),([13,8],[8,13]),([8,14],[8,14]),([15,12,0,1,2,3,4,5,6,7,8,9,10,11,12,13,14,15],[15])])
def impl_BlockOk.B1 : List Nat:=[0,1,3,7,15,31,63,127,255,511,1023,511,2559,8191,16383,32767,65535]
theorem impl_BlockOk.tab1 : rtab .any (opsOf Tryz.f60 1) = impl_BlockOk.T1:=by kernel_rfl
theorem impl_BlockOk.bits1 : waitsOk impl_BlockOk.T1.2 impl_BlockOk.B1 = true:=by kernel_rfl
set_option maxHeartbeats 8000000 in
set_option maxRecDepth 100000 in
theorem impl_BlockOk.calls (a0_0 : Int) (a0_1 : Int) (r : Bool) (w : World) (h : impl_BlockOk.f a0_0 a0_1 = some r) :
  Calls Tryz.prog 60 #[.agg #[.int .i64 a0_0,.int .i64 a0_1]] w fun e w' => e = .returned (.bool r) ∧ Below w.heap.size w w':=by
 have hu37:=Tryz.underlying37
 have HB:=a1z.mk (Below.refl w.heap.size w)
 have H : ((impl_isAddr.f a0_0).bind fun t102 => (if t102 = true then ((impl_in.f a0_1 0 32).bind fun t103 => (if t103 = true then ((impl_Block_size.f a0_0 a0_1).bind fun t104 => (if t104 = 0 then (none) else (some ((Int.tmod a0_0 t104) == 0)))) else (some false))) else (some false))) = some r:=h
 clear h
 replace H:=Option.bind_eq_some_iff.mp H
 obtain ⟨t102,A20,H⟩:=H
 replace H : (if t102 = true then ((impl_in.f a0_1 0 32).bind fun t103 => (if t103 = true then ((impl_Block_size.f a0_0 a0_1).bind fun t104 => (if t104 = 0 then (none) else (some ((Int.tmod a0_0 t104) == 0)))) else (some false))) else (some false)) = some r:=H
 have A2:=a1z.mk A20
 clear A20
 by_cases c3 : t102 = true
 ·subst c3
  have H1 : ((impl_in.f a0_1 0 32).bind fun t103 => (if t103 = true then ((impl_Block_size.f a0_0 a0_1).bind fun t104 => (if t104 = 0 then (none) else (some ((Int.tmod a0_0 t104) == 0)))) else (some false))) = some r:=by rw [if_pos rfl] at H;exact H
  clear H
  have H:=H1
  clear H1
  replace H:=Option.bind_eq_some_iff.mp H
  obtain ⟨t103,A40,H⟩:=H
  replace H : (if t103 = true then ((impl_Block_size.f a0_0 a0_1).bind fun t104 => (if t104 = 0 then (none) else (some ((Int.tmod a0_0 t104) == 0)))) else (some false)) = some r:=H
  have A4:=a1z.mk A40
  clear A40
  by_cases c5 : t103 = true
  ·subst c5
   have H1 : ((impl_Block_size.f a0_0 a0_1).bind fun t104 => (if t104 = 0 then (none) else (some ((Int.tmod a0_0 t104) == 0)))) = some r:=by rw [if_pos rfl] at H;exact H
   clear H
   have H:=H1
   clear H1
   replace H:=Option.bind_eq_some_iff.mp H
   obtain ⟨t104,A60,H⟩:=H
   replace H : (if t104 = 0 then (none) else (some ((Int.tmod a0_0 t104) == 0))) = some r:=H
   have A6:=a1z.mk A60
   clear A60
   by_cases c7 : t104 = 0
   ·rw [if_pos c7] at H
    exact absurd H (by simp)
   ·rw [if_neg c7] at H
    have c7b0 : (t104 == 0) = false:=beq_eq_false_iff_ne.mpr c7
    have c7b1 : (t104 != 0) = true:=bne_iff_ne.mpr c7
    obtain rfl:=Option.some.inj H
    go_enter Tryz.func60,Tryz.ntmps60
    try go_wp2_with (first|((with_reducible refine c5z (N:=1) rfl ?_);refine d2z ?hg (N:=1) ?hd (cs:=#[.int .i64 a0_0,.int .i64 a0_1]) (t:=37) ?hr ?_;(case hd => rfl);(case hg => rfl);(case hr => first|(go_simp;done)|(go_simp;rfl));intro gb101 hg w8 hbox hb;have n0_:=a1z.mk (b1z (by repeat (first|(with_reducible first|exact HB.1|apply a3z|apply a0z|apply a2z)|exact HB.1)) hb);have n1_:=a1z.mk (hbox);have n2_:=a1z.mk ((by rw [hg];exact (b8z (by repeat (first|(with_reducible first|exact HB.1|apply a3z|apply a0z|apply a2z)|exact HB.1))) : w.heap.size ≤ gb101));have n3_:=a1z.mk ((by rw [hg];exact (b8z (by repeat (first|(with_reducible first|exact HB.1|apply a3z|apply a0z|apply a2z)|exact HB.1))) : w.heap.size ≤ gb101));clear HB;have HB:=n0_;have BK101:=n1_;have GW101:=n2_;have GE101:=n3_;clear n0_ n1_ n2_ n3_;clear hb hbox hg))
    have n0_:=a1z.mk (a9z BK101.1)
    have n1_:=a1z.mk (a2z HB.1)
    clear BK101 HB
    have BK101:=n0_
    have HB:=n1_
    clear n0_ n1_
    refine h6z (n:=17) (S:=fun w' => w'.cell? ⟨gb101,0,none⟩ = some (.int .i64 a0_0) ∧ w'.cell? ⟨gb101,1,none⟩ = some (.int .i64 a0_1)) (ds:=[]) #[false,false,false,false,false,false,false,false,false,false,false,false,false,false,false,false,false] (by kernel_rfl) rfl rfl ⟨(b7z BK101.1 0).trans rfl,(b7z BK101.1 1).trans rfl⟩ (fun hHeld => ?_);refine g0z impl_BlockOk.tab1 impl_BlockOk.bits1 (fun HT_ HW_ => ?_)
    generalize w8.drew = w9 at BK101 HB hHeld ⊢
    refine pure_ (i:=0) (N:=some 3) (v:=?_) (a':=?_) #[true,false,false,false,false,false,false,false,false,false,false,false,false,false,false,false,false] rfl rfl (d1z HT_.1 (by kernel_rfl)) (fun _ _ _ h => h) (Or.inl ⟨by rfl,?_⟩) ?_ ?_
    rotate_left
    ·intro w'
     go_simp
     with_reducible rfl
    rotate_left
    ·simp only [Act.put,sA_,sZ_,sS_,i64_w,i32_w]
     rfl
    refine take_ (i:=1) (N:=some 4) (v:=?_) (a':=?_) #[true,true,false,false,false,false,false,false,false,false,false,false,false,false,false,false,false] rfl rfl (f0z HT_.1 HW_.1 (by kernel_rfl)) (fun _ _ _ h => h) (Or.inl ⟨by rfl,?_⟩) hHeld ?_ ?_
    rotate_left
    ·rintro w' ⟨s0,s1⟩
     go_simp
     with_reducible rfl
    rotate_left
    ·simp only [Act.put,sA_,sZ_,sS_,i64_w,i32_w]
     rfl
    refine one_ (i:=2) (N:=some 5) #[true,true,true,false,false,false,false,false,false,false,false,false,false,false,false,false,false] rfl rfl (e8z HT_.1 (by kernel_rfl)) (by decide) (fun K hK => ?_)
    refine goes_ Tryz.func84 (by kernel_rfl) rfl #[.int .i64 a0_0] (by rfl) rfl rfl (by (try simp only [mA_,mC_,mN_]);first|done|rfl|(simp only [lD_,lT_];rfl)) ?_
    with_reducible refine (impl_isAddr.calls a0_0 true _ A2.1).mono ?_
    rintro e w' ⟨rfl,⟨nd,rfl⟩⟩
    refine ⟨_,rfl,?_⟩
    refine hK.out _ _ ⟨(b7z BK101.1 0).trans rfl,(b7z BK101.1 1).trans rfl⟩ (fun hHeld => ?_)
    clear hK K
    refine norm_ (a':=?_) ?_ ?_
    rotate_left
    ·show Act.put _ (some 5) _ = _
     simp only [Act.put,sA_,sZ_,sS_,i64_w,i32_w]
     rfl
    refine pure_ (i:=3) (N:=some 6) (v:=?_) (a':=?_) #[true,true,true,true,false,false,false,false,false,false,false,false,false,false,false,false,false] rfl rfl (d1z HT_.1 (by kernel_rfl)) (fun _ _ _ h => h) (Or.inl ⟨by rfl,?_⟩) ?_ ?_
    rotate_left
    ·intro w'
     go_simp
     with_reducible rfl
    rotate_left
    ·simp only [Act.put,sA_,sZ_,sS_,i64_w,i32_w]
     rfl
    refine pure_ (i:=4) (N:=some 7) (v:=?_) (a':=?_) #[true,true,true,true,true,false,false,false,false,false,false,false,false,false,false,false,false] rfl rfl (d1z HT_.1 (by kernel_rfl)) (fun _ _ _ h => h) (Or.inl ⟨by rfl,?_⟩) ?_ ?_
    rotate_left
    ·intro w'
     go_simp
     with_reducible rfl
    rotate_left
    ·simp only [Act.put,sA_,sZ_,sS_,i64_w,i32_w]
     rfl
    refine take_ (i:=5) (N:=some 8) (v:=?_) (a':=?_) #[true,true,true,true,true,true,false,false,false,false,false,false,false,false,false,false,false] rfl rfl (f0z HT_.1 HW_.1 (by kernel_rfl)) (fun _ _ _ h => h) (Or.inl ⟨by rfl,?_⟩) hHeld ?_ ?_
    rotate_left
    ·rintro w' ⟨s0,s1⟩
     go_simp
     with_reducible rfl
    rotate_left
    ·simp only [Act.put,sA_,sZ_,sS_,i64_w,i32_w]
     rfl
    refine one_ (i:=6) (N:=some 9) #[true,true,true,true,true,true,true,false,false,false,false,false,false,false,false,false,false] rfl rfl (e8z HT_.1 (by kernel_rfl)) (by decide) (fun K hK => ?_)
    refine goes_ Tryz.func80 (by kernel_rfl) rfl #[.int .i64 a0_1,.int .i64 0,.int .i64 32] (by rfl) rfl rfl (by (try simp only [mA_,mC_,mN_]);first|done|rfl|(simp only [lD_,lT_];rfl)) ?_
    with_reducible refine (impl_in.calls a0_1 0 32 true _ A4.1).mono ?_
    rintro e w' ⟨rfl,⟨nd,rfl⟩⟩
    refine ⟨_,rfl,?_⟩
    refine hK.out _ _ ⟨(b7z BK101.1 0).trans rfl,(b7z BK101.1 1).trans rfl⟩ (fun hHeld => ?_)
    clear hK K
    refine norm_ (a':=?_) ?_ ?_
    rotate_left
    ·show Act.put _ (some 9) _ = _
     simp only [Act.put,sA_,sZ_,sS_,i64_w,i32_w]
     rfl
    refine pure_ (i:=7) (N:=some 10) (v:=?_) (a':=?_) #[true,true,true,true,true,true,true,true,false,false,false,false,false,false,false,false,false] rfl rfl (d1z HT_.1 (by kernel_rfl)) (fun _ _ _ h => h) (Or.inl ⟨by rfl,?_⟩) ?_ ?_
    rotate_left
    ·intro w'
     go_simp
     with_reducible rfl
    rotate_left
    ·simp only [Act.put,sA_,sZ_,sS_,i64_w,i32_w]
     rfl
    refine pure_ (i:=8) (N:=some 11) (v:=?_) (a':=?_) #[true,true,true,true,true,true,true,true,true,false,false,false,false,false,false,false,false] rfl rfl (d1z HT_.1 (by kernel_rfl)) (fun _ _ _ h => h) (Or.inl ⟨by rfl,?_⟩) ?_ ?_
    rotate_left
    ·intro w'
     go_simp
     with_reducible rfl
    rotate_left
    ·simp only [Act.put,sA_,sZ_,sS_,i64_w,i32_w]
     rfl
    refine pure_ (i:=9) (N:=some 12) (v:=?_) (a':=?_) #[true,true,true,true,true,true,true,true,true,true,false,false,false,false,false,false,false] rfl rfl (d1z HT_.1 (by kernel_rfl)) (fun _ _ _ h => h) (Or.inl ⟨by rfl,?_⟩) ?_ ?_
    rotate_left
    ·intro w'
     go_simp
     with_reducible rfl
    rotate_left
    ·simp only [Act.put,sA_,sZ_,sS_,i64_w,i32_w]
     rfl
    refine take_ (i:=10) (N:=some 13) (v:=?_) (a':=?_) #[true,true,true,true,true,true,true,true,true,true,true,false,false,false,false,false,false] rfl rfl (f0z HT_.1 HW_.1 (by kernel_rfl)) (fun _ _ _ h => h) (Or.inl ⟨by rfl,?_⟩) hHeld ?_ ?_
    rotate_left
    ·rintro w' ⟨s0,s1⟩
     go_simp
     with_reducible rfl
    rotate_left
    ·simp only [Act.put,sA_,sZ_,sS_,i64_w,i32_w]
     rfl
    refine take_ (i:=11) (N:=some 14) (v:=?_) (a':=?_) #[true,true,true,true,true,true,true,true,true,true,true,true,false,false,false,false,false] rfl rfl (f0z HT_.1 HW_.1 (by kernel_rfl)) (fun _ _ _ h => h) (Or.inl ⟨by rfl,?_⟩) hHeld ?_ ?_
    rotate_left
    ·rintro w' ⟨s0,s1⟩
     go_simp
     with_reducible rfl
    rotate_left
    ·simp only [Act.put,sA_,sZ_,sS_,i64_w,i32_w]
     rfl
    refine one_ (i:=12) (N:=some 15) #[true,true,true,true,true,true,true,true,true,true,true,true,true,false,false,false,false] rfl rfl (e8z HT_.1 (by kernel_rfl)) (by decide) (fun K hK => ?_)
    refine goes_ Tryz.func85 (by kernel_rfl) rfl #[.agg #[.int .i64 a0_0,.int .i64 a0_1]] (by rfl) rfl rfl (by (try simp only [mA_,mC_,mN_]);first|done|rfl|(simp only [lD_,lT_];rfl)) ?_
    with_reducible refine (impl_Block_size.calls a0_0 a0_1 t104 _ A6.1).mono ?_
    rintro e w10 ⟨rfl,hb⟩
    refine ⟨_,rfl,?_⟩
    have n0_:=a1z.mk (c0z (g:=gb101) (o:=.cells #[.int .i64 a0_0,.int .i64 a0_1] 37 (0,0)) (by (with_reducible repeat (first|refine a8z ?_ _|refine a9z ?_|refine blk_alloc ?_ _));exact BK101.1) hb)
    have n1_:=a1z.mk (b1z (by repeat (first|(with_reducible first|exact HB.1|apply a3z|apply a0z|apply a2z|refine a5z ?_ GE101.1)|exact HB.1)) hb)
    clear BK101 HB
    have BK101:=n0_
    have HB:=n1_
    clear n0_ n1_
    (try clear hb)
    (try clear hb2)
    (try clear hk)
    (try clear hi)
    refine hK.out _ _ ⟨(b7z BK101.1 0).trans rfl,(b7z BK101.1 1).trans rfl⟩ (fun hHeld => ?_)
    clear hK K
    refine norm_ (a':=?_) ?_ ?_
    rotate_left
    ·show Act.put _ (some 15) _ = _
     simp only [Act.put,sA_,sZ_,sS_,i64_w,i32_w]
     rfl
    refine pure_ (i:=13) (N:=some 16) (v:=?_) (a':=?_) #[true,true,true,true,true,true,true,true,true,true,true,true,true,true,false,false,false] rfl rfl (d1z HT_.1 (by kernel_rfl)) (fun _ _ _ h => h) (Or.inl ⟨by rfl,?_⟩) ?_ ?_
    rotate_left
    ·intro w'
     go_simp
     with_reducible rfl
    rotate_left
    ·simp only [Act.put,sA_,sZ_,sS_,i64_w,i32_w]
     rfl
    refine pure_ (i:=14) (N:=some 17) (v:=?_) (a':=?_) #[true,true,true,true,true,true,true,true,true,true,true,true,true,true,true,false,false] rfl rfl (d1z HT_.1 (by kernel_rfl)) (fun _ _ _ h => h) (Or.inl ⟨by rfl,?_⟩) ?_ ?_
    rotate_left
    ·intro w'
     go_simp
     with_reducible rfl
    rotate_left
    ·simp only [Act.put,sA_,sZ_,sS_,i64_w,i32_w]
     rfl
    refine pure_ (i:=15) (N:=some 18) (v:=?_) (a':=?_) #[true,true,true,true,true,true,true,true,true,true,true,true,true,true,true,true,false] rfl rfl (d1z HT_.1 (by kernel_rfl)) (fun _ _ _ h => h) (Or.inl ⟨by rfl,?_⟩) ?_ ?_
    rotate_left
    ·intro w'
     go_simp
     with_reducible rfl
    rotate_left
    ·simp only [Act.put,sA_,sZ_,sS_,i64_w,i32_w]
     rfl
    refine pure_ (i:=16) (N:=some 2) (v:=?_) (a':=?_) #[true,true,true,true,true,true,true,true,true,true,true,true,true,true,true,true,true] rfl rfl (d1z HT_.1 (by kernel_rfl)) (fun _ _ _ h => h) (Or.inl ⟨by rfl,?_⟩) ?_ ?_
    rotate_left
    ·intro w'
     go_simp
     with_reducible rfl
    rotate_left
    ·simp only [Act.put,sA_,sZ_,sS_,i64_w,i32_w]
     rfl
    refine done_ (g8z HT_.1 (by kernel_rfl)) ?_
    try go_wp2
    go_ret
    exact ⟨by first|rfl|(simp [b5z,b4z] <;> rfl)|(simp [*,b5z,b4z] <;> rfl),by repeat (first|(with_reducible first|exact HB.1|apply a3z|apply a0z|apply a2z|refine a5z ?_ GE101.1)|exact HB.1)⟩
  ·replace c5:=Bool.eq_false_iff.mpr c5
   subst c5
   have H1 : (some false) = some r:=by rw [if_neg (show ¬ (false = true) by decide)] at H;exact H
   clear H
   have H:=H1
   clear H1
   obtain rfl:=Option.some.inj H
   go_enter Tryz.func60,Tryz.ntmps60
   try go_wp2_with (first|((with_reducible refine c5z (N:=1) rfl ?_);refine d2z ?hg (N:=1) ?hd (cs:=#[.int .i64 a0_0,.int .i64 a0_1]) (t:=37) ?hr ?_;(case hd => rfl);(case hg => rfl);(case hr => first|(go_simp;done)|(go_simp;rfl));intro gb101 hg w11 hbox hb;have n0_:=a1z.mk (b1z (by repeat (first|(with_reducible first|exact HB.1|apply a3z|apply a0z|apply a2z)|exact HB.1)) hb);have n1_:=a1z.mk (hbox);have n2_:=a1z.mk ((by rw [hg];exact (b8z (by repeat (first|(with_reducible first|exact HB.1|apply a3z|apply a0z|apply a2z)|exact HB.1))) : w.heap.size ≤ gb101));have n3_:=a1z.mk ((by rw [hg];exact (b8z (by repeat (first|(with_reducible first|exact HB.1|apply a3z|apply a0z|apply a2z)|exact HB.1))) : w.heap.size ≤ gb101));clear HB;have HB:=n0_;have BK101:=n1_;have GW101:=n2_;have GE101:=n3_;clear n0_ n1_ n2_ n3_;clear hb hbox hg))
   have n0_:=a1z.mk (a9z BK101.1)
   have n1_:=a1z.mk (a2z HB.1)
   clear BK101 HB
   have BK101:=n0_
   have HB:=n1_
   clear n0_ n1_
   refine h6z (n:=17) (S:=fun w' => w'.cell? ⟨gb101,0,none⟩ = some (.int .i64 a0_0) ∧ w'.cell? ⟨gb101,1,none⟩ = some (.int .i64 a0_1)) (ds:=[]) #[false,false,false,false,false,false,false,false,false,false,false,false,false,false,false,false,false] (by kernel_rfl) rfl rfl ⟨(b7z BK101.1 0).trans rfl,(b7z BK101.1 1).trans rfl⟩ (fun hHeld => ?_);refine g0z impl_BlockOk.tab1 impl_BlockOk.bits1 (fun HT_ HW_ => ?_)
   generalize w11.drew = w12 at BK101 HB hHeld ⊢
   refine pure_ (i:=0) (N:=some 3) (v:=?_) (a':=?_) #[true,false,false,false,false,false,false,false,false,false,false,false,false,false,false,false,false] rfl rfl (d1z HT_.1 (by kernel_rfl)) (fun _ _ _ h => h) (Or.inl ⟨by rfl,?_⟩) ?_ ?_
   rotate_left
   ·intro w'
    go_simp
    with_reducible rfl
   rotate_left
   ·simp only [Act.put,sA_,sZ_,sS_,i64_w,i32_w]
    rfl
   refine take_ (i:=1) (N:=some 4) (v:=?_) (a':=?_) #[true,true,false,false,false,false,false,false,false,false,false,false,false,false,false,false,false] rfl rfl (f0z HT_.1 HW_.1 (by kernel_rfl)) (fun _ _ _ h => h) (Or.inl ⟨by rfl,?_⟩) hHeld ?_ ?_
   rotate_left
   ·rintro w' ⟨s0,s1⟩
    go_simp
    with_reducible rfl
   rotate_left
   ·simp only [Act.put,sA_,sZ_,sS_,i64_w,i32_w]
    rfl
   refine one_ (i:=2) (N:=some 5) #[true,true,true,false,false,false,false,false,false,false,false,false,false,false,false,false,false] rfl rfl (e8z HT_.1 (by kernel_rfl)) (by decide) (fun K hK => ?_)
   refine goes_ Tryz.func84 (by kernel_rfl) rfl #[.int .i64 a0_0] (by rfl) rfl rfl (by (try simp only [mA_,mC_,mN_]);first|done|rfl|(simp only [lD_,lT_];rfl)) ?_
   with_reducible refine (impl_isAddr.calls a0_0 true _ A2.1).mono ?_
   rintro e w' ⟨rfl,⟨nd,rfl⟩⟩
   refine ⟨_,rfl,?_⟩
   refine hK.out _ _ ⟨(b7z BK101.1 0).trans rfl,(b7z BK101.1 1).trans rfl⟩ (fun hHeld => ?_)
   clear hK K
   refine norm_ (a':=?_) ?_ ?_
   rotate_left
   ·show Act.put _ (some 5) _ = _
    simp only [Act.put,sA_,sZ_,sS_,i64_w,i32_w]
    rfl
   refine pure_ (i:=3) (N:=some 6) (v:=?_) (a':=?_) #[true,true,true,true,false,false,false,false,false,false,false,false,false,false,false,false,false] rfl rfl (d1z HT_.1 (by kernel_rfl)) (fun _ _ _ h => h) (Or.inl ⟨by rfl,?_⟩) ?_ ?_
   rotate_left
   ·intro w'
    go_simp
    with_reducible rfl
   rotate_left
   ·simp only [Act.put,sA_,sZ_,sS_,i64_w,i32_w]
    rfl
   refine pure_ (i:=4) (N:=some 7) (v:=?_) (a':=?_) #[true,true,true,true,true,false,false,false,false,false,false,false,false,false,false,false,false] rfl rfl (d1z HT_.1 (by kernel_rfl)) (fun _ _ _ h => h) (Or.inl ⟨by rfl,?_⟩) ?_ ?_
   rotate_left
   ·intro w'
    go_simp
    with_reducible rfl
   rotate_left
   ·simp only [Act.put,sA_,sZ_,sS_,i64_w,i32_w]
    rfl
   refine take_ (i:=5) (N:=some 8) (v:=?_) (a':=?_) #[true,true,true,true,true,true,false,false,false,false,false,false,false,false,false,false,false] rfl rfl (f0z HT_.1 HW_.1 (by kernel_rfl)) (fun _ _ _ h => h) (Or.inl ⟨by rfl,?_⟩) hHeld ?_ ?_
   rotate_left
   ·rintro w' ⟨s0,s1⟩
    go_simp
    with_reducible rfl
   rotate_left
   ·simp only [Act.put,sA_,sZ_,sS_,i64_w,i32_w]
    rfl
   refine one_ (i:=6) (N:=some 9) #[true,true,true,true,true,true,true,false,false,false,false,false,false,false,false,false,false] rfl rfl (e8z HT_.1 (by kernel_rfl)) (by decide) (fun K hK => ?_)
   refine goes_ Tryz.func80 (by kernel_rfl) rfl #[.int .i64 a0_1,.int .i64 0,.int .i64 32] (by rfl) rfl rfl (by (try simp only [mA_,mC_,mN_]);first|done|rfl|(simp only [lD_,lT_];rfl)) ?_
   with_reducible refine (impl_in.calls a0_1 0 32 false _ A4.1).mono ?_
   rintro e w' ⟨rfl,⟨nd,rfl⟩⟩
   refine ⟨_,rfl,?_⟩
   refine hK.out _ _ ⟨(b7z BK101.1 0).trans rfl,(b7z BK101.1 1).trans rfl⟩ (fun hHeld => ?_)
   clear hK K
   refine norm_ (a':=?_) ?_ ?_
   rotate_left
   ·show Act.put _ (some 9) _ = _
    simp only [Act.put,sA_,sZ_,sS_,i64_w,i32_w]
    rfl
   refine pure_ (i:=7) (N:=some 10) (v:=?_) (a':=?_) #[true,true,true,true,true,true,true,true,false,false,false,false,false,false,false,false,false] rfl rfl (d1z HT_.1 (by kernel_rfl)) (fun _ _ _ h => h) (Or.inl ⟨by rfl,?_⟩) ?_ ?_
   rotate_left
   ·intro w'
    go_simp
    with_reducible rfl
   rotate_left
   ·simp only [Act.put,sA_,sZ_,sS_,i64_w,i32_w]
    rfl
   refine pure_ (i:=8) (N:=some 11) (v:=?_) (a':=?_) #[true,true,true,true,true,true,true,true,true,false,false,false,false,false,false,false,false] rfl rfl (d1z HT_.1 (by kernel_rfl)) (fun _ _ _ h => h) (Or.inl ⟨by rfl,?_⟩) ?_ ?_
   rotate_left
   ·intro w'
    go_simp
    with_reducible rfl
   rotate_left
   ·simp only [Act.put,sA_,sZ_,sS_,i64_w,i32_w]
    rfl
   refine pure_ (i:=9) (N:=some 12) (v:=undef) (a':=?_) #[true,true,true,true,true,true,true,true,true,true,false,false,false,false,false,false,false] rfl rfl (d1z HT_.1 (by kernel_rfl)) (fun _ _ _ h => h) (Or.inr ⟨by rfl,rfl⟩) ?_ ?_
   rotate_left
   ·simp only [Act.put,sA_,sZ_,sS_,i64_w,i32_w]
    rfl
   refine pure_ (i:=10) (N:=some 13) (v:=undef) (a':=?_) #[true,true,true,true,true,true,true,true,true,true,true,false,false,false,false,false,false] rfl rfl (d1z HT_.1 (by kernel_rfl)) (fun _ _ _ h => h) (Or.inr ⟨by rfl,rfl⟩) ?_ ?_
   rotate_left
   ·simp only [Act.put,sA_,sZ_,sS_,i64_w,i32_w]
    rfl
   refine pure_ (i:=11) (N:=some 14) (v:=undef) (a':=?_) #[true,true,true,true,true,true,true,true,true,true,true,true,false,false,false,false,false] rfl rfl (d1z HT_.1 (by kernel_rfl)) (fun _ _ _ h => h) (Or.inr ⟨by rfl,rfl⟩) ?_ ?_
   rotate_left
   ·simp only [Act.put,sA_,sZ_,sS_,i64_w,i32_w]
    rfl
   refine pure_ (i:=12) (N:=some 15) (v:=undef) (a':=?_) #[true,true,true,true,true,true,true,true,true,true,true,true,true,false,false,false,false] rfl rfl (d1z HT_.1 (by kernel_rfl)) (fun _ _ _ h => h) (Or.inr ⟨by rfl,rfl⟩) ?_ ?_
   rotate_left
   ·simp only [Act.put,sA_,sZ_,sS_,i64_w,i32_w]
    rfl
   refine pure_ (i:=13) (N:=some 16) (v:=undef) (a':=?_) #[true,true,true,true,true,true,true,true,true,true,true,true,true,true,false,false,false] rfl rfl (d1z HT_.1 (by kernel_rfl)) (fun _ _ _ h => h) (Or.inr ⟨by rfl,rfl⟩) ?_ ?_
   rotate_left
   ·simp only [Act.put,sA_,sZ_,sS_,i64_w,i32_w]
    rfl
   refine pure_ (i:=14) (N:=some 17) (v:=undef) (a':=?_) #[true,true,true,true,true,true,true,true,true,true,true,true,true,true,true,false,false] rfl rfl (d1z HT_.1 (by kernel_rfl)) (fun _ _ _ h => h) (Or.inr ⟨by rfl,rfl⟩) ?_ ?_
   rotate_left
   ·simp only [Act.put,sA_,sZ_,sS_,i64_w,i32_w]
    rfl
   refine pure_ (i:=15) (N:=some 18) (v:=?_) (a':=?_) #[true,true,true,true,true,true,true,true,true,true,true,true,true,true,true,true,false] rfl rfl (d1z HT_.1 (by kernel_rfl)) (fun _ _ _ h => h) (Or.inl ⟨by rfl,?_⟩) ?_ ?_
   rotate_left
   ·intro w'
    go_simp
    with_reducible rfl
   rotate_left
   ·simp only [Act.put,sA_,sZ_,sS_,i64_w,i32_w]
    rfl
   refine pure_ (i:=16) (N:=some 2) (v:=?_) (a':=?_) #[true,true,true,true,true,true,true,true,true,true,true,true,true,true,true,true,true] rfl rfl (d1z HT_.1 (by kernel_rfl)) (fun _ _ _ h => h) (Or.inl ⟨by rfl,?_⟩) ?_ ?_
   rotate_left
   ·intro w'
    go_simp
    with_reducible rfl
   rotate_left
   ·simp only [Act.put,sA_,sZ_,sS_,i64_w,i32_w]
    rfl
   refine done_ (g8z HT_.1 (by kernel_rfl)) ?_
   try go_wp2
   go_ret
   exact ⟨by first|rfl|(simp [b5z,b4z] <;> rfl)|(simp [*,b5z,b4z] <;> rfl),by repeat (first|(with_reducible first|exact HB.1|apply a3z|apply a0z|apply a2z|refine a5z ?_ GE101.1)|exact HB.1)⟩
 ·replace c3:=Bool.eq_false_iff.mpr c3
  subst c3
  have H1 : (some false) = some r:=by rw [if_neg (show ¬ (false = true) by decide)] at H;exact H
  clear H
  have H:=H1
  clear H1
  obtain rfl:=Option.some.inj H
  go_enter Tryz.func60,Tryz.ntmps60
  try go_wp2_with (first|((with_reducible refine c5z (N:=1) rfl ?_);refine d2z ?hg (N:=1) ?hd (cs:=#[.int .i64 a0_0,.int .i64 a0_1]) (t:=37) ?hr ?_;(case hd => rfl);(case hg => rfl);(case hr => first|(go_simp;done)|(go_simp;rfl));intro gb101 hg w13 hbox hb;have n0_:=a1z.mk (b1z (by repeat (first|(with_reducible first|exact HB.1|apply a3z|apply a0z|apply a2z)|exact HB.1)) hb);have n1_:=a1z.mk (hbox);have n2_:=a1z.mk ((by rw [hg];exact (b8z (by repeat (first|(with_reducible first|exact HB.1|apply a3z|apply a0z|apply a2z)|exact HB.1))) : w.heap.size ≤ gb101));have n3_:=a1z.mk ((by rw [hg];exact (b8z (by repeat (first|(with_reducible first|exact HB.1|apply a3z|apply a0z|apply a2z)|exact HB.1))) : w.heap.size ≤ gb101));clear HB;have HB:=n0_;have BK101:=n1_;have GW101:=n2_;have GE101:=n3_;clear n0_ n1_ n2_ n3_;clear hb hbox hg))
  have n0_:=a1z.mk (a9z BK101.1)
  have n1_:=a1z.mk (a2z HB.1)
  clear BK101 HB
  have BK101:=n0_
  have HB:=n1_
  clear n0_ n1_
  refine h6z (n:=17) (S:=fun w' => w'.cell? ⟨gb101,0,none⟩ = some (.int .i64 a0_0) ∧ w'.cell? ⟨gb101,1,none⟩ = some (.int .i64 a0_1)) (ds:=[]) #[false,false,false,false,false,false,false,false,false,false,false,false,false,false,false,false,false] (by kernel_rfl) rfl rfl ⟨(b7z BK101.1 0).trans rfl,(b7z BK101.1 1).trans rfl⟩ (fun hHeld => ?_);refine g0z impl_BlockOk.tab1 impl_BlockOk.bits1 (fun HT_ HW_ => ?_)
  generalize w13.drew = w14 at BK101 HB hHeld ⊢
  refine pure_ (i:=0) (N:=some 3) (v:=?_) (a':=?_) #[true,false,false,false,false,false,false,false,false,false,false,false,false,false,false,false,false] rfl rfl (d1z HT_.1 (by kernel_rfl)) (fun _ _ _ h => h) (Or.inl ⟨by rfl,?_⟩) ?_ ?_
  rotate_left
  ·intro w'
   go_simp
   with_reducible rfl
  rotate_left
  ·simp only [Act.put,sA_,sZ_,sS_,i64_w,i32_w]
   rfl
  refine take_ (i:=1) (N:=some 4) (v:=?_) (a':=?_) #[true,true,false,false,false,false,false,false,false,false,false,false,false,false,false,false,false] rfl rfl (f0z HT_.1 HW_.1 (by kernel_rfl)) (fun _ _ _ h => h) (Or.inl ⟨by rfl,?_⟩) hHeld ?_ ?_
  rotate_left
  ·rintro w' ⟨s0,s1⟩
   go_simp
   with_reducible rfl
  rotate_left
  ·simp only [Act.put,sA_,sZ_,sS_,i64_w,i32_w]
   rfl
  refine one_ (i:=2) (N:=some 5) #[true,true,true,false,false,false,false,false,false,false,false,false,false,false,false,false,false] rfl rfl (e8z HT_.1 (by kernel_rfl)) (by decide) (fun K hK => ?_)
  refine goes_ Tryz.func84 (by kernel_rfl) rfl #[.int .i64 a0_0] (by rfl) rfl rfl (by (try simp only [mA_,mC_,mN_]);first|done|rfl|(simp only [lD_,lT_];rfl)) ?_
  with_reducible refine (impl_isAddr.calls a0_0 false _ A2.1).mono ?_
  rintro e w' ⟨rfl,⟨nd,rfl⟩⟩
  refine ⟨_,rfl,?_⟩
  refine hK.out _ _ ⟨(b7z BK101.1 0).trans rfl,(b7z BK101.1 1).trans rfl⟩ (fun hHeld => ?_)
  clear hK K
  refine norm_ (a':=?_) ?_ ?_
  rotate_left
  ·show Act.put _ (some 5) _ = _
   simp only [Act.put,sA_,sZ_,sS_,i64_w,i32_w]
   rfl
  refine pure_ (i:=3) (N:=some 6) (v:=?_) (a':=?_) #[true,true,true,true,false,false,false,false,false,false,false,false,false,false,false,false,false] rfl rfl (d1z HT_.1 (by kernel_rfl)) (fun _ _ _ h => h) (Or.inl ⟨by rfl,?_⟩) ?_ ?_
  rotate_left
  ·intro w'
   go_simp
   with_reducible rfl
  rotate_left
  ·simp only [Act.put,sA_,sZ_,sS_,i64_w,i32_w]
   rfl
  refine pure_ (i:=4) (N:=some 7) (v:=undef) (a':=?_) #[true,true,true,true,true,false,false,false,false,false,false,false,false,false,false,false,false] rfl rfl (d1z HT_.1 (by kernel_rfl)) (fun _ _ _ h => h) (Or.inr ⟨by rfl,rfl⟩) ?_ ?_
  rotate_left
  ·simp only [Act.put,sA_,sZ_,sS_,i64_w,i32_w]
   rfl
  refine pure_ (i:=5) (N:=some 8) (v:=undef) (a':=?_) #[true,true,true,true,true,true,false,false,false,false,false,false,false,false,false,false,false] rfl rfl (d1z HT_.1 (by kernel_rfl)) (fun _ _ _ h => h) (Or.inr ⟨by rfl,rfl⟩) ?_ ?_
  rotate_left
  ·simp only [Act.put,sA_,sZ_,sS_,i64_w,i32_w]
   rfl
  refine pure_ (i:=6) (N:=some 9) (v:=undef) (a':=?_) #[true,true,true,true,true,true,true,false,false,false,false,false,false,false,false,false,false] rfl rfl (d1z HT_.1 (by kernel_rfl)) (fun _ _ _ h => h) (Or.inr ⟨by rfl,rfl⟩) ?_ ?_
  rotate_left
  ·simp only [Act.put,sA_,sZ_,sS_,i64_w,i32_w]
   rfl
  refine pure_ (i:=7) (N:=some 10) (v:=?_) (a':=?_) #[true,true,true,true,true,true,true,true,false,false,false,false,false,false,false,false,false] rfl rfl (d1z HT_.1 (by kernel_rfl)) (fun _ _ _ h => h) (Or.inl ⟨by rfl,?_⟩) ?_ ?_
  rotate_left
  ·intro w'
   go_simp
   with_reducible rfl
  rotate_left
  ·simp only [Act.put,sA_,sZ_,sS_,i64_w,i32_w]
   rfl
  refine pure_ (i:=8) (N:=some 11) (v:=?_) (a':=?_) #[true,true,true,true,true,true,true,true,true,false,false,false,false,false,false,false,false] rfl rfl (d1z HT_.1 (by kernel_rfl)) (fun _ _ _ h => h) (Or.inl ⟨by rfl,?_⟩) ?_ ?_
  rotate_left
  ·intro w'
   go_simp
   with_reducible rfl
  rotate_left
  ·simp only [Act.put,sA_,sZ_,sS_,i64_w,i32_w]
   rfl
  refine pure_ (i:=9) (N:=some 12) (v:=undef) (a':=?_) #[true,true,true,true,true,true,true,true,true,true,false,false,false,false,false,false,false] rfl rfl (d1z HT_.1 (by kernel_rfl)) (fun _ _ _ h => h) (Or.inr ⟨by rfl,rfl⟩) ?_ ?_
  rotate_left
  ·simp only [Act.put,sA_,sZ_,sS_,i64_w,i32_w]
   rfl
  refine pure_ (i:=10) (N:=some 13) (v:=undef) (a':=?_) #[true,true,true,true,true,true,true,true,true,true,true,false,false,false,false,false,false] rfl rfl (d1z HT_.1 (by kernel_rfl)) (fun _ _ _ h => h) (Or.inr ⟨by rfl,rfl⟩) ?_ ?_
  rotate_left
  ·simp only [Act.put,sA_,sZ_,sS_,i64_w,i32_w]
   rfl
  refine pure_ (i:=11) (N:=some 14) (v:=undef) (a':=?_) #[true,true,true,true,true,true,true,true,true,true,true,true,false,false,false,false,false] rfl rfl (d1z HT_.1 (by kernel_rfl)) (fun _ _ _ h => h) (Or.inr ⟨by rfl,rfl⟩) ?_ ?_
  rotate_left
  ·simp only [Act.put,sA_,sZ_,sS_,i64_w,i32_w]
   rfl
  refine pure_ (i:=12) (N:=some 15) (v:=undef) (a':=?_) #[true,true,true,true,true,true,true,true,true,true,true,true,true,false,false,false,false] rfl rfl (d1z HT_.1 (by kernel_rfl)) (fun _ _ _ h => h) (Or.inr ⟨by rfl,rfl⟩) ?_ ?_
  rotate_left
  ·simp only [Act.put,sA_,sZ_,sS_,i64_w,i32_w]
   rfl
  refine pure_ (i:=13) (N:=some 16) (v:=undef) (a':=?_) #[true,true,true,true,true,true,true,true,true,true,true,true,true,true,false,false,false] rfl rfl (d1z HT_.1 (by kernel_rfl)) (fun _ _ _ h => h) (Or.inr ⟨by rfl,rfl⟩) ?_ ?_
  rotate_left
  ·simp only [Act.put,sA_,sZ_,sS_,i64_w,i32_w]
   rfl
  refine pure_ (i:=14) (N:=some 17) (v:=undef) (a':=?_) #[true,true,true,true,true,true,true,true,true,true,true,true,true,true,true,false,false] rfl rfl (d1z HT_.1 (by kernel_rfl)) (fun _ _ _ h => h) (Or.inr ⟨by rfl,rfl⟩) ?_ ?_
  rotate_left
  ·simp only [Act.put,sA_,sZ_,sS_,i64_w,i32_w]
   rfl
  refine pure_ (i:=15) (N:=some 18) (v:=?_) (a':=?_) #[true,true,true,true,true,true,true,true,true,true,true,true,true,true,true,true,false] rfl rfl (d1z HT_.1 (by kernel_rfl)) (fun _ _ _ h => h) (Or.inl ⟨by rfl,?_⟩) ?_ ?_
  rotate_left
  ·intro w'
   go_simp
   with_reducible rfl
  rotate_left
  ·simp only [Act.put,sA_,sZ_,sS_,i64_w,i32_w]
   rfl
  refine pure_ (i:=16) (N:=some 2) (v:=?_) (a':=?_) #[true,true,true,true,true,true,true,true,true,true,true,true,true,true,true,true,true] rfl rfl (d1z HT_.1 (by kernel_rfl)) (fun _ _ _ h => h) (Or.inl ⟨by rfl,?_⟩) ?_ ?_
  rotate_left
  ·intro w'
   go_simp
   with_reducible rfl
  rotate_left
  ·simp only [Act.put,sA_,sZ_,sS_,i64_w,i32_w]
   rfl
  refine done_ (g8z HT_.1 (by kernel_rfl)) ?_
  try go_wp2
  go_ret
  exact ⟨by first|rfl|(simp [b5z,b4z] <;> rfl)|(simp [*,b5z,b4z] <;> rfl),by repeat (first|(with_reducible first|exact HB.1|apply a3z|apply a0z|apply a2z|refine a5z ?_ GE101.1)|exact HB.1)⟩
def impl_BlockText.f (k : Nat) (a0_0 : Int) (a0_1 : Int) : Option (ByteArray):=(impl_BlockOk.f a0_0 a0_1).bind fun t102 => (if t102 = true then ((impl_AddrText.f k a0_0).bind fun t103 => (if t103.size + 1 ≤ 9223372036854775807 then ((strconv_Itoa.f a0_1).bind fun t104 => (if (t103 ++ (⟨#[47]⟩ : ByteArray)).size + t104.size ≤ 9223372036854775807 then (some ((t103 ++ (⟨#[47]⟩ : ByteArray)) ++ t104)) else (none))) else (none))) else (some (⟨#[]⟩ : ByteArray)))
def impl_BlockText.T3 : Bool × List (List Nat × List Nat):=(true,[([],[]),([0],[0]),([1],[1]),([2],[2]),([],[]),([4],[4]),([5,2],[5]),([3,6],[3,6]),([7,6,0,1,2,3,4,5,6,7],[7])])
def impl_BlockText.B3 : List Nat:=[0,1,3,7,0,16,55,127,255]
theorem impl_BlockText.tab3 : rtab .any (opsOf Tryz.f31 3) = impl_BlockText.T3:=by kernel_rfl
theorem impl_BlockText.bits3 : waitsOk impl_BlockText.T3.2 impl_BlockText.B3 = true:=by kernel_rfl
set_option maxHeartbeats 8000000 in
set_option maxRecDepth 100000 in
theorem impl_BlockText.calls (k : Nat) (a0_0 : Int) (a0_1 : Int) (r : ByteArray) (w : World) (hT : Tb.T1 w) (h : impl_BlockText.f k a0_0 a0_1 = some r) :
  Calls Tryz.prog 31 #[.agg #[.int .i64 a0_0,.int .i64 a0_1]] w fun e w' => e = .returned (.string r) ∧ Below w.heap.size w w':=by
 have hu37:=Tryz.underlying37
 have HT:=a1z.mk hT
 clear hT
 have HB:=a1z.mk (Below.refl w.heap.size w)
 have H : ((impl_BlockOk.f a0_0 a0_1).bind fun t102 => (if t102 = true then ((impl_AddrText.f k a0_0).bind fun t103 => (if t103.size + 1 ≤ 9223372036854775807 then ((strconv_Itoa.f a0_1).bind fun t104 => (if (t103 ++ (⟨#[47]⟩ : ByteArray)).size + t104.size ≤ 9223372036854775807 then (some ((t103 ++ (⟨#[47]⟩ : ByteArray)) ++ t104)) else (none))) else (none))) else (some (⟨#[]⟩ : ByteArray)))) = some r:=h
 clear h
 replace H:=Option.bind_eq_some_iff.mp H
 obtain ⟨t102,A20,H⟩:=H
 replace H : (if t102 = true then ((impl_AddrText.f k a0_0).bind fun t103 => (if t103.size + 1 ≤ 9223372036854775807 then ((strconv_Itoa.f a0_1).bind fun t104 => (if (t103 ++ (⟨#[47]⟩ : ByteArray)).size + t104.size ≤ 9223372036854775807 then (some ((t103 ++ (⟨#[47]⟩ : ByteArray)) ++ t104)) else (none))) else (none))) else (some (⟨#[]⟩ : ByteArray))) = some r:=H
 have A2:=a1z.mk A20
 clear A20
 by_cases c3 : t102 = true
 ·subst c3
  have H1 : ((impl_AddrText.f k a0_0).bind fun t103 => (if t103.size + 1 ≤ 9223372036854775807 then ((strconv_Itoa.f a0_1).bind fun t104 => (if (t103 ++ (⟨#[47]⟩ : ByteArray)).size + t104.size ≤ 9223372036854775807 then (some ((t103 ++ (⟨#[47]⟩ : ByteArray)) ++ t104)) else (none))) else (none))) = some r:=by rw [if_pos rfl] at H;exact H
  clear H
  have H:=H1
  clear H1
  replace H:=Option.bind_eq_some_iff.mp H
  obtain ⟨t103,A40,H⟩:=H
  replace H : (if t103.size + 1 ≤ 9223372036854775807 then ((strconv_Itoa.f a0_1).bind fun t104 => (if (t103 ++ (⟨#[47]⟩ : ByteArray)).size + t104.size ≤ 9223372036854775807 then (some ((t103 ++ (⟨#[47]⟩ : ByteArray)) ++ t104)) else (none))) else (none)) = some r:=H
  have A4:=a1z.mk A40
  clear A40
  by_cases c5 : t103.size + 1 ≤ 9223372036854775807
  ·rw [if_pos c5] at H
   have c5b0:=eq_true c5
   have c5b1 : decide (t103.size + 1 ≤ 9223372036854775807) = true:=decide_eq_true c5
   (try (have c5b3 : (9223372036854775807 < t103.size + 1) = False:=eq_false (Nat.not_lt.2 c5);simp only [ByteArray.size_append] at c5b3))
   (try (have c5b4 : (9223372036854775807 < t103.size + 1) = False:=by (have h_:=eq_false (Nat.not_lt.2 c5);simp only [ByteArray.size_append] at h_;exact h_)))
   try have c5b2 : (9223372036854775807 < t103.size + 1) = False:=eq_false (Nat.not_lt.2 c5)
   replace H:=Option.bind_eq_some_iff.mp H
   obtain ⟨t104,A60,H⟩:=H
   replace H : (if (t103 ++ (⟨#[47]⟩ : ByteArray)).size + t104.size ≤ 9223372036854775807 then (some ((t103 ++ (⟨#[47]⟩ : ByteArray)) ++ t104)) else (none)) = some r:=H
   have A6:=a1z.mk A60
   clear A60
   by_cases c7 : (t103 ++ (⟨#[47]⟩ : ByteArray)).size + t104.size ≤ 9223372036854775807
   ·rw [if_pos c7] at H
    have c7b0:=eq_true c7
    have c7b1 : decide ((t103 ++ (⟨#[47]⟩ : ByteArray)).size + t104.size ≤ 9223372036854775807) = true:=decide_eq_true c7
    (try (have c7b3 : (9223372036854775807 < (t103 ++ (⟨#[47]⟩ : ByteArray)).size + t104.size) = False:=eq_false (Nat.not_lt.2 c7);simp only [ByteArray.size_append] at c7b3))
    (try (have c7b4 : (9223372036854775807 < t103.size + 1 + t104.size) = False:=by (have h_:=eq_false (Nat.not_lt.2 c7);simp only [ByteArray.size_append] at h_;exact h_)))
    try have c7b2 : (9223372036854775807 < (t103 ++ (⟨#[47]⟩ : ByteArray)).size + t104.size) = False:=eq_false (Nat.not_lt.2 c7)
    obtain rfl:=Option.some.inj H
    go_enter Tryz.func31,Tryz.ntmps31
    try go_wp2_with (first|((with_reducible refine c5z (N:=1) rfl ?_);refine d2z ?hg (N:=1) ?hd (cs:=#[.int .i64 a0_0,.int .i64 a0_1]) (t:=37) ?hr ?_;(case hd => rfl);(case hg => rfl);(case hr => first|(go_simp;done)|(go_simp;rfl));intro gb101 hg w8 hbox hb;have n0_:=a1z.mk (b1z (by repeat (first|(with_reducible first|exact HB.1|apply a3z|apply a0z|apply a2z)|exact HB.1)) hb);have n1_:=a1z.mk (hbox);have n2_:=a1z.mk ((by rw [hg];exact (b8z (by repeat (first|(with_reducible first|exact HB.1|apply a3z|apply a0z|apply a2z)|exact HB.1))) : w.heap.size ≤ gb101));have n3_:=a1z.mk ((by rw [hg];exact (b8z (by repeat (first|(with_reducible first|exact HB.1|apply a3z|apply a0z|apply a2z)|exact HB.1))) : w.heap.size ≤ gb101));clear HB;have HB:=n0_;have BK101:=n1_;have GW101:=n2_;have GE101:=n3_;clear n0_ n1_ n2_ n3_;clear hb hbox hg;have hcz9_0:=c20_ BK101.1;have hcz9_1:=c21_ BK101.1;have hfz9_0:=a4z BK101.1 0;have hfz9_1:=a4z BK101.1 1)|((with_reducible refine b2z (f:=60) rfl ?_);refine c1z (some 4) rfl rfl Tryz.func60 (by kernel_rfl) rfl #[.agg #[.int .i64 a0_0,.int .i64 a0_1]] rfl (by (try simp only [mA_,mC_,mN_]);first|done|rfl|(simp only [lD_,lT_];rfl)) ?_;(with_reducible refine (impl_BlockOk.calls a0_0 a0_1 true _ A2.1).mono ?_);rintro e w10 ⟨rfl,hb⟩;refine ⟨_,rfl,?_⟩;have n0_:=a1z.mk (c0z (g:=gb101) (o:=.cells #[.int .i64 a0_0,.int .i64 a0_1] 37 (0,0)) (by (with_reducible repeat (first|refine a8z ?_ _|refine a9z ?_|refine blk_alloc ?_ _));exact BK101.1) hb);have n1_:=a1z.mk (b1z (by repeat (first|(with_reducible first|exact HB.1|apply a3z|apply a0z|apply a2z|refine a5z ?_ GE101.1)|exact HB.1)) hb);clear BK101 HB;have BK101:=n0_;have HB:=n1_;clear n0_ n1_;(try clear hb)))
    have n0_:=a1z.mk (a9z BK101.1)
    have n1_:=a1z.mk (a2z HB.1)
    clear BK101 HB
    have BK101:=n0_
    have HB:=n1_
    clear n0_ n1_
    refine h6z (n:=9) (S:=fun w' => w'.cell? ⟨gb101,0,none⟩ = some (.int .i64 a0_0) ∧ w'.cell? ⟨gb101,1,none⟩ = some (.int .i64 a0_1)) (ds:=[]) #[false,false,false,false,false,false,false,false,false] (by kernel_rfl) rfl rfl ⟨(b7z BK101.1 0).trans rfl,(b7z BK101.1 1).trans rfl⟩ (fun hHeld => ?_);refine g0z impl_BlockText.tab3 impl_BlockText.bits3 (fun HT_ HW_ => ?_)
    generalize w10.drew = w11 at BK101 HB hHeld ⊢
    refine pure_ (i:=0) (N:=some 6) (v:=?_) (a':=?_) #[true,false,false,false,false,false,false,false,false] rfl rfl (d1z HT_.1 (by kernel_rfl)) (fun _ _ _ h => h) (Or.inl ⟨by rfl,?_⟩) ?_ ?_
    rotate_left
    ·intro w'
     go_simp
     with_reducible rfl
    rotate_left
    ·simp only [Act.put,sA_,sZ_,sS_,i64_w,i32_w]
     rfl
    refine pure_ (i:=4) (N:=some 10) (v:=?_) (a':=?_) #[true,false,false,false,true,false,false,false,false] rfl rfl (d1z HT_.1 (by kernel_rfl)) (fun _ _ _ h => h) (Or.inl ⟨by rfl,?_⟩) ?_ ?_
    rotate_left
    ·intro w'
     go_simp
     with_reducible rfl
    rotate_left
    ·simp only [Act.put,sA_,sZ_,sS_,i64_w,i32_w]
     rfl
    refine take_ (i:=1) (N:=some 7) (v:=?_) (a':=?_) #[true,true,false,false,true,false,false,false,false] rfl rfl (f0z HT_.1 HW_.1 (by kernel_rfl)) (fun _ _ _ h => h) (Or.inl ⟨by rfl,?_⟩) hHeld ?_ ?_
    rotate_left
    ·rintro w' ⟨s0,s1⟩
     go_simp
     with_reducible rfl
    rotate_left
    ·simp only [Act.put,sA_,sZ_,sS_,i64_w,i32_w]
     rfl
    refine take_ (i:=5) (N:=some 11) (v:=?_) (a':=?_) #[true,true,false,false,true,true,false,false,false] rfl rfl (f0z HT_.1 HW_.1 (by kernel_rfl)) (fun _ _ _ h => h) (Or.inl ⟨by rfl,?_⟩) hHeld ?_ ?_
    rotate_left
    ·rintro w' ⟨s0,s1⟩
     go_simp
     with_reducible rfl
    rotate_left
    ·simp only [Act.put,sA_,sZ_,sS_,i64_w,i32_w]
     rfl
    refine one_ (i:=2) (N:=some 8) #[true,true,true,false,true,true,false,false,false] rfl rfl (e8z HT_.1 (by kernel_rfl)) (by decide) (fun K hK => ?_)
    refine goes_ Tryz.func61 (by kernel_rfl) rfl #[.int .i64 a0_0] (by rfl) rfl rfl (by (try simp only [mA_,mC_,mN_]);first|done|rfl|(simp only [lD_,lT_];rfl)) ?_
    with_reducible refine (impl_AddrText.calls k a0_0 t103 _ ?side1 A4.1).mono ?_
    (case side1 => exact (Tb.T1.below HT.out (by repeat (first|(with_reducible first|exact HB.1|apply a3z|apply a0z|apply a2z|refine a5z ?_ GE101.1)|exact HB.1))))
    rintro e w12 ⟨rfl,hb⟩
    refine ⟨_,rfl,?_⟩
    have n0_:=a1z.mk (c0z (g:=gb101) (o:=.cells #[.int .i64 a0_0,.int .i64 a0_1] 37 (0,0)) (by (with_reducible repeat (first|refine a8z ?_ _|refine a9z ?_|refine blk_alloc ?_ _));exact BK101.1) hb)
    have n1_:=a1z.mk (b1z (by repeat (first|(with_reducible first|exact HB.1|apply a3z|apply a0z|apply a2z|refine a5z ?_ GE101.1)|exact HB.1)) hb)
    clear BK101 HB
    have BK101:=n0_
    have HB:=n1_
    clear n0_ n1_
    (try clear hb)
    (try clear hb2)
    (try clear hk)
    (try clear hi)
    refine hK.out _ _ ⟨(b7z BK101.1 0).trans rfl,(b7z BK101.1 1).trans rfl⟩ (fun hHeld => ?_)
    clear hK K
    refine norm_ (a':=?_) ?_ ?_
    rotate_left
    ·show Act.put _ (some 8) _ = _
     simp only [Act.put,sA_,sZ_,sS_,i64_w,i32_w]
     rfl
    refine pure_ (i:=3) (N:=some 9) (v:=?_) (a':=?_) #[true,true,true,true,true,true,false,false,false] rfl rfl (d1z HT_.1 (by kernel_rfl)) (fun _ _ _ h => h) (Or.inl ⟨by rfl,?_⟩) ?_ ?_
    rotate_left
    ·intro w'
     go_simp
     with_reducible rfl
    rotate_left
    ·simp only [Act.put,sA_,sZ_,sS_,i64_w,i32_w]
     rfl
    refine one_ (i:=6) (N:=some 12) #[true,true,true,true,true,true,true,false,false] rfl rfl (e8z HT_.1 (by kernel_rfl)) (by decide) (fun K hK => ?_)
    refine goes_ Tryz.func27 (by kernel_rfl) rfl #[.int .i64 a0_1] (by rfl) rfl rfl (by (try simp only [mA_,mC_,mN_]);first|done|rfl|(simp only [lD_,lT_];rfl)) ?_
    with_reducible refine (strconv_Itoa.calls a0_1 t104 _ ?side1 A6.1).mono ?_
    (case side1 => exact (Tb.T1.below HT.out (by repeat (first|(with_reducible first|exact HB.1|apply a3z|apply a0z|apply a2z|refine a5z ?_ GE101.1)|exact HB.1))))
    rintro e w13 ⟨rfl,hb⟩
    refine ⟨_,rfl,?_⟩
    have n0_:=a1z.mk (c0z (g:=gb101) (o:=.cells #[.int .i64 a0_0,.int .i64 a0_1] 37 (0,0)) (by (with_reducible repeat (first|refine a8z ?_ _|refine a9z ?_|refine blk_alloc ?_ _));exact BK101.1) hb)
    have n1_:=a1z.mk (b1z (by repeat (first|(with_reducible first|exact HB.1|apply a3z|apply a0z|apply a2z|refine a5z ?_ GE101.1)|exact HB.1)) hb)
    clear BK101 HB
    have BK101:=n0_
    have HB:=n1_
    clear n0_ n1_
    (try clear hb)
    (try clear hb2)
    (try clear hk)
    (try clear hi)
    refine hK.out _ _ ⟨(b7z BK101.1 0).trans rfl,(b7z BK101.1 1).trans rfl⟩ (fun hHeld => ?_)
    clear hK K
    refine norm_ (a':=?_) ?_ ?_
    rotate_left
    ·show Act.put _ (some 12) _ = _
     simp only [Act.put,sA_,sZ_,sS_,i64_w,i32_w]
     rfl
    refine pure_ (i:=7) (N:=some 13) (v:=?_) (a':=?_) #[true,true,true,true,true,true,true,true,false] rfl rfl (d1z HT_.1 (by kernel_rfl)) (fun _ _ _ h => h) (Or.inl ⟨by rfl,?_⟩) ?_ ?_
    rotate_left
    ·intro w'
     go_simp
     with_reducible rfl
    rotate_left
    ·simp only [Act.put,sA_,sZ_,sS_,i64_w,i32_w]
     rfl
    refine pure_ (i:=8) (N:=some 2) (v:=?_) (a':=?_) #[true,true,true,true,true,true,true,true,true] rfl rfl (d1z HT_.1 (by kernel_rfl)) (fun _ _ _ h => h) (Or.inl ⟨by rfl,?_⟩) ?_ ?_
    rotate_left
    ·intro w'
     go_simp
     with_reducible rfl
    rotate_left
    ·simp only [Act.put,sA_,sZ_,sS_,i64_w,i32_w]
     rfl
    refine done_ (g8z HT_.1 (by kernel_rfl)) ?_
    try go_wp2
    go_ret
    exact ⟨by first|rfl|(simp [b5z,b4z] <;> rfl)|(simp [*,b5z,b4z] <;> rfl),by repeat (first|(with_reducible first|exact HB.1|apply a3z|apply a0z|apply a2z|refine a5z ?_ GE101.1)|exact HB.1)⟩
   ·rw [if_neg c7] at H
    exact absurd H (by simp)
  ·rw [if_neg c5] at H
   exact absurd H (by simp)
 ·replace c3:=Bool.eq_false_iff.mpr c3
  subst c3
  have H1 : (some (⟨#[]⟩ : ByteArray)) = some r:=by rw [if_neg (show ¬ (false = true) by decide)] at H;exact H
  clear H
  have H:=H1
  clear H1
  obtain rfl:=Option.some.inj H
  go_enter Tryz.func31,Tryz.ntmps31
  go_wp2_with (first|((with_reducible refine c5z (N:=1) rfl ?_);refine d2z ?hg (N:=1) ?hd (cs:=#[.int .i64 a0_0,.int .i64 a0_1]) (t:=37) ?hr ?_;(case hd => rfl);(case hg => rfl);(case hr => first|(go_simp;done)|(go_simp;rfl));intro gb101 hg w14 hbox hb;have n0_:=a1z.mk (b1z (by repeat (first|(with_reducible first|exact HB.1|apply a3z|apply a0z|apply a2z)|exact HB.1)) hb);have n1_:=a1z.mk (hbox);have n2_:=a1z.mk ((by rw [hg];exact (b8z (by repeat (first|(with_reducible first|exact HB.1|apply a3z|apply a0z|apply a2z)|exact HB.1))) : w.heap.size ≤ gb101));have n3_:=a1z.mk ((by rw [hg];exact (b8z (by repeat (first|(with_reducible first|exact HB.1|apply a3z|apply a0z|apply a2z)|exact HB.1))) : w.heap.size ≤ gb101));clear HB;have HB:=n0_;have BK101:=n1_;have GW101:=n2_;have GE101:=n3_;clear n0_ n1_ n2_ n3_;clear hb hbox hg;have hcz15_0:=c20_ BK101.1;have hcz15_1:=c21_ BK101.1;have hfz15_0:=a4z BK101.1 0;have hfz15_1:=a4z BK101.1 1)|((with_reducible refine b2z (f:=60) rfl ?_);refine c1z (some 4) rfl rfl Tryz.func60 (by kernel_rfl) rfl #[.agg #[.int .i64 a0_0,.int .i64 a0_1]] rfl (by (try simp only [mA_,mC_,mN_]);first|done|rfl|(simp only [lD_,lT_];rfl)) ?_;(with_reducible refine (impl_BlockOk.calls a0_0 a0_1 false _ A2.1).mono ?_);rintro e w16 ⟨rfl,hb⟩;refine ⟨_,rfl,?_⟩;have n0_:=a1z.mk (c0z (g:=gb101) (o:=.cells #[.int .i64 a0_0,.int .i64 a0_1] 37 (0,0)) (by (with_reducible repeat (first|refine a8z ?_ _|refine a9z ?_|refine blk_alloc ?_ _));exact BK101.1) hb);have n1_:=a1z.mk (b1z (by repeat (first|(with_reducible first|exact HB.1|apply a3z|apply a0z|apply a2z|refine a5z ?_ GE101.1)|exact HB.1)) hb);clear BK101 HB;have BK101:=n0_;have HB:=n1_;clear n0_ n1_;(try clear hb)))
  go_ret
  exact ⟨by first|rfl|(simp [b5z,b4z] <;> rfl)|(simp [*,b5z,b4z] <;> rfl),by repeat (first|(with_reducible first|exact HB.1|apply a3z|apply a0z|apply a2z|refine a5z ?_ GE101.1)|exact HB.1)⟩
def impl_Rule_right.j0 : Nat → Bool → Int → Int → Int → Int → Int → Int → Int → Int → Option (Bool)
 | 0,_,_,_,_,_,_,_,_,_ => none
 | k + 1,x3,x102000,x102001,x102002,x102003,x102004,x102005,x102006,x102007 => (impl_BlockOk.f x102002 x102003).bind fun t103 => (if t103 = true then ((impl_BlockOk.f x102004 x102005).bind fun t104 => (if t104 = true then ((impl_in.f x102006 0 x102007).bind fun t105 => (if t105 = true then (if x102007 ≤ 65535 then ((impl_in.f x102000 0 2).bind fun t106 => (if t106 = true then (some x3) else (some false))) else (some false)) else (some false))) else (some false))) else (some false))
def impl_Rule_right.f (k : Nat) (a0_0 : Int) (a0_1 : Int) (a0_2 : Int) (a0_3 : Int) (a0_4 : Int) (a0_5 : Int) (a0_6 : Int) (a0_7 : Int) : Option (Bool):=if a0_1 = 0 then (impl_Rule_right.j0 k true a0_0 a0_1 a0_2 a0_3 a0_4 a0_5 a0_6 a0_7) else (if a0_0 = 2 then ((impl_in.f a0_1 0 3).bind fun t102 => (impl_Rule_right.j0 k t102 a0_0 a0_1 a0_2 a0_3 a0_4 a0_5 a0_6 a0_7)) else (impl_Rule_right.j0 k false a0_0 a0_1 a0_2 a0_3 a0_4 a0_5 a0_6 a0_7))
set_option maxHeartbeats 8000000 in
set_option maxRecDepth 100000 in
theorem impl_Rule_right.calls (k : Nat) (a0_0 : Int) (a0_1 : Int) (a0_2 : Int) (a0_3 : Int) (a0_4 : Int) (a0_5 : Int) (a0_6 : Int) (a0_7 : Int) (r : Bool) (w : World) (h : impl_Rule_right.f k a0_0 a0_1 a0_2 a0_3 a0_4 a0_5 a0_6 a0_7 = some r) :
  Calls Tryz.prog 56 #[.agg #[.int .i64 a0_0,.int .i64 a0_1,.int .i64 a0_2,.int .i64 a0_3,.int .i64 a0_4,.int .i64 a0_5,.int .i64 a0_6,.int .i64 a0_7]] w fun e w' => e = .returned (.bool r) ∧ Below w.heap.size w w':=by
 have hu39:=Tryz.underlying39
 have hu37:=Tryz.underlying37
 have HB:=a1z.mk (Below.refl w.heap.size w)
 have H : (if a0_1 = 0 then (impl_Rule_right.j0 k true a0_0 a0_1 a0_2 a0_3 a0_4 a0_5 a0_6 a0_7) else (if a0_0 = 2 then ((impl_in.f a0_1 0 3).bind fun t102 => (impl_Rule_right.j0 k t102 a0_0 a0_1 a0_2 a0_3 a0_4 a0_5 a0_6 a0_7)) else (impl_Rule_right.j0 k false a0_0 a0_1 a0_2 a0_3 a0_4 a0_5 a0_6 a0_7))) = some r:=h
 clear h
 have HC2:=a1z.mk H
 clear H
 go_enter Tryz.func56,Tryz.ntmps56
 go_upto_region 1 with (first|((with_reducible refine c5z (N:=1) rfl ?_);refine d2z ?hg (N:=1) ?hd (cs:=#[.int .i64 a0_0,.int .i64 a0_1,.int .i64 a0_2,.int .i64 a0_3,.int .i64 a0_4,.int .i64 a0_5,.int .i64 a0_6,.int .i64 a0_7]) (t:=39) ?hr ?_;(case hd => rfl);(case hg => rfl);(case hr => first|(go_simp;done)|(go_simp;rfl));intro gb101 hg w3 hbox hb;have n0_:=a1z.mk (b1z (by repeat (first|(with_reducible first|exact HB.1|apply a3z|apply a0z|apply a2z)|exact HB.1)) hb);have n1_:=a1z.mk (hbox);have n2_:=a1z.mk ((by rw [hg];exact (b8z (by repeat (first|(with_reducible first|exact HB.1|apply a3z|apply a0z|apply a2z)|exact HB.1))) : w.heap.size ≤ gb101));have n3_:=a1z.mk ((by rw [hg];exact (b8z (by repeat (first|(with_reducible first|exact HB.1|apply a3z|apply a0z|apply a2z)|exact HB.1))) : w.heap.size ≤ gb101));clear HB;have HB:=n0_;have BK101:=n1_;have GW101:=n2_;have GE101:=n3_;clear n0_ n1_ n2_ n3_;clear hb hbox hg))
 (try simp only [Act.put,sA_,sZ_,sS_])
 go_cut [3] (fun v3 wc => ∃ (kq : Nat) (x3_1 : Bool),v3 = .bool x3_1 ∧ a1z (impl_Rule_right.j0 kq x3_1 a0_0 a0_1 a0_2 a0_3 a0_4 a0_5 a0_6 a0_7 = some r) ∧ a1z (kq ≤ k) ∧ a1z (wc.heap[gb101]? = some (.cells #[.int .i64 a0_0,.int .i64 a0_1,.int .i64 a0_2,.int .i64 a0_3,.int .i64 a0_4,.int .i64 a0_5,.int .i64 a0_6,.int .i64 a0_7] 39 (0,0))) ∧ a1z (Below w.heap.size w wc))
 case first =>
  have H:=HC2.1
  clear HC2
  by_cases c4 : a0_1 = 0
  ·rw [if_pos c4] at H
   have c4b0 : (a0_1 == 0) = true:=beq_iff_eq.mpr c4
   have c4b1 : (a0_1 != 0) = false:=bne_eq_false_iff_eq.mpr c4
   clear c4
   (first|rw [c4b0]|(simp only [i64_w,i32_w];rw [c4b0])|skip)
   have H':=a1z.mk H
   clear H
   have hcz5_0:=c80_ BK101.1
   have hcz5_1:=c81_ BK101.1
   have hcz5_2:=c82_ BK101.1
   have hcz5_3:=c83_ BK101.1
   have hcz5_4:=c84_ BK101.1
   have hcz5_5:=c85_ BK101.1
   have hcz5_6:=c86_ BK101.1
   have hcz5_7:=c87_ BK101.1
   have hfz5_0:=a4z BK101.1 0
   have hfz5_1:=a4z BK101.1 1
   have hfz5_2:=a4z BK101.1 2
   have hfz5_3:=a4z BK101.1 3
   have hfz5_4:=a4z BK101.1 4
   have hfz5_5:=a4z BK101.1 5
   have hfz5_6:=a4z BK101.1 6
   have hfz5_7:=a4z BK101.1 7
   go_wp2
   go_meet
   case rel => exact ⟨_,(true),(by first|rfl|(simp;done)|(simp [*];done)),H',⟨by first|omega|exact Nat.le_refl _⟩,⟨by (with_reducible repeat (first|refine a8z ?_ _|refine a9z ?_|refine blk_alloc ?_ _));exact BK101.1⟩,⟨by repeat (first|(with_reducible first|exact HB.1|apply a3z|apply a0z|apply a2z|refine a5z ?_ GE101.1)|exact HB.1)⟩⟩
  ·rw [if_neg c4] at H
   have c4b0 : (a0_1 == 0) = false:=beq_eq_false_iff_ne.mpr c4
   have c4b1 : (a0_1 != 0) = true:=bne_iff_ne.mpr c4
   (first|rw [c4b0]|(simp only [i64_w,i32_w];rw [c4b0])|skip)
   by_cases c6 : a0_0 = 2
   ·rw [if_pos c6] at H
    have c6b0 : (a0_0 == 2) = true:=beq_iff_eq.mpr c6
    have c6b1 : (a0_0 != 2) = false:=bne_eq_false_iff_eq.mpr c6
    clear c6
    replace H:=Option.bind_eq_some_iff.mp H
    obtain ⟨t102,A70,H⟩:=H
    replace H : (impl_Rule_right.j0 k t102 a0_0 a0_1 a0_2 a0_3 a0_4 a0_5 a0_6 a0_7) = some r:=H
    have A7:=a1z.mk A70
    clear A70
    have H':=a1z.mk H
    clear H
    have hcz8_0:=c80_ BK101.1
    have hcz8_1:=c81_ BK101.1
    have hcz8_2:=c82_ BK101.1
    have hcz8_3:=c83_ BK101.1
    have hcz8_4:=c84_ BK101.1
    have hcz8_5:=c85_ BK101.1
    have hcz8_6:=c86_ BK101.1
    have hcz8_7:=c87_ BK101.1
    have hfz8_0:=a4z BK101.1 0
    have hfz8_1:=a4z BK101.1 1
    have hfz8_2:=a4z BK101.1 2
    have hfz8_3:=a4z BK101.1 3
    have hfz8_4:=a4z BK101.1 4
    have hfz8_5:=a4z BK101.1 5
    have hfz8_6:=a4z BK101.1 6
    have hfz8_7:=a4z BK101.1 7
    go_wp2_with (first|(go_at_call 80;(with_reducible refine (impl_in.calls a0_1 0 3 t102 _ A7.1).mono ?_);rintro e w' ⟨rfl,⟨nd,rfl⟩⟩))
    go_meet
    case rel => exact ⟨_,(t102),(by first|rfl|(simp;done)|(simp [*];done)),H',⟨by first|omega|exact Nat.le_refl _⟩,⟨by (with_reducible repeat (first|refine a8z ?_ _|refine a9z ?_|refine blk_alloc ?_ _));exact BK101.1⟩,⟨by repeat (first|(with_reducible first|exact HB.1|apply a3z|apply a0z|apply a2z|refine a5z ?_ GE101.1)|exact HB.1)⟩⟩
   ·rw [if_neg c6] at H
    have c6b0 : (a0_0 == 2) = false:=beq_eq_false_iff_ne.mpr c6
    have c6b1 : (a0_0 != 2) = true:=bne_iff_ne.mpr c6
    have H':=a1z.mk H
    clear H
    have hcz9_0:=c80_ BK101.1
    have hcz9_1:=c81_ BK101.1
    have hcz9_2:=c82_ BK101.1
    have hcz9_3:=c83_ BK101.1
    have hcz9_4:=c84_ BK101.1
    have hcz9_5:=c85_ BK101.1
    have hcz9_6:=c86_ BK101.1
    have hcz9_7:=c87_ BK101.1
    have hfz9_0:=a4z BK101.1 0
    have hfz9_1:=a4z BK101.1 1
    have hfz9_2:=a4z BK101.1 2
    have hfz9_3:=a4z BK101.1 3
    have hfz9_4:=a4z BK101.1 4
    have hfz9_5:=a4z BK101.1 5
    have hfz9_6:=a4z BK101.1 6
    have hfz9_7:=a4z BK101.1 7
    go_wp2
    go_meet
    case rel => exact ⟨_,(false),(by first|rfl|(simp;done)|(simp [*];done)),H',⟨by first|omega|exact Nat.le_refl _⟩,⟨by (with_reducible repeat (first|refine a8z ?_ _|refine a9z ?_|refine blk_alloc ?_ _));exact BK101.1⟩,⟨by repeat (first|(with_reducible first|exact HB.1|apply a3z|apply a0z|apply a2z|refine a5z ?_ GE101.1)|exact HB.1)⟩⟩
 case rest =>
  clear HC2
  try clear p2
  try clear c4
  try clear c4b0
  try clear c4b1
  try clear c5
  try clear c6
  try clear c6b0
  try clear c6b1
  try clear hcz5_0
  try clear hcz5_1
  try clear hcz5_2
  try clear hcz5_3
  try clear hcz5_4
  try clear hcz5_5
  try clear hcz5_6
  try clear hcz5_7
  try clear hcz8_0
  try clear hcz8_1
  try clear hcz8_2
  try clear hcz8_3
  try clear hcz8_4
  try clear hcz8_5
  try clear hcz8_6
  try clear hcz8_7
  try clear hcz9_0
  try clear hcz9_1
  try clear hcz9_2
  try clear hcz9_3
  try clear hcz9_4
  try clear hcz9_5
  try clear hcz9_6
  try clear hcz9_7
  try clear hfz5_0
  try clear hfz5_1
  try clear hfz5_2
  try clear hfz5_3
  try clear hfz5_4
  try clear hfz5_5
  try clear hfz5_6
  try clear hfz5_7
  try clear hfz8_0
  try clear hfz8_1
  try clear hfz8_2
  try clear hfz8_3
  try clear hfz8_4
  try clear hfz8_5
  try clear hfz8_6
  try clear hfz8_7
  try clear hfz9_0
  try clear hfz9_1
  try clear hfz9_2
  try clear hfz9_3
  try clear hfz9_4
  try clear hfz9_5
  try clear hfz9_6
  try clear hfz9_7
  obtain ⟨kq,x3_1,rfl,HA,HJ1,BK101,HB⟩:=hcut
  cases kq with
  | zero => exact absurd HA.1 (by simp [impl_Rule_right.j0])
  | succ kj1 =>
   have H:=HA.1
   clear HA
   simp only [impl_Rule_right.j0] at H
   replace H:=Option.bind_eq_some_iff.mp H
   obtain ⟨t103,A100,H⟩:=H
   replace H : (if t103 = true then ((impl_BlockOk.f a0_4 a0_5).bind fun t104 => (if t104 = true then ((impl_in.f a0_6 0 a0_7).bind fun t105 => (if t105 = true then (if a0_7 ≤ 65535 then ((impl_in.f a0_0 0 2).bind fun t106 => (if t106 = true then (some x3_1) else (some false))) else (some false)) else (some false))) else (some false))) else (some false)) = some r:=H
   have A10:=a1z.mk A100
   clear A100
   by_cases c11 : t103 = true
   ·subst c11
    have H1 : ((impl_BlockOk.f a0_4 a0_5).bind fun t104 => (if t104 = true then ((impl_in.f a0_6 0 a0_7).bind fun t105 => (if t105 = true then (if a0_7 ≤ 65535 then ((impl_in.f a0_0 0 2).bind fun t106 => (if t106 = true then (some x3_1) else (some false))) else (some false)) else (some false))) else (some false))) = some r:=by rw [if_pos rfl] at H;exact H
    clear H
    have H:=H1
    clear H1
    replace H:=Option.bind_eq_some_iff.mp H
    obtain ⟨t104,A120,H⟩:=H
    replace H : (if t104 = true then ((impl_in.f a0_6 0 a0_7).bind fun t105 => (if t105 = true then (if a0_7 ≤ 65535 then ((impl_in.f a0_0 0 2).bind fun t106 => (if t106 = true then (some x3_1) else (some false))) else (some false)) else (some false))) else (some false)) = some r:=H
    have A12:=a1z.mk A120
    clear A120
    by_cases c13 : t104 = true
    ·subst c13
     have H1 : ((impl_in.f a0_6 0 a0_7).bind fun t105 => (if t105 = true then (if a0_7 ≤ 65535 then ((impl_in.f a0_0 0 2).bind fun t106 => (if t106 = true then (some x3_1) else (some false))) else (some false)) else (some false))) = some r:=by rw [if_pos rfl] at H;exact H
     clear H
     have H:=H1
     clear H1
     replace H:=Option.bind_eq_some_iff.mp H
     obtain ⟨t105,A140,H⟩:=H
     replace H : (if t105 = true then (if a0_7 ≤ 65535 then ((impl_in.f a0_0 0 2).bind fun t106 => (if t106 = true then (some x3_1) else (some false))) else (some false)) else (some false)) = some r:=H
     have A14:=a1z.mk A140
     clear A140
     by_cases c15 : t105 = true
     ·subst c15
      have H1 : (if a0_7 ≤ 65535 then ((impl_in.f a0_0 0 2).bind fun t106 => (if t106 = true then (some x3_1) else (some false))) else (some false)) = some r:=by rw [if_pos rfl] at H;exact H
      clear H
      have H:=H1
      clear H1
      by_cases c16 : a0_7 ≤ 65535
      ·rw [if_pos c16] at H
       have c16b0 : decide (a0_7 ≤ 65535) = true:=decide_eq_true c16
       clear c16
       replace H:=Option.bind_eq_some_iff.mp H
       obtain ⟨t106,A170,H⟩:=H
       replace H : (if t106 = true then (some x3_1) else (some false)) = some r:=H
       have A17:=a1z.mk A170
       clear A170
       by_cases c18 : t106 = true
       ·subst c18
        have H1 : (some x3_1) = some r:=by rw [if_pos rfl] at H;exact H
        clear H
        have H:=H1
        clear H1
        obtain rfl:=Option.some.inj H
        have hcz19_0:=c80_ BK101.1
        have hcz19_1:=c81_ BK101.1
        have hcz19_2:=c82_ BK101.1
        have hcz19_3:=c83_ BK101.1
        have hcz19_4:=c84_ BK101.1
        have hcz19_5:=c85_ BK101.1
        have hcz19_6:=c86_ BK101.1
        have hcz19_7:=c87_ BK101.1
        have hfz19_0:=a4z BK101.1 0
        have hfz19_1:=a4z BK101.1 1
        have hfz19_2:=a4z BK101.1 2
        have hfz19_3:=a4z BK101.1 3
        have hfz19_4:=a4z BK101.1 4
        have hfz19_5:=a4z BK101.1 5
        have hfz19_6:=a4z BK101.1 6
        have hfz19_7:=a4z BK101.1 7
        go_wp2_with (first|((with_reducible refine b2z (f:=60) rfl ?_);refine c1z (some 19) rfl rfl Tryz.func60 (by kernel_rfl) rfl #[.agg #[.int .i64 a0_2,.int .i64 a0_3]] rfl (by (try simp only [mA_,mC_,mN_]);first|done|rfl|(simp only [lD_,lT_];rfl)) ?_;(with_reducible refine (impl_BlockOk.calls a0_2 a0_3 true _ A10.1).mono ?_);rintro e w20 ⟨rfl,hb⟩;refine ⟨_,rfl,?_⟩;have n0_:=a1z.mk (c0z (g:=gb101) (o:=.cells #[.int .i64 a0_0,.int .i64 a0_1,.int .i64 a0_2,.int .i64 a0_3,.int .i64 a0_4,.int .i64 a0_5,.int .i64 a0_6,.int .i64 a0_7] 39 (0,0)) (by (with_reducible repeat (first|refine a8z ?_ _|refine a9z ?_|refine blk_alloc ?_ _));exact BK101.1) hb);have n1_:=a1z.mk (b1z (by repeat (first|(with_reducible first|exact HB.1|apply a3z|apply a0z|apply a2z|refine a5z ?_ GE101.1)|exact HB.1)) hb);clear BK101 HB;have BK101:=n0_;have HB:=n1_;clear n0_ n1_;(try clear hb);have hcz21_0:=c80_ BK101.1;have hcz21_1:=c81_ BK101.1;have hcz21_2:=c82_ BK101.1;have hcz21_3:=c83_ BK101.1;have hcz21_4:=c84_ BK101.1;have hcz21_5:=c85_ BK101.1;have hcz21_6:=c86_ BK101.1;have hcz21_7:=c87_ BK101.1;have hfz21_0:=a4z BK101.1 0;have hfz21_1:=a4z BK101.1 1;have hfz21_2:=a4z BK101.1 2;have hfz21_3:=a4z BK101.1 3;have hfz21_4:=a4z BK101.1 4;have hfz21_5:=a4z BK101.1 5;have hfz21_6:=a4z BK101.1 6;have hfz21_7:=a4z BK101.1 7)|(go_at_call 60;(with_reducible refine (impl_BlockOk.calls a0_4 a0_5 true _ A12.1).mono ?_);rintro e w22 ⟨rfl,hb⟩;have n0_:=a1z.mk (c0z (g:=gb101) (o:=.cells #[.int .i64 a0_0,.int .i64 a0_1,.int .i64 a0_2,.int .i64 a0_3,.int .i64 a0_4,.int .i64 a0_5,.int .i64 a0_6,.int .i64 a0_7] 39 (0,0)) (by (with_reducible repeat (first|refine a8z ?_ _|refine a9z ?_|refine blk_alloc ?_ _));exact BK101.1) hb);have n1_:=a1z.mk (b1z (by repeat (first|(with_reducible first|exact HB.1|apply a3z|apply a0z|apply a2z|refine a5z ?_ GE101.1)|exact HB.1)) hb);clear BK101 HB;have BK101:=n0_;have HB:=n1_;clear n0_ n1_;(try clear hb);have hcz23_0:=c80_ BK101.1;have hcz23_1:=c81_ BK101.1;have hcz23_2:=c82_ BK101.1;have hcz23_3:=c83_ BK101.1;have hcz23_4:=c84_ BK101.1;have hcz23_5:=c85_ BK101.1;have hcz23_6:=c86_ BK101.1;have hcz23_7:=c87_ BK101.1;have hfz23_0:=a4z BK101.1 0;have hfz23_1:=a4z BK101.1 1;have hfz23_2:=a4z BK101.1 2;have hfz23_3:=a4z BK101.1 3;have hfz23_4:=a4z BK101.1 4;have hfz23_5:=a4z BK101.1 5;have hfz23_6:=a4z BK101.1 6;have hfz23_7:=a4z BK101.1 7)|(go_at_call 80;(with_reducible refine (impl_in.calls a0_6 0 a0_7 true _ A14.1).mono ?_);rintro e w' ⟨rfl,⟨nd,rfl⟩⟩)|(go_at_call 80;(with_reducible refine (impl_in.calls a0_0 0 2 true _ A17.1).mono ?_);rintro e w' ⟨rfl,⟨nd,rfl⟩⟩))
        go_ret
        exact ⟨by first|rfl|(simp [b5z,b4z] <;> rfl)|(simp [*,b5z,b4z] <;> rfl),by repeat (first|(with_reducible first|exact HB.1|apply a3z|apply a0z|apply a2z|refine a5z ?_ GE101.1)|exact HB.1)⟩
       ·replace c18:=Bool.eq_false_iff.mpr c18
        subst c18
        have H1 : (some false) = some r:=by rw [if_neg (show ¬ (false = true) by decide)] at H;exact H
        clear H
        have H:=H1
        clear H1
        obtain rfl:=Option.some.inj H
        have hcz24_0:=c80_ BK101.1
        have hcz24_1:=c81_ BK101.1
        have hcz24_2:=c82_ BK101.1
        have hcz24_3:=c83_ BK101.1
        have hcz24_4:=c84_ BK101.1
        have hcz24_5:=c85_ BK101.1
        have hcz24_6:=c86_ BK101.1
        have hcz24_7:=c87_ BK101.1
        have hfz24_0:=a4z BK101.1 0
        have hfz24_1:=a4z BK101.1 1
        have hfz24_2:=a4z BK101.1 2
        have hfz24_3:=a4z BK101.1 3
        have hfz24_4:=a4z BK101.1 4
        have hfz24_5:=a4z BK101.1 5
        have hfz24_6:=a4z BK101.1 6
        have hfz24_7:=a4z BK101.1 7
        go_wp2_with (first|((with_reducible refine b2z (f:=60) rfl ?_);refine c1z (some 19) rfl rfl Tryz.func60 (by kernel_rfl) rfl #[.agg #[.int .i64 a0_2,.int .i64 a0_3]] rfl (by (try simp only [mA_,mC_,mN_]);first|done|rfl|(simp only [lD_,lT_];rfl)) ?_;(with_reducible refine (impl_BlockOk.calls a0_2 a0_3 true _ A10.1).mono ?_);rintro e w25 ⟨rfl,hb⟩;refine ⟨_,rfl,?_⟩;have n0_:=a1z.mk (c0z (g:=gb101) (o:=.cells #[.int .i64 a0_0,.int .i64 a0_1,.int .i64 a0_2,.int .i64 a0_3,.int .i64 a0_4,.int .i64 a0_5,.int .i64 a0_6,.int .i64 a0_7] 39 (0,0)) (by (with_reducible repeat (first|refine a8z ?_ _|refine a9z ?_|refine blk_alloc ?_ _));exact BK101.1) hb);have n1_:=a1z.mk (b1z (by repeat (first|(with_reducible first|exact HB.1|apply a3z|apply a0z|apply a2z|refine a5z ?_ GE101.1)|exact HB.1)) hb);clear BK101 HB;have BK101:=n0_;have HB:=n1_;clear n0_ n1_;(try clear hb);have hcz26_0:=c80_ BK101.1;have hcz26_1:=c81_ BK101.1;have hcz26_2:=c82_ BK101.1;have hcz26_3:=c83_ BK101.1;have hcz26_4:=c84_ BK101.1;have hcz26_5:=c85_ BK101.1;have hcz26_6:=c86_ BK101.1;have hcz26_7:=c87_ BK101.1;have hfz26_0:=a4z BK101.1 0;have hfz26_1:=a4z BK101.1 1;have hfz26_2:=a4z BK101.1 2;have hfz26_3:=a4z BK101.1 3;have hfz26_4:=a4z BK101.1 4;have hfz26_5:=a4z BK101.1 5;have hfz26_6:=a4z BK101.1 6;have hfz26_7:=a4z BK101.1 7)|(go_at_call 60;(with_reducible refine (impl_BlockOk.calls a0_4 a0_5 true _ A12.1).mono ?_);rintro e w27 ⟨rfl,hb⟩;have n0_:=a1z.mk (c0z (g:=gb101) (o:=.cells #[.int .i64 a0_0,.int .i64 a0_1,.int .i64 a0_2,.int .i64 a0_3,.int .i64 a0_4,.int .i64 a0_5,.int .i64 a0_6,.int .i64 a0_7] 39 (0,0)) (by (with_reducible repeat (first|refine a8z ?_ _|refine a9z ?_|refine blk_alloc ?_ _));exact BK101.1) hb);have n1_:=a1z.mk (b1z (by repeat (first|(with_reducible first|exact HB.1|apply a3z|apply a0z|apply a2z|refine a5z ?_ GE101.1)|exact HB.1)) hb);clear BK101 HB;have BK101:=n0_;have HB:=n1_;clear n0_ n1_;(try clear hb);have hcz28_0:=c80_ BK101.1;have hcz28_1:=c81_ BK101.1;have hcz28_2:=c82_ BK101.1;have hcz28_3:=c83_ BK101.1;have hcz28_4:=c84_ BK101.1;have hcz28_5:=c85_ BK101.1;have hcz28_6:=c86_ BK101.1;have hcz28_7:=c87_ BK101.1;have hfz28_0:=a4z BK101.1 0;have hfz28_1:=a4z BK101.1 1;have hfz28_2:=a4z BK101.1 2;have hfz28_3:=a4z BK101.1 3;have hfz28_4:=a4z BK101.1 4;have hfz28_5:=a4z BK101.1 5;have hfz28_6:=a4z BK101.1 6;have hfz28_7:=a4z BK101.1 7)|(go_at_call 80;(with_reducible refine (impl_in.calls a0_6 0 a0_7 true _ A14.1).mono ?_);rintro e w' ⟨rfl,⟨nd,rfl⟩⟩)|(go_at_call 80;(with_reducible refine (impl_in.calls a0_0 0 2 false _ A17.1).mono ?_);rintro e w' ⟨rfl,⟨nd,rfl⟩⟩))
        go_ret
        exact ⟨by first|rfl|(simp [b5z,b4z] <;> rfl)|(simp [*,b5z,b4z] <;> rfl),by repeat (first|(with_reducible first|exact HB.1|apply a3z|apply a0z|apply a2z|refine a5z ?_ GE101.1)|exact HB.1)⟩
      ·rw [if_neg c16] at H
       have c16b0 : decide (a0_7 ≤ 65535) = false:=decide_eq_false c16
       clear c16
       obtain rfl:=Option.some.inj H
       have hcz29_0:=c80_ BK101.1
       have hcz29_1:=c81_ BK101.1
       have hcz29_2:=c82_ BK101.1
       have hcz29_3:=c83_ BK101.1
       have hcz29_4:=c84_ BK101.1
       have hcz29_5:=c85_ BK101.1
       have hcz29_6:=c86_ BK101.1
       have hcz29_7:=c87_ BK101.1
       have hfz29_0:=a4z BK101.1 0
       have hfz29_1:=a4z BK101.1 1
       have hfz29_2:=a4z BK101.1 2
       have hfz29_3:=a4z BK101.1 3
       have hfz29_4:=a4z BK101.1 4
       have hfz29_5:=a4z BK101.1 5
       have hfz29_6:=a4z BK101.1 6
       have hfz29_7:=a4z BK101.1 7
       go_wp2_with (first|((with_reducible refine b2z (f:=60) rfl ?_);refine c1z (some 19) rfl rfl Tryz.func60 (by kernel_rfl) rfl #[.agg #[.int .i64 a0_2,.int .i64 a0_3]] rfl (by (try simp only [mA_,mC_,mN_]);first|done|rfl|(simp only [lD_,lT_];rfl)) ?_;(with_reducible refine (impl_BlockOk.calls a0_2 a0_3 true _ A10.1).mono ?_);rintro e w30 ⟨rfl,hb⟩;refine ⟨_,rfl,?_⟩;have n0_:=a1z.mk (c0z (g:=gb101) (o:=.cells #[.int .i64 a0_0,.int .i64 a0_1,.int .i64 a0_2,.int .i64 a0_3,.int .i64 a0_4,.int .i64 a0_5,.int .i64 a0_6,.int .i64 a0_7] 39 (0,0)) (by (with_reducible repeat (first|refine a8z ?_ _|refine a9z ?_|refine blk_alloc ?_ _));exact BK101.1) hb);have n1_:=a1z.mk (b1z (by repeat (first|(with_reducible first|exact HB.1|apply a3z|apply a0z|apply a2z|refine a5z ?_ GE101.1)|exact HB.1)) hb);clear BK101 HB;have BK101:=n0_;have HB:=n1_;clear n0_ n1_;(try clear hb);have hcz31_0:=c80_ BK101.1;have hcz31_1:=c81_ BK101.1;have hcz31_2:=c82_ BK101.1;have hcz31_3:=c83_ BK101.1;have hcz31_4:=c84_ BK101.1;have hcz31_5:=c85_ BK101.1;have hcz31_6:=c86_ BK101.1;have hcz31_7:=c87_ BK101.1;have hfz31_0:=a4z BK101.1 0;have hfz31_1:=a4z BK101.1 1;have hfz31_2:=a4z BK101.1 2;have hfz31_3:=a4z BK101.1 3;have hfz31_4:=a4z BK101.1 4;have hfz31_5:=a4z BK101.1 5;have hfz31_6:=a4z BK101.1 6;have hfz31_7:=a4z BK101.1 7)|(go_at_call 60;(with_reducible refine (impl_BlockOk.calls a0_4 a0_5 true _ A12.1).mono ?_);rintro e w32 ⟨rfl,hb⟩;have n0_:=a1z.mk (c0z (g:=gb101) (o:=.cells #[.int .i64 a0_0,.int .i64 a0_1,.int .i64 a0_2,.int .i64 a0_3,.int .i64 a0_4,.int .i64 a0_5,.int .i64 a0_6,.int .i64 a0_7] 39 (0,0)) (by (with_reducible repeat (first|refine a8z ?_ _|refine a9z ?_|refine blk_alloc ?_ _));exact BK101.1) hb);have n1_:=a1z.mk (b1z (by repeat (first|(with_reducible first|exact HB.1|apply a3z|apply a0z|apply a2z|refine a5z ?_ GE101.1)|exact HB.1)) hb);clear BK101 HB;have BK101:=n0_;have HB:=n1_;clear n0_ n1_;(try clear hb);have hcz33_0:=c80_ BK101.1;have hcz33_1:=c81_ BK101.1;have hcz33_2:=c82_ BK101.1;have hcz33_3:=c83_ BK101.1;have hcz33_4:=c84_ BK101.1;have hcz33_5:=c85_ BK101.1;have hcz33_6:=c86_ BK101.1;have hcz33_7:=c87_ BK101.1;have hfz33_0:=a4z BK101.1 0;have hfz33_1:=a4z BK101.1 1;have hfz33_2:=a4z BK101.1 2;have hfz33_3:=a4z BK101.1 3;have hfz33_4:=a4z BK101.1 4;have hfz33_5:=a4z BK101.1 5;have hfz33_6:=a4z BK101.1 6;have hfz33_7:=a4z BK101.1 7)|(go_at_call 80;(with_reducible refine (impl_in.calls a0_6 0 a0_7 true _ A14.1).mono ?_);rintro e w' ⟨rfl,⟨nd,rfl⟩⟩))
       go_ret
       exact ⟨by first|rfl|(simp [b5z,b4z] <;> rfl)|(simp [*,b5z,b4z] <;> rfl),by repeat (first|(with_reducible first|exact HB.1|apply a3z|apply a0z|apply a2z|refine a5z ?_ GE101.1)|exact HB.1)⟩
     ·replace c15:=Bool.eq_false_iff.mpr c15
      subst c15
      have H1 : (some false) = some r:=by rw [if_neg (show ¬ (false = true) by decide)] at H;exact H
      clear H
      have H:=H1
      clear H1
      obtain rfl:=Option.some.inj H
      have hcz34_0:=c80_ BK101.1
      have hcz34_1:=c81_ BK101.1
      have hcz34_2:=c82_ BK101.1
      have hcz34_3:=c83_ BK101.1
      have hcz34_4:=c84_ BK101.1
      have hcz34_5:=c85_ BK101.1
      have hcz34_6:=c86_ BK101.1
      have hcz34_7:=c87_ BK101.1
      have hfz34_0:=a4z BK101.1 0
      have hfz34_1:=a4z BK101.1 1
      have hfz34_2:=a4z BK101.1 2
      have hfz34_3:=a4z BK101.1 3
      have hfz34_4:=a4z BK101.1 4
      have hfz34_5:=a4z BK101.1 5
      have hfz34_6:=a4z BK101.1 6
      have hfz34_7:=a4z BK101.1 7
      go_wp2_with (first|((with_reducible refine b2z (f:=60) rfl ?_);refine c1z (some 19) rfl rfl Tryz.func60 (by kernel_rfl) rfl #[.agg #[.int .i64 a0_2,.int .i64 a0_3]] rfl (by (try simp only [mA_,mC_,mN_]);first|done|rfl|(simp only [lD_,lT_];rfl)) ?_;(with_reducible refine (impl_BlockOk.calls a0_2 a0_3 true _ A10.1).mono ?_);rintro e w35 ⟨rfl,hb⟩;refine ⟨_,rfl,?_⟩;have n0_:=a1z.mk (c0z (g:=gb101) (o:=.cells #[.int .i64 a0_0,.int .i64 a0_1,.int .i64 a0_2,.int .i64 a0_3,.int .i64 a0_4,.int .i64 a0_5,.int .i64 a0_6,.int .i64 a0_7] 39 (0,0)) (by (with_reducible repeat (first|refine a8z ?_ _|refine a9z ?_|refine blk_alloc ?_ _));exact BK101.1) hb);have n1_:=a1z.mk (b1z (by repeat (first|(with_reducible first|exact HB.1|apply a3z|apply a0z|apply a2z|refine a5z ?_ GE101.1)|exact HB.1)) hb);clear BK101 HB;have BK101:=n0_;have HB:=n1_;clear n0_ n1_;(try clear hb);have hcz36_0:=c80_ BK101.1;have hcz36_1:=c81_ BK101.1;have hcz36_2:=c82_ BK101.1;have hcz36_3:=c83_ BK101.1;have hcz36_4:=c84_ BK101.1;have hcz36_5:=c85_ BK101.1;have hcz36_6:=c86_ BK101.1;have hcz36_7:=c87_ BK101.1;have hfz36_0:=a4z BK101.1 0;have hfz36_1:=a4z BK101.1 1;have hfz36_2:=a4z BK101.1 2;have hfz36_3:=a4z BK101.1 3;have hfz36_4:=a4z BK101.1 4;have hfz36_5:=a4z BK101.1 5;have hfz36_6:=a4z BK101.1 6;have hfz36_7:=a4z BK101.1 7)|(go_at_call 60;(with_reducible refine (impl_BlockOk.calls a0_4 a0_5 true _ A12.1).mono ?_);rintro e w37 ⟨rfl,hb⟩;have n0_:=a1z.mk (c0z (g:=gb101) (o:=.cells #[.int .i64 a0_0,.int .i64 a0_1,.int .i64 a0_2,.int .i64 a0_3,.int .i64 a0_4,.int .i64 a0_5,.int .i64 a0_6,.int .i64 a0_7] 39 (0,0)) (by (with_reducible repeat (first|refine a8z ?_ _|refine a9z ?_|refine blk_alloc ?_ _));exact BK101.1) hb);have n1_:=a1z.mk (b1z (by repeat (first|(with_reducible first|exact HB.1|apply a3z|apply a0z|apply a2z|refine a5z ?_ GE101.1)|exact HB.1)) hb);clear BK101 HB;have BK101:=n0_;have HB:=n1_;clear n0_ n1_;(try clear hb);have hcz38_0:=c80_ BK101.1;have hcz38_1:=c81_ BK101.1;have hcz38_2:=c82_ BK101.1;have hcz38_3:=c83_ BK101.1;have hcz38_4:=c84_ BK101.1;have hcz38_5:=c85_ BK101.1;have hcz38_6:=c86_ BK101.1;have hcz38_7:=c87_ BK101.1;have hfz38_0:=a4z BK101.1 0;have hfz38_1:=a4z BK101.1 1;have hfz38_2:=a4z BK101.1 2;have hfz38_3:=a4z BK101.1 3;have hfz38_4:=a4z BK101.1 4;have hfz38_5:=a4z BK101.1 5;have hfz38_6:=a4z BK101.1 6;have hfz38_7:=a4z BK101.1 7)|(go_at_call 80;(with_reducible refine (impl_in.calls a0_6 0 a0_7 false _ A14.1).mono ?_);rintro e w' ⟨rfl,⟨nd,rfl⟩⟩))
      go_ret
      exact ⟨by first|rfl|(simp [b5z,b4z] <;> rfl)|(simp [*,b5z,b4z] <;> rfl),by repeat (first|(with_reducible first|exact HB.1|apply a3z|apply a0z|apply a2z|refine a5z ?_ GE101.1)|exact HB.1)⟩
    ·replace c13:=Bool.eq_false_iff.mpr c13
     subst c13
     have H1 : (some false) = some r:=by rw [if_neg (show ¬ (false = true) by decide)] at H;exact H
     clear H
     have H:=H1
     clear H1
     obtain rfl:=Option.some.inj H
     have hcz39_0:=c80_ BK101.1
     have hcz39_1:=c81_ BK101.1
     have hcz39_2:=c82_ BK101.1
     have hcz39_3:=c83_ BK101.1
     have hcz39_4:=c84_ BK101.1
     have hcz39_5:=c85_ BK101.1
     have hcz39_6:=c86_ BK101.1
     have hcz39_7:=c87_ BK101.1
     have hfz39_0:=a4z BK101.1 0
     have hfz39_1:=a4z BK101.1 1
     have hfz39_2:=a4z BK101.1 2
     have hfz39_3:=a4z BK101.1 3
     have hfz39_4:=a4z BK101.1 4
     have hfz39_5:=a4z BK101.1 5
     have hfz39_6:=a4z BK101.1 6
     have hfz39_7:=a4z BK101.1 7
     go_wp2_with (first|((with_reducible refine b2z (f:=60) rfl ?_);refine c1z (some 19) rfl rfl Tryz.func60 (by kernel_rfl) rfl #[.agg #[.int .i64 a0_2,.int .i64 a0_3]] rfl (by (try simp only [mA_,mC_,mN_]);first|done|rfl|(simp only [lD_,lT_];rfl)) ?_;(with_reducible refine (impl_BlockOk.calls a0_2 a0_3 true _ A10.1).mono ?_);rintro e w40 ⟨rfl,hb⟩;refine ⟨_,rfl,?_⟩;have n0_:=a1z.mk (c0z (g:=gb101) (o:=.cells #[.int .i64 a0_0,.int .i64 a0_1,.int .i64 a0_2,.int .i64 a0_3,.int .i64 a0_4,.int .i64 a0_5,.int .i64 a0_6,.int .i64 a0_7] 39 (0,0)) (by (with_reducible repeat (first|refine a8z ?_ _|refine a9z ?_|refine blk_alloc ?_ _));exact BK101.1) hb);have n1_:=a1z.mk (b1z (by repeat (first|(with_reducible first|exact HB.1|apply a3z|apply a0z|apply a2z|refine a5z ?_ GE101.1)|exact HB.1)) hb);clear BK101 HB;have BK101:=n0_;have HB:=n1_;clear n0_ n1_;(try clear hb);have hcz41_0:=c80_ BK101.1;have hcz41_1:=c81_ BK101.1;have hcz41_2:=c82_ BK101.1;have hcz41_3:=c83_ BK101.1;have hcz41_4:=c84_ BK101.1;have hcz41_5:=c85_ BK101.1;have hcz41_6:=c86_ BK101.1;have hcz41_7:=c87_ BK101.1;have hfz41_0:=a4z BK101.1 0;have hfz41_1:=a4z BK101.1 1;have hfz41_2:=a4z BK101.1 2;have hfz41_3:=a4z BK101.1 3;have hfz41_4:=a4z BK101.1 4;have hfz41_5:=a4z BK101.1 5;have hfz41_6:=a4z BK101.1 6;have hfz41_7:=a4z BK101.1 7)|(go_at_call 60;(with_reducible refine (impl_BlockOk.calls a0_4 a0_5 false _ A12.1).mono ?_);rintro e w42 ⟨rfl,hb⟩;have n0_:=a1z.mk (c0z (g:=gb101) (o:=.cells #[.int .i64 a0_0,.int .i64 a0_1,.int .i64 a0_2,.int .i64 a0_3,.int .i64 a0_4,.int .i64 a0_5,.int .i64 a0_6,.int .i64 a0_7] 39 (0,0)) (by (with_reducible repeat (first|refine a8z ?_ _|refine a9z ?_|refine blk_alloc ?_ _));exact BK101.1) hb);have n1_:=a1z.mk (b1z (by repeat (first|(with_reducible first|exact HB.1|apply a3z|apply a0z|apply a2z|refine a5z ?_ GE101.1)|exact HB.1)) hb);clear BK101 HB;have BK101:=n0_;have HB:=n1_;clear n0_ n1_;(try clear hb)))
     go_ret
     exact ⟨by first|rfl|(simp [b5z,b4z] <;> rfl)|(simp [*,b5z,b4z] <;> rfl),by repeat (first|(with_reducible first|exact HB.1|apply a3z|apply a0z|apply a2z|refine a5z ?_ GE101.1)|exact HB.1)⟩
   ·replace c11:=Bool.eq_false_iff.mpr c11
    subst c11
    have H1 : (some false) = some r:=by rw [if_neg (show ¬ (false = true) by decide)] at H;exact H
    clear H
    have H:=H1
    clear H1
    obtain rfl:=Option.some.inj H
    have hcz43_0:=c80_ BK101.1
    have hcz43_1:=c81_ BK101.1
    have hcz43_2:=c82_ BK101.1
    have hcz43_3:=c83_ BK101.1
    have hcz43_4:=c84_ BK101.1
    have hcz43_5:=c85_ BK101.1
    have hcz43_6:=c86_ BK101.1
    have hcz43_7:=c87_ BK101.1
    have hfz43_0:=a4z BK101.1 0
    have hfz43_1:=a4z BK101.1 1
    have hfz43_2:=a4z BK101.1 2
    have hfz43_3:=a4z BK101.1 3
    have hfz43_4:=a4z BK101.1 4
    have hfz43_5:=a4z BK101.1 5
    have hfz43_6:=a4z BK101.1 6
    have hfz43_7:=a4z BK101.1 7
    go_wp2_with (first|((with_reducible refine b2z (f:=60) rfl ?_);refine c1z (some 19) rfl rfl Tryz.func60 (by kernel_rfl) rfl #[.agg #[.int .i64 a0_2,.int .i64 a0_3]] rfl (by (try simp only [mA_,mC_,mN_]);first|done|rfl|(simp only [lD_,lT_];rfl)) ?_;(with_reducible refine (impl_BlockOk.calls a0_2 a0_3 false _ A10.1).mono ?_);rintro e w44 ⟨rfl,hb⟩;refine ⟨_,rfl,?_⟩;have n0_:=a1z.mk (c0z (g:=gb101) (o:=.cells #[.int .i64 a0_0,.int .i64 a0_1,.int .i64 a0_2,.int .i64 a0_3,.int .i64 a0_4,.int .i64 a0_5,.int .i64 a0_6,.int .i64 a0_7] 39 (0,0)) (by (with_reducible repeat (first|refine a8z ?_ _|refine a9z ?_|refine blk_alloc ?_ _));exact BK101.1) hb);have n1_:=a1z.mk (b1z (by repeat (first|(with_reducible first|exact HB.1|apply a3z|apply a0z|apply a2z|refine a5z ?_ GE101.1)|exact HB.1)) hb);clear BK101 HB;have BK101:=n0_;have HB:=n1_;clear n0_ n1_;(try clear hb)))
    go_ret
    exact ⟨by first|rfl|(simp [b5z,b4z] <;> rfl)|(simp [*,b5z,b4z] <;> rfl),by repeat (first|(with_reducible first|exact HB.1|apply a3z|apply a0z|apply a2z|refine a5z ?_ GE101.1)|exact HB.1)⟩
def impl_RulesOk_1.f (k : Nat) (a0_0 : Int) (a0_1 : Int) (a0_2 : Int) (a0_3 : Int) (a0_4 : Int) (a0_5 : Int) (a0_6 : Int) (a0_7 : Int) : Option (Bool):=(impl_Rule_right.f k a0_0 a0_1 a0_2 a0_3 a0_4 a0_5 a0_6 a0_7).bind fun t102 => (some (!t102))
set_option maxHeartbeats 8000000 in
set_option maxRecDepth 100000 in
theorem impl_RulesOk_1.calls (k : Nat) (a0_0 : Int) (a0_1 : Int) (a0_2 : Int) (a0_3 : Int) (a0_4 : Int) (a0_5 : Int) (a0_6 : Int) (a0_7 : Int) (r : Bool) (w : World) (h : impl_RulesOk_1.f k a0_0 a0_1 a0_2 a0_3 a0_4 a0_5 a0_6 a0_7 = some r) :
  Calls Tryz.prog 55 #[.agg #[.int .i64 a0_0,.int .i64 a0_1,.int .i64 a0_2,.int .i64 a0_3,.int .i64 a0_4,.int .i64 a0_5,.int .i64 a0_6,.int .i64 a0_7]] w fun e w' => e = .returned (.bool r) ∧ Below w.heap.size w w':=by
 have hu39:=Tryz.underlying39
 have HB:=a1z.mk (Below.refl w.heap.size w)
 have H : ((impl_Rule_right.f k a0_0 a0_1 a0_2 a0_3 a0_4 a0_5 a0_6 a0_7).bind fun t102 => (some (!t102))) = some r:=h
 clear h
 replace H:=Option.bind_eq_some_iff.mp H
 obtain ⟨t102,A20,H⟩:=H
 replace H : (some (!t102)) = some r:=H
 have A2:=a1z.mk A20
 clear A20
 obtain rfl:=Option.some.inj H
 go_enter Tryz.func55,Tryz.ntmps55
 go_wp2_with (first|((with_reducible refine c5z (N:=1) rfl ?_);refine d2z ?hg (N:=1) ?hd (cs:=#[.int .i64 a0_0,.int .i64 a0_1,.int .i64 a0_2,.int .i64 a0_3,.int .i64 a0_4,.int .i64 a0_5,.int .i64 a0_6,.int .i64 a0_7]) (t:=39) ?hr ?_;(case hd => rfl);(case hg => rfl);(case hr => first|(go_simp;done)|(go_simp;rfl));intro gb101 hg w3 hbox hb;have n0_:=a1z.mk (b1z (by repeat (first|(with_reducible first|exact HB.1|apply a3z|apply a0z|apply a2z)|exact HB.1)) hb);have n1_:=a1z.mk (hbox);have n2_:=a1z.mk ((by rw [hg];exact (b8z (by repeat (first|(with_reducible first|exact HB.1|apply a3z|apply a0z|apply a2z)|exact HB.1))) : w.heap.size ≤ gb101));have n3_:=a1z.mk ((by rw [hg];exact (b8z (by repeat (first|(with_reducible first|exact HB.1|apply a3z|apply a0z|apply a2z)|exact HB.1))) : w.heap.size ≤ gb101));clear HB;have HB:=n0_;have BK101:=n1_;have GW101:=n2_;have GE101:=n3_;clear n0_ n1_ n2_ n3_;clear hb hbox hg;have hcz4_0:=c80_ BK101.1;have hcz4_1:=c81_ BK101.1;have hcz4_2:=c82_ BK101.1;have hcz4_3:=c83_ BK101.1;have hcz4_4:=c84_ BK101.1;have hcz4_5:=c85_ BK101.1;have hcz4_6:=c86_ BK101.1;have hcz4_7:=c87_ BK101.1;have hfz4_0:=a4z BK101.1 0;have hfz4_1:=a4z BK101.1 1;have hfz4_2:=a4z BK101.1 2;have hfz4_3:=a4z BK101.1 3;have hfz4_4:=a4z BK101.1 4;have hfz4_5:=a4z BK101.1 5;have hfz4_6:=a4z BK101.1 6;have hfz4_7:=a4z BK101.1 7)|((with_reducible refine b2z (f:=56) rfl ?_);refine c1z (some 4) rfl rfl Tryz.func56 (by kernel_rfl) rfl #[.agg #[.int .i64 a0_0,.int .i64 a0_1,.int .i64 a0_2,.int .i64 a0_3,.int .i64 a0_4,.int .i64 a0_5,.int .i64 a0_6,.int .i64 a0_7]] rfl (by (try simp only [mA_,mC_,mN_]);first|done|rfl|(simp only [lD_,lT_];rfl)) ?_;(with_reducible refine (impl_Rule_right.calls k a0_0 a0_1 a0_2 a0_3 a0_4 a0_5 a0_6 a0_7 t102 _ A2.1).mono ?_);rintro e w5 ⟨rfl,hb⟩;refine ⟨_,rfl,?_⟩;have n0_:=a1z.mk (c0z (g:=gb101) (o:=.cells #[.int .i64 a0_0,.int .i64 a0_1,.int .i64 a0_2,.int .i64 a0_3,.int .i64 a0_4,.int .i64 a0_5,.int .i64 a0_6,.int .i64 a0_7] 39 (0,0)) (by (with_reducible repeat (first|refine a8z ?_ _|refine a9z ?_|refine blk_alloc ?_ _));exact BK101.1) hb);have n1_:=a1z.mk (b1z (by repeat (first|(with_reducible first|exact HB.1|apply a3z|apply a0z|apply a2z|refine a5z ?_ GE101.1)|exact HB.1)) hb);clear BK101 HB;have BK101:=n0_;have HB:=n1_;clear n0_ n1_;(try clear hb)))
 go_ret
 exact ⟨by first|rfl|(simp [b5z,b4z] <;> rfl)|(simp [*,b5z,b4z] <;> rfl),by repeat (first|(with_reducible first|exact HB.1|apply a3z|apply a0z|apply a2z|refine a5z ?_ GE101.1)|exact HB.1)⟩
def slices_IndexFunc_Rule.l0 : Nat → List (S39) → Int → Int → Option (Int)
 | 0,_,_,_ => none
 | k + 1,x0,x7,x8 => if x8 < x7 then (if 0 ≤ x8 then (if x8 < (x0.length : Int) then ((impl_RulesOk_1.f k ((a6z x0 x8).f0) ((a6z x0 x8).f1) ((a6z x0 x8).f2.f0) ((a6z x0 x8).f2.f1) ((a6z x0 x8).f3.f0) ((a6z x0 x8).f3.f1) ((a6z x0 x8).f4) ((a6z x0 x8).f5)).bind fun t102 => (if t102 = true then (some x8) else (slices_IndexFunc_Rule.l0 k x0 x7 (wrap64 (x8 + 1))))) else (none)) else (none)) else (some (-1))
def slices_IndexFunc_Rule.f (k : Nat) (l0 : List (S39))  : Option (Int):=slices_IndexFunc_Rule.l0 k l0 (l0.length : Int) 0
set_option maxHeartbeats 8000000 in
set_option maxRecDepth 100000 in
theorem slices_IndexFunc_Rule.calls (k : Nat) (A0 : Option Addr) (c0 : Nat) (l0 : List (S39))  (r : Int) (w : World) (hr0 : Kd.C k39 w A0 l0.length l0) (hc0 : l0.length ≤ c0) (h : slices_IndexFunc_Rule.f k l0 = some r) :
  Calls Tryz.prog 79 #[.slice A0 l0.length c0,.func (.func 55) #[] #[]] w fun e w' => e = .returned (.int .i64 r) ∧ Below w.heap.size w w':=by
 have hu39:=Tryz.underlying39
 have HR0:=a1z.mk hr0
 have HC0:=a1z.mk hc0
 clear hr0 hc0
 have HB:=a1z.mk (Below.refl w.heap.size w)
 have H : (slices_IndexFunc_Rule.l0 k l0 (l0.length : Int) 0) = some r:=h
 clear h
 have H':=a1z.mk H
 clear H
 go_enter Tryz.func79,Tryz.ntmps79
 go_wp2
 go_loopg [8] k (fun kq v8 w' => ∃ (x8_1 : Int),v8 = .int .i64 x8_1 ∧ a1z (slices_IndexFunc_Rule.l0 kq l0 (l0.length : Int) x8_1 = some r) ∧ a1z (kq ≤ k) ∧ a1z (Below w.heap.size w w'))
 case atStart => exact ⟨(0),(by first|rfl|(simp;done)|(simp [*];done)),H',⟨Nat.le_refl _⟩,⟨by repeat (first|(with_reducible first|exact HB.1|apply a3z|apply a0z|apply a2z)|exact HB.1)⟩⟩
 case round =>
  clear H'
  try clear p2
  obtain ⟨x8_1,rfl,HA,HK1,HB⟩:=hrel
  cases gk with
  | zero => exact absurd HA.1 (by simp [slices_IndexFunc_Rule.l0])
  | succ k1 =>
   have H:=HA.1
   clear HA
   simp only [slices_IndexFunc_Rule.l0] at H
   by_cases c3 : x8_1 < (l0.length : Int)
   ·rw [if_pos c3] at H
    have c3b0 : decide (x8_1 < (l0.length : Int)) = true:=decide_eq_true c3
    clear c3
    by_cases c4 : 0 ≤ x8_1
    ·rw [if_pos c4] at H
     have c4b0 : decide (0 ≤ x8_1) = true:=decide_eq_true c4
     clear c4
     by_cases c5 : x8_1 < (l0.length : Int)
     ·rw [if_pos c5] at H
      have c5b0 : decide (x8_1 < (l0.length : Int)) = true:=decide_eq_true c5
      clear c5
      replace H:=Option.bind_eq_some_iff.mp H
      obtain ⟨t102,A60,H⟩:=H
      replace H : (if t102 = true then (some x8_1) else (slices_IndexFunc_Rule.l0 k1 l0 (l0.length : Int) (wrap64 (x8_1 + 1)))) = some r:=H
      have A6:=a1z.mk A60
      clear A60
      by_cases c7 : t102 = true
      ·subst c7
       have H1 : (some x8_1) = some r:=by rw [if_pos rfl] at H;exact H
       clear H
       have H:=H1
       clear H1
       obtain rfl:=Option.some.inj H
       have p101 : 0 ≤ (x8_1 : Int):=of_decide_eq_true (by first|(with_reducible assumption)|assumption)
       have q101 : x8_1 < (l0.length : Int):=of_decide_eq_true (by first|(with_reducible assumption)|assumption)
       obtain ⟨ad101,e101,hx101_0,hx101_1,hx101_2,hx101_3,hx101_4,hx101_5,hx101_6,hx101_7⟩:=at_T39 HR0.1 x8_1 p101 q101
       cases e101
       replace hx101_0:=(HB.1.cell (World.block_lt_of_cell? w _ hx101_0)).trans hx101_0
       replace hx101_1:=(HB.1.cell (World.block_lt_of_cell? w _ hx101_1)).trans hx101_1
       replace hx101_2:=(HB.1.cell (World.block_lt_of_cell? w _ hx101_2)).trans hx101_2
       replace hx101_3:=(HB.1.cell (World.block_lt_of_cell? w _ hx101_3)).trans hx101_3
       replace hx101_4:=(HB.1.cell (World.block_lt_of_cell? w _ hx101_4)).trans hx101_4
       replace hx101_5:=(HB.1.cell (World.block_lt_of_cell? w _ hx101_5)).trans hx101_5
       replace hx101_6:=(HB.1.cell (World.block_lt_of_cell? w _ hx101_6)).trans hx101_6
       replace hx101_7:=(HB.1.cell (World.block_lt_of_cell? w _ hx101_7)).trans hx101_7
       replace p101:=eq_true p101
       replace q101:=eq_true q101
       go_wp2_with (first|(go_at_call 55;(with_reducible refine (impl_RulesOk_1.calls k1 ((a6z l0 x8_1).f0) ((a6z l0 x8_1).f1) ((a6z l0 x8_1).f2.f0) ((a6z l0 x8_1).f2.f1) ((a6z l0 x8_1).f3.f0) ((a6z l0 x8_1).f3.f1) ((a6z l0 x8_1).f4) ((a6z l0 x8_1).f5) true _ A6.1).mono ?_);rintro e w8 ⟨rfl,hb⟩;have n0_:=a1z.mk (b1z (by repeat (first|(with_reducible first|exact HB.1|apply a3z|apply a0z|apply a2z)|exact HB.1)) hb);clear HB;have HB:=n0_;clear n0_;(try clear hb)))
       go_ret
       exact ⟨by first|rfl|(simp [b5z,b4z] <;> rfl)|(simp [*,b5z,b4z] <;> rfl),by repeat (first|(with_reducible first|exact HB.1|apply a3z|apply a0z|apply a2z)|exact HB.1)⟩
      ·replace c7:=Bool.eq_false_iff.mpr c7
       subst c7
       have H1 : (slices_IndexFunc_Rule.l0 k1 l0 (l0.length : Int) (wrap64 (x8_1 + 1))) = some r:=by rw [if_neg (show ¬ (false = true) by decide)] at H;exact H
       clear H
       have H:=H1
       clear H1
       have H':=a1z.mk H
       clear H
       have p101 : 0 ≤ (x8_1 : Int):=of_decide_eq_true (by first|(with_reducible assumption)|assumption)
       have q101 : x8_1 < (l0.length : Int):=of_decide_eq_true (by first|(with_reducible assumption)|assumption)
       obtain ⟨ad101,e101,hx101_0,hx101_1,hx101_2,hx101_3,hx101_4,hx101_5,hx101_6,hx101_7⟩:=at_T39 HR0.1 x8_1 p101 q101
       cases e101
       replace hx101_0:=(HB.1.cell (World.block_lt_of_cell? w _ hx101_0)).trans hx101_0
       replace hx101_1:=(HB.1.cell (World.block_lt_of_cell? w _ hx101_1)).trans hx101_1
       replace hx101_2:=(HB.1.cell (World.block_lt_of_cell? w _ hx101_2)).trans hx101_2
       replace hx101_3:=(HB.1.cell (World.block_lt_of_cell? w _ hx101_3)).trans hx101_3
       replace hx101_4:=(HB.1.cell (World.block_lt_of_cell? w _ hx101_4)).trans hx101_4
       replace hx101_5:=(HB.1.cell (World.block_lt_of_cell? w _ hx101_5)).trans hx101_5
       replace hx101_6:=(HB.1.cell (World.block_lt_of_cell? w _ hx101_6)).trans hx101_6
       replace hx101_7:=(HB.1.cell (World.block_lt_of_cell? w _ hx101_7)).trans hx101_7
       replace p101:=eq_true p101
       replace q101:=eq_true q101
       go_wp2_with (first|(go_at_call 55;(with_reducible refine (impl_RulesOk_1.calls k1 ((a6z l0 x8_1).f0) ((a6z l0 x8_1).f1) ((a6z l0 x8_1).f2.f0) ((a6z l0 x8_1).f2.f1) ((a6z l0 x8_1).f3.f0) ((a6z l0 x8_1).f3.f1) ((a6z l0 x8_1).f4) ((a6z l0 x8_1).f5) false _ A6.1).mono ?_);rintro e w9 ⟨rfl,hb⟩;have n0_:=a1z.mk (b1z (by repeat (first|(with_reducible first|exact HB.1|apply a3z|apply a0z|apply a2z)|exact HB.1)) hb);clear HB;have HB:=n0_;clear n0_;(try clear hb)))
       go_roundg k1
       case measure => have:=HK1.1;omega
       case rel => exact ⟨(wrap64 (x8_1 + 1)),(by first|rfl|(simp;done)|(simp [*];done)),H',⟨by have:=HK1.1;omega⟩,⟨by repeat (first|(with_reducible first|exact HB.1|apply a3z|apply a0z|apply a2z)|exact HB.1)⟩⟩
     ·rw [if_neg c5] at H
      exact absurd H (by simp)
    ·rw [if_neg c4] at H
     exact absurd H (by simp)
   ·rw [if_neg c3] at H
    have c3b0 : decide (x8_1 < (l0.length : Int)) = false:=decide_eq_false c3
    clear c3
    obtain rfl:=Option.some.inj H
    go_wp2
    go_ret
    exact ⟨by first|rfl|(simp [b5z,b4z] <;> rfl)|(simp [*,b5z,b4z] <;> rfl),by repeat (first|(with_reducible first|exact HB.1|apply a3z|apply a0z|apply a2z)|exact HB.1)⟩
def slices_ContainsFunc_Rule.f (k : Nat) (l0 : List (S39))  : Option (Bool):=(slices_IndexFunc_Rule.f k l0).bind fun t101 => (some (decide (t101 ≥ 0)))
set_option maxHeartbeats 8000000 in
set_option maxRecDepth 100000 in
theorem slices_ContainsFunc_Rule.calls (k : Nat) (A0 : Option Addr) (c0 : Nat) (l0 : List (S39))  (r : Bool) (w : World) (hr0 : Kd.C k39 w A0 l0.length l0) (hc0 : l0.length ≤ c0) (h : slices_ContainsFunc_Rule.f k l0 = some r) :
  Calls Tryz.prog 54 #[.slice A0 l0.length c0,.func (.func 55) #[] #[]] w fun e w' => e = .returned (.bool r) ∧ Below w.heap.size w w':=by
 have HR0:=a1z.mk hr0
 have HC0:=a1z.mk hc0
 clear hr0 hc0
 have HB:=a1z.mk (Below.refl w.heap.size w)
 have H : ((slices_IndexFunc_Rule.f k l0).bind fun t101 => (some (decide (t101 ≥ 0)))) = some r:=h
 clear h
 replace H:=Option.bind_eq_some_iff.mp H
 obtain ⟨t101,A30,H⟩:=H
 replace H : (some (decide (t101 ≥ 0))) = some r:=H
 have A3:=a1z.mk A30
 clear A30
 obtain rfl:=Option.some.inj H
 go_enter Tryz.func54,Tryz.ntmps54
 go_wp2_with (first|((with_reducible refine b2z (f:=79) rfl ?_);refine c1z (some 7) rfl rfl Tryz.func79 (by kernel_rfl) rfl #[.slice A0 l0.length c0,.func (.func 55) #[] #[]] rfl (by (try simp only [mA_,mC_,mN_]);first|done|rfl|(simp only [lD_,lT_];rfl)) ?_;(with_reducible refine (slices_IndexFunc_Rule.calls k _ _ l0  t101 _ ?side1 ?side2 A3.1).mono ?_);(case side1 => repeat (first|exact HR0.1|(with_reducible refine Kd.C_alloc ?_ _)|(with_reducible refine Kd.C_drewN ?_ _)|(with_reducible refine Kd.e5z ?_)));(case side2 => exact HC0.1);rintro e w4 ⟨rfl,hb⟩;refine ⟨_,rfl,?_⟩;have n0_:=a1z.mk (b1z (by repeat (first|(with_reducible first|exact HB.1|apply a3z|apply a0z|apply a2z)|exact HB.1)) hb);clear HB;have HB:=n0_;clear n0_;(try clear hb)))
 go_ret
 exact ⟨by first|rfl|(simp [b5z,b4z] <;> rfl)|(simp [*,b5z,b4z] <;> rfl),by repeat (first|(with_reducible first|exact HB.1|apply a3z|apply a0z|apply a2z)|exact HB.1)⟩
def impl_RulesOk.f (k : Nat) (l0 : List (S39)) : Option (Bool):=if (l0.length : Int) ≤ 8 then ((slices_ContainsFunc_Rule.f k l0).bind fun t101 => (some (!t101))) else (some false)
set_option maxHeartbeats 8000000 in
set_option maxRecDepth 100000 in
theorem impl_RulesOk.calls (k : Nat) (A0 : Option Addr) (c0 : Nat) (l0 : List (S39)) (r : Bool) (w : World) (hr0 : Kd.C k39 w A0 l0.length l0) (hc0 : l0.length ≤ c0) (h : impl_RulesOk.f k l0 = some r) :
  Calls Tryz.prog 26 #[.slice A0 l0.length c0] w fun e w' => e = .returned (.bool r) ∧ Below w.heap.size w w':=by
 have HR0:=a1z.mk hr0
 have HC0:=a1z.mk hc0
 clear hr0 hc0
 have HB:=a1z.mk (Below.refl w.heap.size w)
 have H : (if (l0.length : Int) ≤ 8 then ((slices_ContainsFunc_Rule.f k l0).bind fun t101 => (some (!t101))) else (some false)) = some r:=h
 clear h
 by_cases c2 : (l0.length : Int) ≤ 8
 ·rw [if_pos c2] at H
  have c2b0 : decide ((l0.length : Int) ≤ 8) = true:=decide_eq_true c2
  have c2b1 : decide (l0.length ≤ 8) = true:=decide_eq_true (by omega)
  clear c2
  replace H:=Option.bind_eq_some_iff.mp H
  obtain ⟨t101,A30,H⟩:=H
  replace H : (some (!t101)) = some r:=H
  have A3:=a1z.mk A30
  clear A30
  obtain rfl:=Option.some.inj H
  go_enter Tryz.func26,Tryz.ntmps26
  go_wp2_with (first|(go_at_call 54;(with_reducible refine (slices_ContainsFunc_Rule.calls k _ _ l0  t101 _ ?side1 ?side2 A3.1).mono ?_);(case side1 => repeat (first|exact HR0.1|(with_reducible refine Kd.C_alloc ?_ _)|(with_reducible refine Kd.C_drewN ?_ _)|(with_reducible refine Kd.e5z ?_)));(case side2 => exact HC0.1);rintro e w4 ⟨rfl,hb⟩;have n0_:=a1z.mk (b1z (by repeat (first|(with_reducible first|exact HB.1|apply a3z|apply a0z|apply a2z)|exact HB.1)) hb);clear HB;have HB:=n0_;clear n0_;(try clear hb)))
  go_ret
  exact ⟨by first|rfl|(simp [b5z,b4z] <;> rfl)|(simp [*,b5z,b4z] <;> rfl),by repeat (first|(with_reducible first|exact HB.1|apply a3z|apply a0z|apply a2z)|exact HB.1)⟩
 ·rw [if_neg c2] at H
  have c2b0 : decide ((l0.length : Int) ≤ 8) = false:=decide_eq_false c2
  have c2b1 : decide (l0.length ≤ 8) = false:=decide_eq_false (by omega)
  clear c2
  obtain rfl:=Option.some.inj H
  go_enter Tryz.func26,Tryz.ntmps26
  go_wp2
  go_ret
  exact ⟨by first|rfl|(simp [b5z,b4z] <;> rfl)|(simp [*,b5z,b4z] <;> rfl),by repeat (first|(with_reducible first|exact HB.1|apply a3z|apply a0z|apply a2z)|exact HB.1)⟩
def impl_Rule_word.f (a0_0 : Int) (a0_1 : Int) (a0_2 : Int) (a0_3 : Int) (a0_4 : Int) (a0_5 : Int) (a0_6 : Int) (a0_7 : Int) : Option (ByteArray):=if a0_0 = 0 then (some (⟨#[100,114,111,112]⟩ : ByteArray)) else (if a0_0 = 1 then (some (⟨#[112,97,115,115]⟩ : ByteArray)) else ((strconv_Itoa.f a0_1).bind fun t102 => (if 5 + t102.size ≤ 9223372036854775807 then (some ((⟨#[103,117,97,114,100]⟩ : ByteArray) ++ t102)) else (none))))
set_option maxHeartbeats 8000000 in
set_option maxRecDepth 100000 in
theorem impl_Rule_word.calls (a0_0 : Int) (a0_1 : Int) (a0_2 : Int) (a0_3 : Int) (a0_4 : Int) (a0_5 : Int) (a0_6 : Int) (a0_7 : Int) (r : ByteArray) (w : World) (hT : Tb.T1 w) (h : impl_Rule_word.f a0_0 a0_1 a0_2 a0_3 a0_4 a0_5 a0_6 a0_7 = some r) :
  Calls Tryz.prog 30 #[.agg #[.int .i64 a0_0,.int .i64 a0_1,.int .i64 a0_2,.int .i64 a0_3,.int .i64 a0_4,.int .i64 a0_5,.int .i64 a0_6,.int .i64 a0_7]] w fun e w' => e = .returned (.string r) ∧ Below w.heap.size w w':=by
 have hu39:=Tryz.underlying39
 have HT:=a1z.mk hT
 clear hT
 have HB:=a1z.mk (Below.refl w.heap.size w)
 have H : (if a0_0 = 0 then (some (⟨#[100,114,111,112]⟩ : ByteArray)) else (if a0_0 = 1 then (some (⟨#[112,97,115,115]⟩ : ByteArray)) else ((strconv_Itoa.f a0_1).bind fun t102 => (if 5 + t102.size ≤ 9223372036854775807 then (some ((⟨#[103,117,97,114,100]⟩ : ByteArray) ++ t102)) else (none))))) = some r:=h
 clear h
 by_cases c2 : a0_0 = 0
 ·rw [if_pos c2] at H
  have c2b0 : (a0_0 == 0) = true:=beq_iff_eq.mpr c2
  have c2b1 : (a0_0 != 0) = false:=bne_eq_false_iff_eq.mpr c2
  clear c2
  obtain rfl:=Option.some.inj H
  go_enter Tryz.func30,Tryz.ntmps30
  go_wp2_with (first|((with_reducible refine c5z (N:=1) rfl ?_);refine d2z ?hg (N:=1) ?hd (cs:=#[.int .i64 a0_0,.int .i64 a0_1,.int .i64 a0_2,.int .i64 a0_3,.int .i64 a0_4,.int .i64 a0_5,.int .i64 a0_6,.int .i64 a0_7]) (t:=39) ?hr ?_;(case hd => rfl);(case hg => rfl);(case hr => first|(go_simp;done)|(go_simp;rfl));intro gb101 hg w3 hbox hb;have n0_:=a1z.mk (b1z (by repeat (first|(with_reducible first|exact HB.1|apply a3z|apply a0z|apply a2z)|exact HB.1)) hb);have n1_:=a1z.mk (hbox);have n2_:=a1z.mk ((by rw [hg];exact (b8z (by repeat (first|(with_reducible first|exact HB.1|apply a3z|apply a0z|apply a2z)|exact HB.1))) : w.heap.size ≤ gb101));have n3_:=a1z.mk ((by rw [hg];exact (b8z (by repeat (first|(with_reducible first|exact HB.1|apply a3z|apply a0z|apply a2z)|exact HB.1))) : w.heap.size ≤ gb101));clear HB;have HB:=n0_;have BK101:=n1_;have GW101:=n2_;have GE101:=n3_;clear n0_ n1_ n2_ n3_;clear hb hbox hg;have hcz4_0:=c80_ BK101.1;have hcz4_1:=c81_ BK101.1;have hcz4_2:=c82_ BK101.1;have hcz4_3:=c83_ BK101.1;have hcz4_4:=c84_ BK101.1;have hcz4_5:=c85_ BK101.1;have hcz4_6:=c86_ BK101.1;have hcz4_7:=c87_ BK101.1;have hfz4_0:=a4z BK101.1 0;have hfz4_1:=a4z BK101.1 1;have hfz4_2:=a4z BK101.1 2;have hfz4_3:=a4z BK101.1 3;have hfz4_4:=a4z BK101.1 4;have hfz4_5:=a4z BK101.1 5;have hfz4_6:=a4z BK101.1 6;have hfz4_7:=a4z BK101.1 7))
  go_ret
  exact ⟨by first|rfl|(simp [b5z,b4z] <;> rfl)|(simp [*,b5z,b4z] <;> rfl),by repeat (first|(with_reducible first|exact HB.1|apply a3z|apply a0z|apply a2z|refine a5z ?_ GE101.1)|exact HB.1)⟩
 ·rw [if_neg c2] at H
  have c2b0 : (a0_0 == 0) = false:=beq_eq_false_iff_ne.mpr c2
  have c2b1 : (a0_0 != 0) = true:=bne_iff_ne.mpr c2
  by_cases c5 : a0_0 = 1
  ·rw [if_pos c5] at H
   have c5b0 : (a0_0 == 1) = true:=beq_iff_eq.mpr c5
   have c5b1 : (a0_0 != 1) = false:=bne_eq_false_iff_eq.mpr c5
   clear c5
   obtain rfl:=Option.some.inj H
   go_enter Tryz.func30,Tryz.ntmps30
   go_wp2_with (first|((with_reducible refine c5z (N:=1) rfl ?_);refine d2z ?hg (N:=1) ?hd (cs:=#[.int .i64 a0_0,.int .i64 a0_1,.int .i64 a0_2,.int .i64 a0_3,.int .i64 a0_4,.int .i64 a0_5,.int .i64 a0_6,.int .i64 a0_7]) (t:=39) ?hr ?_;(case hd => rfl);(case hg => rfl);(case hr => first|(go_simp;done)|(go_simp;rfl));intro gb101 hg w6 hbox hb;have n0_:=a1z.mk (b1z (by repeat (first|(with_reducible first|exact HB.1|apply a3z|apply a0z|apply a2z)|exact HB.1)) hb);have n1_:=a1z.mk (hbox);have n2_:=a1z.mk ((by rw [hg];exact (b8z (by repeat (first|(with_reducible first|exact HB.1|apply a3z|apply a0z|apply a2z)|exact HB.1))) : w.heap.size ≤ gb101));have n3_:=a1z.mk ((by rw [hg];exact (b8z (by repeat (first|(with_reducible first|exact HB.1|apply a3z|apply a0z|apply a2z)|exact HB.1))) : w.heap.size ≤ gb101));clear HB;have HB:=n0_;have BK101:=n1_;have GW101:=n2_;have GE101:=n3_;clear n0_ n1_ n2_ n3_;clear hb hbox hg;have hcz7_0:=c80_ BK101.1;have hcz7_1:=c81_ BK101.1;have hcz7_2:=c82_ BK101.1;have hcz7_3:=c83_ BK101.1;have hcz7_4:=c84_ BK101.1;have hcz7_5:=c85_ BK101.1;have hcz7_6:=c86_ BK101.1;have hcz7_7:=c87_ BK101.1;have hfz7_0:=a4z BK101.1 0;have hfz7_1:=a4z BK101.1 1;have hfz7_2:=a4z BK101.1 2;have hfz7_3:=a4z BK101.1 3;have hfz7_4:=a4z BK101.1 4;have hfz7_5:=a4z BK101.1 5;have hfz7_6:=a4z BK101.1 6;have hfz7_7:=a4z BK101.1 7))
   go_ret
   exact ⟨by first|rfl|(simp [b5z,b4z] <;> rfl)|(simp [*,b5z,b4z] <;> rfl),by repeat (first|(with_reducible first|exact HB.1|apply a3z|apply a0z|apply a2z|refine a5z ?_ GE101.1)|exact HB.1)⟩
  ·rw [if_neg c5] at H
   have c5b0 : (a0_0 == 1) = false:=beq_eq_false_iff_ne.mpr c5
   have c5b1 : (a0_0 != 1) = true:=bne_iff_ne.mpr c5
   replace H:=Option.bind_eq_some_iff.mp H
   obtain ⟨t102,A80,H⟩:=H
   replace H : (if 5 + t102.size ≤ 9223372036854775807 then (some ((⟨#[103,117,97,114,100]⟩ : ByteArray) ++ t102)) else (none)) = some r:=H
   have A8:=a1z.mk A80
   clear A80
   by_cases c9 : 5 + t102.size ≤ 9223372036854775807
   ·rw [if_pos c9] at H
    have c9b0:=eq_true c9
    have c9b1 : decide (5 + t102.size ≤ 9223372036854775807) = true:=decide_eq_true c9
    (try (have c9b3 : (9223372036854775807 < 5 + t102.size) = False:=eq_false (Nat.not_lt.2 c9);simp only [ByteArray.size_append] at c9b3))
    (try (have c9b4 : (9223372036854775807 < 5 + t102.size) = False:=by (have h_:=eq_false (Nat.not_lt.2 c9);simp only [ByteArray.size_append] at h_;exact h_)))
    try have c9b2 : (9223372036854775807 < 5 + t102.size) = False:=eq_false (Nat.not_lt.2 c9)
    obtain rfl:=Option.some.inj H
    go_enter Tryz.func30,Tryz.ntmps30
    go_wp2_with (first|((with_reducible refine c5z (N:=1) rfl ?_);refine d2z ?hg (N:=1) ?hd (cs:=#[.int .i64 a0_0,.int .i64 a0_1,.int .i64 a0_2,.int .i64 a0_3,.int .i64 a0_4,.int .i64 a0_5,.int .i64 a0_6,.int .i64 a0_7]) (t:=39) ?hr ?_;(case hd => rfl);(case hg => rfl);(case hr => first|(go_simp;done)|(go_simp;rfl));intro gb101 hg w10 hbox hb;have n0_:=a1z.mk (b1z (by repeat (first|(with_reducible first|exact HB.1|apply a3z|apply a0z|apply a2z)|exact HB.1)) hb);have n1_:=a1z.mk (hbox);have n2_:=a1z.mk ((by rw [hg];exact (b8z (by repeat (first|(with_reducible first|exact HB.1|apply a3z|apply a0z|apply a2z)|exact HB.1))) : w.heap.size ≤ gb101));have n3_:=a1z.mk ((by rw [hg];exact (b8z (by repeat (first|(with_reducible first|exact HB.1|apply a3z|apply a0z|apply a2z)|exact HB.1))) : w.heap.size ≤ gb101));clear HB;have HB:=n0_;have BK101:=n1_;have GW101:=n2_;have GE101:=n3_;clear n0_ n1_ n2_ n3_;clear hb hbox hg;have hcz11_0:=c80_ BK101.1;have hcz11_1:=c81_ BK101.1;have hcz11_2:=c82_ BK101.1;have hcz11_3:=c83_ BK101.1;have hcz11_4:=c84_ BK101.1;have hcz11_5:=c85_ BK101.1;have hcz11_6:=c86_ BK101.1;have hcz11_7:=c87_ BK101.1;have hfz11_0:=a4z BK101.1 0;have hfz11_1:=a4z BK101.1 1;have hfz11_2:=a4z BK101.1 2;have hfz11_3:=a4z BK101.1 3;have hfz11_4:=a4z BK101.1 4;have hfz11_5:=a4z BK101.1 5;have hfz11_6:=a4z BK101.1 6;have hfz11_7:=a4z BK101.1 7)|((with_reducible refine b2z (f:=27) rfl ?_);refine c1z (some 11) rfl rfl Tryz.func27 (by kernel_rfl) rfl #[.int .i64 a0_1] rfl (by (try simp only [mA_,mC_,mN_]);first|done|rfl|(simp only [lD_,lT_];rfl)) ?_;(with_reducible refine (strconv_Itoa.calls a0_1 t102 _ ?side1 A8.1).mono ?_);(case side1 => exact (Tb.T1.below HT.out (by repeat (first|(with_reducible first|exact HB.1|apply a3z|apply a0z|apply a2z|refine a5z ?_ GE101.1)|exact HB.1))));rintro e w12 ⟨rfl,hb⟩;refine ⟨_,rfl,?_⟩;have n0_:=a1z.mk (c0z (g:=gb101) (o:=.cells #[.int .i64 a0_0,.int .i64 a0_1,.int .i64 a0_2,.int .i64 a0_3,.int .i64 a0_4,.int .i64 a0_5,.int .i64 a0_6,.int .i64 a0_7] 39 (0,0)) (by (with_reducible repeat (first|refine a8z ?_ _|refine a9z ?_|refine blk_alloc ?_ _));exact BK101.1) hb);have n1_:=a1z.mk (b1z (by repeat (first|(with_reducible first|exact HB.1|apply a3z|apply a0z|apply a2z|refine a5z ?_ GE101.1)|exact HB.1)) hb);clear BK101 HB;have BK101:=n0_;have HB:=n1_;clear n0_ n1_;(try clear hb)))
    go_ret
    exact ⟨by first|rfl|(simp [b5z,b4z] <;> rfl)|(simp [*,b5z,b4z] <;> rfl),by repeat (first|(with_reducible first|exact HB.1|apply a3z|apply a0z|apply a2z|refine a5z ?_ GE101.1)|exact HB.1)⟩
   ·rw [if_neg c9] at H
    exact absurd H (by simp)
end Go.Proofs.YtgbdnbbfgcogjaaGreatDoor.Q

namespace Go.Proofs.YtgbdnbbfgcogjaaGreatDoor.Bd
open Go Go.RowKit Go.Shelf
attribute [local go_sem] Oper.semAt_some
set_option linter.unusedVariables false
set_option linter.unusedSimpArgs false
theorem infoB : (Tryz.prog.info? 54).map (·.size) = some 2:=by kernel_rfl
theorem liesB : liesAt Tryz.prog Tryz.prog.depth 54 (2 / Tryz.prog.cellsOf 54) 0 54 1 = true:=by kernel_rfl
theorem infoU8 : (Tryz.prog.info? 5).map (fun i => (i.zero,i.size,i.bytes)) = some (some (.int .u8 0),1,1):=by kernel_rfl
set_option maxHeartbeats 1000000 in
set_option maxRecDepth 100000 in
/-- copyCheck of a builder that has been written. -/
theorem copy_used (b : Nat) (w : World) (h0 : w.cell? ⟨b,0,none⟩ = some (.pointer (some ⟨b,0,none⟩))) :
  Calls Tryz.prog 58 #[.pointer (some ⟨b,0,none⟩)] w fun e w' => e = .returned (.tuple #[]) ∧ w' = w:=by
 obtain ⟨j,hj,_⟩:=Option.map_eq_some_iff.1 infoB
 go_enter Tryz.func58,Tryz.ntmps58
 go_wp2
 rw [Lib.run_neq_ptr_same w _ Tryz.underlying52 hj]
 go_wp2
 go_end0
 exact ⟨rfl,rfl⟩
set_option maxHeartbeats 1000000 in
set_option maxRecDepth 100000 in
/-- copyCheck of a new builder: it keeps its own address. -/
theorem copy_fresh (b : Nat) (w : World) (h0 : w.cell? ⟨b,0,none⟩ = some (.pointer none)) (hsh : w.shape? b = some (54,2)) (hfz : w.frozen? ⟨b,0,none⟩ = false) :
  Calls Tryz.prog 58 #[.pointer (some ⟨b,0,none⟩)] w fun e w' => e = .returned (.tuple #[]) ∧ w' = w.setCell ⟨b,0,none⟩ (.pointer (some ⟨b,0,none⟩)):=by
 obtain ⟨j,hj,hjs⟩:=Option.map_eq_some_iff.1 infoB
 go_enter Tryz.func58,Tryz.ntmps58
 go_wp2
 rw [Lib.run_to_unsafe w ⟨b,0,none⟩ Tryz.underlying52 Tryz.underlying97 hj (by rw [hjs];decide) hsh (Nat.zero_lt_succ 1)]
 simp only [Result.andThen]
 rw [Oper.upon_value]
 go_wp2
 rw [run_callFunc_extern Tryz.func82 (by kernel_rfl) (by kernel_rfl) (by kernel_rfl) (e:=Extern.AbiNoEscape.same) (by kernel_rfl)]
 rw [Lib.run_noEscape]
 simp only [Result.andThen]
 rw [Oper.upon_value]
 go_wp2
 rw [Lib.run_from_unsafe w ⟨b,0,none⟩ Tryz.underlying97 Tryz.underlying52 hj hsh liesB]
 simp only [Result.andThen]
 rw [Oper.upon_value]
 go_wp2
 go_end0
 exact ⟨rfl,rfl⟩
/-- What a write leaves as it was: the blocks that are neither the builder's nor rows of bytes. -/
def Oth (b : Nat) (w w' : World) : Prop:=∀ k cs T fr,k ≠ b → T ≠ 5 → w.heap[k]? = some (.cells cs T fr) → w'.heap[k]? = some (.cells cs T fr)
theorem Oth.refl (b : Nat) (w : World) : Oth b w w:=fun _ _ _ _ _ _ h => h
theorem Oth.trans {b : Nat} {u v w : World} (h : Oth b u v) (k : Oth b v w) : Oth b u w:=fun i cs T fr hi hT e => k i cs T fr hi hT (h i cs T fr hi hT e)
theorem Oth.set (b o : Nat) (w : World) (x : Value) : Oth b w (w.setCell ⟨b,o,none⟩ x):=fun k cs T fr hk hT e => (Below.heap_setCell _ _ _ k hk).trans e
theorem copy_any (B b : Nat) (bs : List Value) (w : World) (h : Lib.IsBuilder 54 5 B b bs w) :
  Calls Tryz.prog 58 #[.pointer (some ⟨b,0,none⟩)] w fun e w' => e = .returned (.tuple #[]) ∧ (Lib.BuilderAt 54 5 B b (.pointer (some ⟨b,0,none⟩)) bs w' ∧ Below B w w') ∧ Oth b w w':=by
 rcases h with h|h
 ·refine (copy_fresh b w h.cell0 h.shape h.frozen0).mono ?_
  rintro e w' ⟨rfl,rfl⟩
  exact ⟨rfl,⟨h.used _,(Below.refl B w).setCell (p:=⟨b,0,none⟩) h.1 _⟩,Oth.set _ _ _ _⟩
 ·refine (copy_used b w h.cell0).mono ?_
  rintro e w' ⟨rfl,rfl⟩
  exact ⟨rfl,⟨h,Below.refl B _⟩,Oth.refl _ _⟩
set_option maxHeartbeats 2000000 in
set_option maxRecDepth 100000 in
/-- WriteString: the string stands behind what was there. -/
theorem write_calls (B b : Nat) (bs : List Value) (s : ByteArray) (w : World) (h : Lib.IsBuilder 54 5 B b bs w) (hlen : bs.length + s.size ≤ 140737488355328) (hBw : B ≤ w.heap.size) :
  Calls Tryz.prog 28 #[.pointer (some ⟨b,0,none⟩),.string s] w fun e w' => e = .returned (.tuple #[.int .i64 s.size,.nilIface]) ∧ (Lib.BuilderAt 54 5 B b (.pointer (some ⟨b,0,none⟩)) (bs ++ Lib.strCells s) w' ∧ Below B w w') ∧ Oth b w w':=by
 obtain ⟨i0,hi,hz0,hz1,hz2⟩:=info_parts infoU8
 go_enter Tryz.func28,Tryz.ntmps28
 go_wp2_with (go_at_call 58;refine (copy_any B b bs _ h).mono ?_)
 rintro e w1 ⟨rfl,⟨h1,hb1⟩,ho1⟩
 obtain ⟨hB,v,hbk,hown,hne⟩:=h1
 have c0 : w1.cell? ⟨b,0,none⟩ = some (.pointer (some ⟨b,0,none⟩)):=by rw [Lib.cell_of_heap hbk];rfl
 have c1 : w1.cell? ⟨b,1,none⟩ = some v:=by rw [Lib.cell_of_heap hbk];rfl
 go_wp2_with (at_builtin;refine Lib.wpList_append_own_string _ rfl _ _ 28 9 rfl B 5 i0 Tryz.underlying28 Tryz.underlying9 hi hz0 hz1 hz2 _ _ _ rfl hown s rfl ?c3 ?c4 ?c5 ?_)
 case c3 => unfold maxLen;omega
 case c4 => omega
 case c5 => have:=hb1.size;omega
 intro v' w2 hown' hgrow _
 have hlt : b < w1.heap.size:=(Array.getElem?_eq_some_iff.1 hbk).1
 have hb2 : w2.heap[b]? = some (.cells #[.pointer (some ⟨b,0,none⟩),v] 54 (0,0)):=by
  rw [hgrow.block b hlt (fun e => hne e.symm)]
  exact hbk
 have d0 : w2.cell? ⟨b,0,none⟩ = some (.pointer (some ⟨b,0,none⟩)):=by rw [Lib.cell_of_heap hb2];rfl
 have d1 : w2.cell? ⟨b,1,none⟩ = some v:=by rw [Lib.cell_of_heap hb2];rfl
 have f1 : w2.frozen? ⟨b,1,none⟩ = false:=Lib.frozen_of_heap hb2 1
 obtain ⟨ao,n',cap,rfl⟩ : ∃ ao n' cap,v' = .slice ao n' cap:=by
  rcases hown'.2 with ⟨hv,_⟩|⟨g,cap,cur,hv,_⟩
  ·exact ⟨_,_,_,hv⟩
  ·exact ⟨_,_,_,hv⟩
 go_wp2
 go_ret2
 refine ⟨rfl,⟨?_,?_⟩,?_⟩
 ·exact Lib.BuilderAt.put (T:=54) (e:=5) hB hb2 (bs':=bs ++ Lib.strCells s) (by simpa [Lib.strCells_length] using hown') (by decide)
 ·exact (hb1.grown hgrow (by have:=hb1.size;omega) (fun k hk => (hown.lt k hk).1)).setCell (p:=⟨b,1,none⟩) hB _
 ·refine (ho1.trans ?_).trans (Oth.set _ _ _ _)
  intro k cs T fr hk hT e
  refine (hgrow.block k (Array.getElem?_eq_some_iff.1 e).1 ?_).trans e
  intro ek
  rcases hown.2 with ⟨hv,_⟩|⟨g,cap,cur,hv,_,hg,_⟩
  ·rw [hv] at ek
   cases ek
  ·rw [hv] at ek
   cases ek
   rw [hg] at e
   cases e
   exact hT rfl
/-- Block b is a builder that holds the text x. -/
def Is (b : Nat) (x : ByteArray) (w : World) : Prop:=Lib.IsBuilder 54 5 b b (Lib.strCells x) w
theorem Is.fresh (w : World) : Is w.heap.size ⟨#[]⟩ (w.alloc (.cells #[.pointer none,.slice none 0 0] 54)):=Lib.fresh_isBuilder 54 5 w
theorem Is.lt {b : Nat} {x : ByteArray} {w : World} (h : Is b x w) : b < w.heap.size:=by
 rcases h with h|h
 ·exact h.lt
 ·exact h.lt
theorem Is.below {b : Nat} {x : ByteArray} {w w' : World} (h : Is b x w) (hb : Below w.heap.size w w') : Is b x w':=by
 have at_ : ∀ {p},Lib.BuilderAt 54 5 b b p (Lib.strCells x) w → Lib.BuilderAt 54 5 b b p (Lib.strCells x) w':=fun {p} hp => by
  obtain ⟨h0,v,h1,⟨hl,hown⟩,hn⟩:=hp
  refine ⟨h0,v,(hb.block _ (Array.getElem?_eq_some_iff.1 h1).1).trans h1,⟨hl,?_⟩,hn⟩
  rcases hown with hv|⟨g,cap,cur,hv,hg0,hg,hr⟩
  ·exact .inl hv
  ·exact .inr ⟨g,cap,cur,hv,hg0,(hb.block _ (Array.getElem?_eq_some_iff.1 hg).1).trans hg,hr⟩
 rcases h with h|h
 ·exact .inl (at_ h)
 ·exact .inr (at_ h)
/-- What a write makes of the text (a text has at most 2^47 bytes). -/
def writeF (x s : ByteArray) : Option ByteArray:=if x.size + s.size ≤ 140737488355328 then some (x ++ s) else none
theorem write_is {b : Nat} {x s r : ByteArray} {w : World} (h : Is b x w) (hr : writeF x s = some r) :
  Calls Tryz.prog 28 #[.pointer (some ⟨b,0,none⟩),.string s] w fun e w' => (∃ v,e = .returned v) ∧ Is b r w' ∧ Below b w w' ∧ Oth b w w':=by
 unfold writeF at hr
 by_cases hs : x.size + s.size ≤ 140737488355328
 ·rw [if_pos hs] at hr
  cases hr
  refine (write_calls b b _ s w h (by rw [Lib.strCells_length];exact hs) (Nat.le_of_lt h.lt)).mono ?_
  rintro e w' ⟨rfl,⟨h1,h2⟩,h3⟩
  refine ⟨⟨_,rfl⟩,.inr ?_,h2,h3⟩
  have e : Lib.strCells (x ++ s) = Lib.strCells x ++ Lib.strCells s:=by simp [Lib.strCells,ByteArray.data_append]
  rw [e]
  exact h1
 ·rw [if_neg hs] at hr
  cases hr
theorem read_is {b : Nat} {x : ByteArray} {w : World} (h : Is b x w) :
  Calls Tryz.prog 32 #[.pointer (some ⟨b,0,none⟩)] w fun e w' => e = .returned (.string x) ∧ Below b w w' :=
 Tryz.Builder_String_any b b x.data.toList w h (Nat.le_of_lt h.lt)
end Go.Proofs.YtgbdnbbfgcogjaaGreatDoor.Bd
