/- The law FnRulesText (part 4 of 7): for every input the call answers true and its arguments read afterwards as before. No condition beyond the row's own. -/
import Derived.RangeFuncNested
import Derived.RangeFuncBound
import Derived.RangeFuncCalls
import Derived.RangeFuncLeaves
import Derived.RangeFuncBox
import Derived.Shelf.Abstract
import Derived.Shelf.RegionOpen
import Derived.WalkKit
import Derived.OwnWalkIn
import Derived.TacticsInMore
import Derived.LoopNIn
import Derived.LoopIn
import Derived.Maps.AppendAt
import Derived.Test.YtgbdnbbfgcogjaaGreatDoorProg
import Derived.Lib.IndexLaws
import Derived.Lib.AtoiAll
import Derived.ControlIn
import Derived.Lib.Split
import Derived.Lib.SplitLaws
import Derived.Lib.CountLaws
import Derived.Lib.IndexBytes
import Derived.OrdersIn
import Derived.RowKit
import Derived.Laws.BitsLemmas
import Derived.Lib.LazyBuf
import Derived.Lib.ItoaNum
import Derived.Lib.Join
import Derived.Test.YtgbdnbbfgcogjaaGreatDoorCFnRulesText3
namespace Go.Proofs.YtgbdnbbfgcogjaaGreatDoor.Q
open Go.RowKit Go.Proofs.YtgbdnbbfgcogjaaGreatDoorW.PrintWords Go.Proofs.YtgbdnbbfgcogjaaGreatDoorW.PrintLast Go.Proofs.YtgbdnbbfgcogjaaGreatDoorW.PrintMore
attribute [local go_sem] d7z d5z d9z d8z c8z c7z d6z d4z
set_option linter.unusedVariables false
set_option linter.unusedSimpArgs false
def impl_RulesPut.l0 : Nat → ByteArray → List (S39) → Int → Int → Option (ByteArray)
 | 0,_,_,_,_ => none
 | k + 1,x3,x10,x11,x12 => if x12 < x11 then (if 0 ≤ x12 then (if x12 < (x10.length : Int) then ((strconv_Itoa.f ((a6z x10 x12).f4)).bind fun t105 => (if t105.size + 1 ≤ 9223372036854775807 then ((strconv_Itoa.f ((a6z x10 x12).f5)).bind fun t106 => (if (t105 ++ (⟨#[45]⟩ : ByteArray)).size + t106.size ≤ 9223372036854775807 then ((impl_Rule_word.f ((a6z x10 x12).f0) ((a6z x10 x12).f1) ((a6z x10 x12).f2.f0) ((a6z x10 x12).f2.f1) ((a6z x10 x12).f3.f0) ((a6z x10 x12).f3.f1) ((a6z x10 x12).f4) ((a6z x10 x12).f5)).bind fun t107 => ((impl_BlockText.f k ((a6z x10 x12).f2.f0) ((a6z x10 x12).f2.f1)).bind fun t108 => ((impl_BlockText.f k ((a6z x10 x12).f3.f0) ((a6z x10 x12).f3.f1)).bind fun t109 => ((strings_Join.f (([t107,t108,t109,(t105 ++ (⟨#[45]⟩ : ByteArray)) ++ t106] : List ByteArray)) (⟨#[32]⟩ : ByteArray)).bind fun t113 => (if t113.size + 1 ≤ 9223372036854775807 then ((Bd.writeF x3 (t113 ++ (⟨#[10]⟩ : ByteArray))).bind fun t114 => (impl_RulesPut.l0 k t114 x10 x11 (wrap64 (x12 + 1)))) else (none)))))) else (none))) else (none))) else (none)) else (none)) else (some x3)
def impl_RulesPut.f (k : Nat) (l0 : List (S39)) : Option (ByteArray):=(impl_RulesOk.f k l0).bind fun t101 => (if t101 = true then (impl_RulesPut.l0 k (⟨#[]⟩ : ByteArray) l0 (l0.length : Int) 0) else (some (⟨#[]⟩ : ByteArray)))
def impl_RulesPut.T7 : Bool × List (List Nat × List Nat):=(true,[([],[]),([0],[0]),([1],[1]),([2],[2]),([],[]),([4],[4]),([5,2],[5]),([3,6],[3,6]),([7,6,0,1,2,3,4,5,6,7],[7])])
def impl_RulesPut.B7 : List Nat:=[0,1,3,7,0,16,55,127,255]
theorem impl_RulesPut.tab7 : rtab .any (opsOf Tryz.f11 7) = impl_RulesPut.T7:=by kernel_rfl
theorem impl_RulesPut.bits7 : waitsOk impl_RulesPut.T7.2 impl_RulesPut.B7 = true:=by kernel_rfl
def impl_RulesPut.T8 : Bool × List (List Nat × List Nat):=(true,[([],[]),([0],[0]),([],[]),([2],[2]),([3,1],[3]),([],[]),([5],[5]),([6,4],[6]),([],[]),([1,4,7,8],[1,4,7,8]),([9,7],[9]),([10],[10]),([11,10],[11])])
def impl_RulesPut.B8 : List Nat:=[0,1,0,4,15,0,32,127,0,511,1023,2047,4095]
theorem impl_RulesPut.tab8 : rtab .any (opsOf Tryz.f11 8) = impl_RulesPut.T8:=by kernel_rfl
theorem impl_RulesPut.bits8 : waitsOk impl_RulesPut.T8.2 impl_RulesPut.B8 = true:=by kernel_rfl
set_option maxHeartbeats 8000000 in
set_option maxRecDepth 100000 in
theorem impl_RulesPut.calls (k : Nat) (A0 : Option Addr) (c0 : Nat) (l0 : List (S39)) (r : ByteArray) (w : World) (hT : Tb.T1 w) (hr0 : Kd.C k39 w A0 l0.length l0) (hc0 : l0.length ≤ c0) (h : impl_RulesPut.f k l0 = some r) :
  Calls Tryz.prog 11 #[.slice A0 l0.length c0] w fun e w' => e = .returned (.string r) ∧ Below w.heap.size w w':=by
 have hu39:=Tryz.underlying39
 have hu37:=Tryz.underlying37
 have HT:=a1z.mk hT
 clear hT
 have HR0:=a1z.mk hr0
 have HC0:=a1z.mk hc0
 clear hr0 hc0
 have HB:=a1z.mk (Below.refl w.heap.size w)
 have H : ((impl_RulesOk.f k l0).bind fun t101 => (if t101 = true then (impl_RulesPut.l0 k (⟨#[]⟩ : ByteArray) l0 (l0.length : Int) 0) else (some (⟨#[]⟩ : ByteArray)))) = some r:=h
 clear h
 replace H:=Option.bind_eq_some_iff.mp H
 obtain ⟨t101,A20,H⟩:=H
 replace H : (if t101 = true then (impl_RulesPut.l0 k (⟨#[]⟩ : ByteArray) l0 (l0.length : Int) 0) else (some (⟨#[]⟩ : ByteArray))) = some r:=H
 have A2:=a1z.mk A20
 clear A20
 by_cases c3 : t101 = true
 ·subst c3
  have H1 : (impl_RulesPut.l0 k (⟨#[]⟩ : ByteArray) l0 (l0.length : Int) 0) = some r:=by rw [if_pos rfl] at H;exact H
  clear H
  have H:=H1
  clear H1
  have H':=a1z.mk H
  clear H
  go_enter Tryz.func11,Tryz.ntmps11
  go_wp2_with (first|((with_reducible refine b2z (f:=26) rfl ?_);refine c1z (some 8) rfl rfl Tryz.func26 (by kernel_rfl) rfl #[.slice A0 l0.length c0] rfl (by (try simp only [mA_,mC_,mN_]);first|done|rfl|(simp only [lD_,lT_];rfl)) ?_;(with_reducible refine (impl_RulesOk.calls k _ _ l0 true _ ?side1 ?side2 A2.1).mono ?_);(case side1 => repeat (first|exact HR0.1|(with_reducible refine Kd.C_alloc ?_ _)|(with_reducible refine Kd.C_drewN ?_ _)|(with_reducible refine Kd.e5z ?_)));(case side2 => exact HC0.1);rintro e w4 ⟨rfl,hb⟩;refine ⟨_,rfl,?_⟩;have n0_:=a1z.mk (b1z (by repeat (first|(with_reducible first|exact HB.1|apply a3z|apply a0z|apply a2z)|exact HB.1)) hb);clear HB;have HB:=n0_;clear n0_;(try clear hb)))
  have HGB : w.heap.size ≤ w4.heap.size:=b8z (by repeat (first|(with_reducible first|exact HB.1|apply a3z|apply a0z|apply a2z)|exact HB.1))
  go_loopg [12] k (fun kq v12 w' => ∃ (x3_1 : ByteArray) (x12_1 : Int),v12 = .int .i64 x12_1 ∧ a1z (impl_RulesPut.l0 kq x3_1 l0 (l0.length : Int) x12_1 = some r) ∧ a1z (kq ≤ k) ∧ a1z (Below w.heap.size w w') ∧ a1z (Bd.Is w4.heap.size x3_1 w'))
  case atStart => exact ⟨((⟨#[]⟩ : ByteArray)),(0),(by first|rfl|(simp;done)|(simp [*];done)),H',⟨Nat.le_refl _⟩,⟨by repeat (first|(with_reducible first|exact HB.1|apply a3z|apply a0z|apply a2z)|exact HB.1)⟩,⟨Bd.Is.fresh w4⟩⟩
  case round =>
   clear H'
   try clear c1
   try clear c2
   try clear p2
   try clear c3
   clear HB
   obtain ⟨x3_1,x12_1,rfl,HA,HK1,HB0,HBD⟩:=hrel
   cases gk with
   | zero => exact absurd HA.1 (by simp [impl_RulesPut.l0])
   | succ k1 =>
    have H:=HA.1
    clear HA
    simp only [impl_RulesPut.l0] at H
    by_cases c5 : x12_1 < (l0.length : Int)
    ·rw [if_pos c5] at H
     have c5b0 : decide (x12_1 < (l0.length : Int)) = true:=decide_eq_true c5
     clear c5
     by_cases c6 : 0 ≤ x12_1
     ·rw [if_pos c6] at H
      have c6b0 : decide (0 ≤ x12_1) = true:=decide_eq_true c6
      clear c6
      by_cases c7 : x12_1 < (l0.length : Int)
      ·rw [if_pos c7] at H
       have c7b0 : decide (x12_1 < (l0.length : Int)) = true:=decide_eq_true c7
       clear c7
       replace H:=Option.bind_eq_some_iff.mp H
       obtain ⟨t105,A80,H⟩:=H
       replace H : (if t105.size + 1 ≤ 9223372036854775807 then ((strconv_Itoa.f ((a6z l0 x12_1).f5)).bind fun t106 => (if (t105 ++ (⟨#[45]⟩ : ByteArray)).size + t106.size ≤ 9223372036854775807 then ((impl_Rule_word.f ((a6z l0 x12_1).f0) ((a6z l0 x12_1).f1) ((a6z l0 x12_1).f2.f0) ((a6z l0 x12_1).f2.f1) ((a6z l0 x12_1).f3.f0) ((a6z l0 x12_1).f3.f1) ((a6z l0 x12_1).f4) ((a6z l0 x12_1).f5)).bind fun t107 => ((impl_BlockText.f k1 ((a6z l0 x12_1).f2.f0) ((a6z l0 x12_1).f2.f1)).bind fun t108 => ((impl_BlockText.f k1 ((a6z l0 x12_1).f3.f0) ((a6z l0 x12_1).f3.f1)).bind fun t109 => ((strings_Join.f (([t107,t108,t109,(t105 ++ (⟨#[45]⟩ : ByteArray)) ++ t106] : List ByteArray)) (⟨#[32]⟩ : ByteArray)).bind fun t113 => (if t113.size + 1 ≤ 9223372036854775807 then ((Bd.writeF x3_1 (t113 ++ (⟨#[10]⟩ : ByteArray))).bind fun t114 => (impl_RulesPut.l0 k1 t114 l0 (l0.length : Int) (wrap64 (x12_1 + 1)))) else (none)))))) else (none))) else (none)) = some r:=H
       have A8:=a1z.mk A80
       clear A80
       by_cases c9 : t105.size + 1 ≤ 9223372036854775807
       ·rw [if_pos c9] at H
        have c9b0:=eq_true c9
        have c9b1 : decide (t105.size + 1 ≤ 9223372036854775807) = true:=decide_eq_true c9
        (try (have c9b3 : (9223372036854775807 < t105.size + 1) = False:=eq_false (Nat.not_lt.2 c9);simp only [ByteArray.size_append] at c9b3))
        (try (have c9b4 : (9223372036854775807 < t105.size + 1) = False:=by (have h_:=eq_false (Nat.not_lt.2 c9);simp only [ByteArray.size_append] at h_;exact h_)))
        try have c9b2 : (9223372036854775807 < t105.size + 1) = False:=eq_false (Nat.not_lt.2 c9)
        replace H:=Option.bind_eq_some_iff.mp H
        obtain ⟨t106,A100,H⟩:=H
        replace H : (if (t105 ++ (⟨#[45]⟩ : ByteArray)).size + t106.size ≤ 9223372036854775807 then ((impl_Rule_word.f ((a6z l0 x12_1).f0) ((a6z l0 x12_1).f1) ((a6z l0 x12_1).f2.f0) ((a6z l0 x12_1).f2.f1) ((a6z l0 x12_1).f3.f0) ((a6z l0 x12_1).f3.f1) ((a6z l0 x12_1).f4) ((a6z l0 x12_1).f5)).bind fun t107 => ((impl_BlockText.f k1 ((a6z l0 x12_1).f2.f0) ((a6z l0 x12_1).f2.f1)).bind fun t108 => ((impl_BlockText.f k1 ((a6z l0 x12_1).f3.f0) ((a6z l0 x12_1).f3.f1)).bind fun t109 => ((strings_Join.f (([t107,t108,t109,(t105 ++ (⟨#[45]⟩ : ByteArray)) ++ t106] : List ByteArray)) (⟨#[32]⟩ : ByteArray)).bind fun t113 => (if t113.size + 1 ≤ 9223372036854775807 then ((Bd.writeF x3_1 (t113 ++ (⟨#[10]⟩ : ByteArray))).bind fun t114 => (impl_RulesPut.l0 k1 t114 l0 (l0.length : Int) (wrap64 (x12_1 + 1)))) else (none)))))) else (none)) = some r:=H
        have A10:=a1z.mk A100
        clear A100
        by_cases c11 : (t105 ++ (⟨#[45]⟩ : ByteArray)).size + t106.size ≤ 9223372036854775807
        ·rw [if_pos c11] at H
         have c11b0:=eq_true c11
         have c11b1 : decide ((t105 ++ (⟨#[45]⟩ : ByteArray)).size + t106.size ≤ 9223372036854775807) = true:=decide_eq_true c11
         (try (have c11b3 : (9223372036854775807 < (t105 ++ (⟨#[45]⟩ : ByteArray)).size + t106.size) = False:=eq_false (Nat.not_lt.2 c11);simp only [ByteArray.size_append] at c11b3))
         (try (have c11b4 : (9223372036854775807 < t105.size + 1 + t106.size) = False:=by (have h_:=eq_false (Nat.not_lt.2 c11);simp only [ByteArray.size_append] at h_;exact h_)))
         try have c11b2 : (9223372036854775807 < (t105 ++ (⟨#[45]⟩ : ByteArray)).size + t106.size) = False:=eq_false (Nat.not_lt.2 c11)
         replace H:=Option.bind_eq_some_iff.mp H
         obtain ⟨t107,A120,H⟩:=H
         replace H : ((impl_BlockText.f k1 ((a6z l0 x12_1).f2.f0) ((a6z l0 x12_1).f2.f1)).bind fun t108 => ((impl_BlockText.f k1 ((a6z l0 x12_1).f3.f0) ((a6z l0 x12_1).f3.f1)).bind fun t109 => ((strings_Join.f (([t107,t108,t109,(t105 ++ (⟨#[45]⟩ : ByteArray)) ++ t106] : List ByteArray)) (⟨#[32]⟩ : ByteArray)).bind fun t113 => (if t113.size + 1 ≤ 9223372036854775807 then ((Bd.writeF x3_1 (t113 ++ (⟨#[10]⟩ : ByteArray))).bind fun t114 => (impl_RulesPut.l0 k1 t114 l0 (l0.length : Int) (wrap64 (x12_1 + 1)))) else (none))))) = some r:=H
         have A12:=a1z.mk A120
         clear A120
         replace H:=Option.bind_eq_some_iff.mp H
         obtain ⟨t108,A130,H⟩:=H
         replace H : ((impl_BlockText.f k1 ((a6z l0 x12_1).f3.f0) ((a6z l0 x12_1).f3.f1)).bind fun t109 => ((strings_Join.f (([t107,t108,t109,(t105 ++ (⟨#[45]⟩ : ByteArray)) ++ t106] : List ByteArray)) (⟨#[32]⟩ : ByteArray)).bind fun t113 => (if t113.size + 1 ≤ 9223372036854775807 then ((Bd.writeF x3_1 (t113 ++ (⟨#[10]⟩ : ByteArray))).bind fun t114 => (impl_RulesPut.l0 k1 t114 l0 (l0.length : Int) (wrap64 (x12_1 + 1)))) else (none)))) = some r:=H
         have A13:=a1z.mk A130
         clear A130
         replace H:=Option.bind_eq_some_iff.mp H
         obtain ⟨t109,A140,H⟩:=H
         replace H : ((strings_Join.f (([t107,t108,t109,(t105 ++ (⟨#[45]⟩ : ByteArray)) ++ t106] : List ByteArray)) (⟨#[32]⟩ : ByteArray)).bind fun t113 => (if t113.size + 1 ≤ 9223372036854775807 then ((Bd.writeF x3_1 (t113 ++ (⟨#[10]⟩ : ByteArray))).bind fun t114 => (impl_RulesPut.l0 k1 t114 l0 (l0.length : Int) (wrap64 (x12_1 + 1)))) else (none))) = some r:=H
         have A14:=a1z.mk A140
         clear A140
         obtain ⟨y110,hy110⟩ : ∃ y_ : List ByteArray,y_ = (([t107,t108,t109,(t105 ++ (⟨#[45]⟩ : ByteArray)) ++ t106] : List ByteArray)):=⟨_,rfl⟩
         replace H : ((strings_Join.f y110 (⟨#[32]⟩ : ByteArray)).bind fun t113 => (if t113.size + 1 ≤ 9223372036854775807 then ((Bd.writeF x3_1 (t113 ++ (⟨#[10]⟩ : ByteArray))).bind fun t114 => (impl_RulesPut.l0 k1 t114 l0 (l0.length : Int) (wrap64 (x12_1 + 1)))) else (none))) = some r:=by first|(rw [hy110];with_reducible exact H)|(have H2_:=(Option.bind_some _ _).symm.trans H;rw [hy110];with_reducible exact H2_)|(have H2_:=(Option.bind_some _ _).symm.trans H;with_reducible exact H2_)|with_reducible exact H|(rw [hy110];exact H)|exact H
         have Ny110:=a1z.mk hy110
         clear hy110
         replace H:=Option.bind_eq_some_iff.mp H
         obtain ⟨t113,A150,H⟩:=H
         replace H : (if t113.size + 1 ≤ 9223372036854775807 then ((Bd.writeF x3_1 (t113 ++ (⟨#[10]⟩ : ByteArray))).bind fun t114 => (impl_RulesPut.l0 k1 t114 l0 (l0.length : Int) (wrap64 (x12_1 + 1)))) else (none)) = some r:=H
         have A15:=a1z.mk A150
         clear A150
         by_cases c16 : t113.size + 1 ≤ 9223372036854775807
         ·rw [if_pos c16] at H
          have c16b0:=eq_true c16
          have c16b1 : decide (t113.size + 1 ≤ 9223372036854775807) = true:=decide_eq_true c16
          (try (have c16b3 : (9223372036854775807 < t113.size + 1) = False:=eq_false (Nat.not_lt.2 c16);simp only [ByteArray.size_append] at c16b3))
          (try (have c16b4 : (9223372036854775807 < t113.size + 1) = False:=by (have h_:=eq_false (Nat.not_lt.2 c16);simp only [ByteArray.size_append] at h_;exact h_)))
          try have c16b2 : (9223372036854775807 < t113.size + 1) = False:=eq_false (Nat.not_lt.2 c16)
          replace H:=Option.bind_eq_some_iff.mp H
          obtain ⟨t114,A170,H⟩:=H
          replace H : (impl_RulesPut.l0 k1 t114 l0 (l0.length : Int) (wrap64 (x12_1 + 1))) = some r:=H
          have A17:=a1z.mk A170
          clear A170
          have H':=a1z.mk H
          clear H
          have p103 : 0 ≤ (x12_1 : Int):=of_decide_eq_true (by first|(with_reducible assumption)|assumption)
          have q103 : x12_1 < (l0.length : Int):=of_decide_eq_true (by first|(with_reducible assumption)|assumption)
          obtain ⟨ad103,e103,hx103_0,hx103_1,hx103_2,hx103_3,hx103_4,hx103_5,hx103_6,hx103_7⟩:=at_T39 HR0.1 x12_1 p103 q103
          cases e103
          replace hx103_0:=(HB0.1.cell (World.block_lt_of_cell? w _ hx103_0)).trans hx103_0
          replace hx103_1:=(HB0.1.cell (World.block_lt_of_cell? w _ hx103_1)).trans hx103_1
          replace hx103_2:=(HB0.1.cell (World.block_lt_of_cell? w _ hx103_2)).trans hx103_2
          replace hx103_3:=(HB0.1.cell (World.block_lt_of_cell? w _ hx103_3)).trans hx103_3
          replace hx103_4:=(HB0.1.cell (World.block_lt_of_cell? w _ hx103_4)).trans hx103_4
          replace hx103_5:=(HB0.1.cell (World.block_lt_of_cell? w _ hx103_5)).trans hx103_5
          replace hx103_6:=(HB0.1.cell (World.block_lt_of_cell? w _ hx103_6)).trans hx103_6
          replace hx103_7:=(HB0.1.cell (World.block_lt_of_cell? w _ hx103_7)).trans hx103_7
          have HB:=a1z.mk (Below.refl wr.heap.size wr)
          have HT0:=HT
          clear HT
          have HT:=a1z.mk (Tb.T1.below HT0.out HB0.1)
          clear HT0
          replace p103:=eq_true p103
          replace q103:=eq_true q103
          try go_wp2_with (first|((with_reducible refine c5z (N:=5) rfl ?_);refine d2z ?hg (N:=5) ?hd (cs:=#[.int .i64 0,.int .i64 0,.int .i64 0,.int .i64 0,.int .i64 0,.int .i64 0,.int .i64 0,.int .i64 0]) (t:=39) ?hr ?_;(case hd => rfl);(case hg => rfl);(case hr => first|(go_simp;done)|(go_simp;rfl));intro gb104 hg w18 hbox hb;have n0_:=a1z.mk (b1z (by repeat (first|(with_reducible first|exact HB.1|apply a3z|apply a0z|apply a2z)|exact HB.1)) hb);have n1_:=a1z.mk (hbox);have n2_:=a1z.mk ((by rw [hg];exact (b8z (by repeat (first|(with_reducible first|exact HB.1|apply a3z|apply a0z|apply a2z)|exact HB.1))) : wr.heap.size ≤ gb104));have n3_:=a1z.mk ((by rw [hg];exact (b8z (by repeat (first|(with_reducible first|exact HB.1|apply a3z|apply a0z|apply a2z)|exact HB.1))) : wr.heap.size ≤ gb104));clear HB;have HB:=n0_;have BK104:=n1_;have GW104:=n2_;have GE104:=n3_;clear n0_ n1_ n2_ n3_;clear hb hbox hg;have hcz19_0:=c80_ BK104.1;have hcz19_1:=c81_ BK104.1;have hcz19_2:=c82_ BK104.1;have hcz19_3:=c83_ BK104.1;have hcz19_4:=c84_ BK104.1;have hcz19_5:=c85_ BK104.1;have hcz19_6:=c86_ BK104.1;have hcz19_7:=c87_ BK104.1;have hfz19_0:=a4z BK104.1 0;have hfz19_1:=a4z BK104.1 1;have hfz19_2:=a4z BK104.1 2;have hfz19_3:=a4z BK104.1 3;have hfz19_4:=a4z BK104.1 4;have hfz19_5:=a4z BK104.1 5;have hfz19_6:=a4z BK104.1 6;have hfz19_7:=a4z BK104.1 7))
          have n0_ : a1z (((((((((w18.setCell ⟨gb104,0,none⟩ (.int .i64 ((a6z l0 x12_1).f0))).setCell ⟨gb104,1,none⟩ (.int .i64 ((a6z l0 x12_1).f1))).setCell ⟨gb104,2,none⟩ (.int .i64 ((a6z l0 x12_1).f2.f0))).setCell ⟨gb104,3,none⟩ (.int .i64 ((a6z l0 x12_1).f2.f1))).setCell ⟨gb104,4,none⟩ (.int .i64 ((a6z l0 x12_1).f3.f0))).setCell ⟨gb104,5,none⟩ (.int .i64 ((a6z l0 x12_1).f3.f1))).setCell ⟨gb104,6,none⟩ (.int .i64 ((a6z l0 x12_1).f4))).setCell ⟨gb104,7,none⟩ (.int .i64 ((a6z l0 x12_1).f5))).heap[gb104]? = some (.cells #[.int .i64 ((a6z l0 x12_1).f0),.int .i64 ((a6z l0 x12_1).f1),.int .i64 ((a6z l0 x12_1).f2.f0),.int .i64 ((a6z l0 x12_1).f2.f1),.int .i64 ((a6z l0 x12_1).f3.f0),.int .i64 ((a6z l0 x12_1).f3.f1),.int .i64 ((a6z l0 x12_1).f4),.int .i64 ((a6z l0 x12_1).f5)] 39 (0,0))):=⟨by (with_reducible repeat (first|refine a8z ?_ _|refine a9z ?_|refine blk_alloc ?_ _));refine p8_ ?_;(with_reducible repeat (first|refine a8z ?_ _|refine a9z ?_|refine blk_alloc ?_ _));exact BK104.1⟩
          have n1_ : a1z (Below wr.heap.size wr ((((((((w18.setCell ⟨gb104,0,none⟩ (.int .i64 ((a6z l0 x12_1).f0))).setCell ⟨gb104,1,none⟩ (.int .i64 ((a6z l0 x12_1).f1))).setCell ⟨gb104,2,none⟩ (.int .i64 ((a6z l0 x12_1).f2.f0))).setCell ⟨gb104,3,none⟩ (.int .i64 ((a6z l0 x12_1).f2.f1))).setCell ⟨gb104,4,none⟩ (.int .i64 ((a6z l0 x12_1).f3.f0))).setCell ⟨gb104,5,none⟩ (.int .i64 ((a6z l0 x12_1).f3.f1))).setCell ⟨gb104,6,none⟩ (.int .i64 ((a6z l0 x12_1).f4))).setCell ⟨gb104,7,none⟩ (.int .i64 ((a6z l0 x12_1).f5)))):=⟨by repeat (first|(with_reducible first|exact HB.1|apply a3z|apply a0z|apply a2z|refine a5z ?_ GE104.1)|exact HB.1)⟩
          (try clear BK104)
          (try clear HB)
          generalize ((((((((w18.setCell ⟨gb104,0,none⟩ (.int .i64 ((a6z l0 x12_1).f0))).setCell ⟨gb104,1,none⟩ (.int .i64 ((a6z l0 x12_1).f1))).setCell ⟨gb104,2,none⟩ (.int .i64 ((a6z l0 x12_1).f2.f0))).setCell ⟨gb104,3,none⟩ (.int .i64 ((a6z l0 x12_1).f2.f1))).setCell ⟨gb104,4,none⟩ (.int .i64 ((a6z l0 x12_1).f3.f0))).setCell ⟨gb104,5,none⟩ (.int .i64 ((a6z l0 x12_1).f3.f1))).setCell ⟨gb104,6,none⟩ (.int .i64 ((a6z l0 x12_1).f4))).setCell ⟨gb104,7,none⟩ (.int .i64 ((a6z l0 x12_1).f5))) = w20 at n0_ n1_ ⊢
          have BK104:=n0_
          have HB:=n1_
          clear n0_ n1_
          have n0_:=a1z.mk (a9z BK104.1)
          have n1_:=a1z.mk (a2z HB.1)
          clear BK104 HB
          have BK104:=n0_
          have HB:=n1_
          clear n0_ n1_
          refine h6z (n:=9) (S:=fun w' => w'.cell? ⟨gb104,0,none⟩ = some (.int .i64 ((a6z l0 x12_1).f0)) ∧ w'.cell? ⟨gb104,1,none⟩ = some (.int .i64 ((a6z l0 x12_1).f1)) ∧ w'.cell? ⟨gb104,2,none⟩ = some (.int .i64 ((a6z l0 x12_1).f2.f0)) ∧ w'.cell? ⟨gb104,3,none⟩ = some (.int .i64 ((a6z l0 x12_1).f2.f1)) ∧ w'.cell? ⟨gb104,4,none⟩ = some (.int .i64 ((a6z l0 x12_1).f3.f0)) ∧ w'.cell? ⟨gb104,5,none⟩ = some (.int .i64 ((a6z l0 x12_1).f3.f1)) ∧ w'.cell? ⟨gb104,6,none⟩ = some (.int .i64 ((a6z l0 x12_1).f4)) ∧ w'.cell? ⟨gb104,7,none⟩ = some (.int .i64 ((a6z l0 x12_1).f5))) (ds:=[]) #[false,false,false,false,false,false,false,false,false] (by kernel_rfl) rfl rfl ⟨(b7z BK104.1 0).trans rfl,(b7z BK104.1 1).trans rfl,(b7z BK104.1 2).trans rfl,(b7z BK104.1 3).trans rfl,(b7z BK104.1 4).trans rfl,(b7z BK104.1 5).trans rfl,(b7z BK104.1 6).trans rfl,(b7z BK104.1 7).trans rfl⟩ (fun hHeld => ?_);refine g0z impl_RulesPut.tab7 impl_RulesPut.bits7 (fun HT_ HW_ => ?_)
          generalize w20.drew = w21 at BK104 HB hHeld ⊢
          refine pure_ (i:=0) (N:=some 16) (v:=?_) (a':=?_) #[true,false,false,false,false,false,false,false,false] rfl rfl (d1z HT_.1 (by kernel_rfl)) (fun _ _ _ h => h) (Or.inl ⟨by rfl,?_⟩) ?_ ?_
          rotate_left
          ·intro w'
           go_simp
           with_reducible rfl
          rotate_left
          ·simp only [Act.put,sA_,sZ_,sS_,i64_w,i32_w]
           rfl
          refine pure_ (i:=4) (N:=some 20) (v:=?_) (a':=?_) #[true,false,false,false,true,false,false,false,false] rfl rfl (d1z HT_.1 (by kernel_rfl)) (fun _ _ _ h => h) (Or.inl ⟨by rfl,?_⟩) ?_ ?_
          rotate_left
          ·intro w'
           go_simp
           with_reducible rfl
          rotate_left
          ·simp only [Act.put,sA_,sZ_,sS_,i64_w,i32_w]
           rfl
          refine take_ (i:=1) (N:=some 17) (v:=?_) (a':=?_) #[true,true,false,false,true,false,false,false,false] rfl rfl (f0z HT_.1 HW_.1 (by kernel_rfl)) (fun _ _ _ h => h) (Or.inl ⟨by rfl,?_⟩) hHeld ?_ ?_
          rotate_left
          ·rintro w' ⟨s0,s1,s2,s3,s4,s5,s6,s7⟩
           go_simp
           with_reducible rfl
          rotate_left
          ·simp only [Act.put,sA_,sZ_,sS_,i64_w,i32_w]
           rfl
          refine take_ (i:=5) (N:=some 21) (v:=?_) (a':=?_) #[true,true,false,false,true,true,false,false,false] rfl rfl (f0z HT_.1 HW_.1 (by kernel_rfl)) (fun _ _ _ h => h) (Or.inl ⟨by rfl,?_⟩) hHeld ?_ ?_
          rotate_left
          ·rintro w' ⟨s0,s1,s2,s3,s4,s5,s6,s7⟩
           go_simp
           with_reducible rfl
          rotate_left
          ·simp only [Act.put,sA_,sZ_,sS_,i64_w,i32_w]
           rfl
          refine one_ (i:=2) (N:=some 18) #[true,true,true,false,true,true,false,false,false] rfl rfl (e8z HT_.1 (by kernel_rfl)) (by decide) (fun K hK => ?_)
          refine goes_ Tryz.func27 (by kernel_rfl) rfl #[.int .i64 ((a6z l0 x12_1).f4)] (by rfl) rfl rfl (by (try simp only [mA_,mC_,mN_]);first|done|rfl|(simp only [lD_,lT_];rfl)) ?_
          with_reducible refine (strconv_Itoa.calls ((a6z l0 x12_1).f4) t105 _ ?side1 A8.1).mono ?_
          (case side1 => exact (Tb.T1.below HT.out (by repeat (first|(with_reducible first|exact HB.1|apply a3z|apply a0z|apply a2z|refine a5z ?_ GE104.1)|exact HB.1))))
          rintro e w22 ⟨rfl,hb⟩
          refine ⟨_,rfl,?_⟩
          have n0_:=a1z.mk (c0z (g:=gb104) (o:=.cells #[.int .i64 ((a6z l0 x12_1).f0),.int .i64 ((a6z l0 x12_1).f1),.int .i64 ((a6z l0 x12_1).f2.f0),.int .i64 ((a6z l0 x12_1).f2.f1),.int .i64 ((a6z l0 x12_1).f3.f0),.int .i64 ((a6z l0 x12_1).f3.f1),.int .i64 ((a6z l0 x12_1).f4),.int .i64 ((a6z l0 x12_1).f5)] 39 (0,0)) (by (with_reducible repeat (first|refine a8z ?_ _|refine a9z ?_|refine blk_alloc ?_ _));exact BK104.1) hb)
          have n1_:=a1z.mk (b1z (by repeat (first|(with_reducible first|exact HB.1|apply a3z|apply a0z|apply a2z|refine a5z ?_ GE104.1)|exact HB.1)) hb)
          clear BK104 HB
          have BK104:=n0_
          have HB:=n1_
          clear n0_ n1_
          (try clear hb)
          (try clear hb2)
          (try clear hk)
          (try clear hi)
          refine hK.out _ _ ⟨(b7z BK104.1 0).trans rfl,(b7z BK104.1 1).trans rfl,(b7z BK104.1 2).trans rfl,(b7z BK104.1 3).trans rfl,(b7z BK104.1 4).trans rfl,(b7z BK104.1 5).trans rfl,(b7z BK104.1 6).trans rfl,(b7z BK104.1 7).trans rfl⟩ (fun hHeld => ?_)
          clear hK K
          refine norm_ (a':=?_) ?_ ?_
          rotate_left
          ·show Act.put _ (some 18) _ = _
           simp only [Act.put,sA_,sZ_,sS_,i64_w,i32_w]
           rfl
          refine pure_ (i:=3) (N:=some 19) (v:=?_) (a':=?_) #[true,true,true,true,true,true,false,false,false] rfl rfl (d1z HT_.1 (by kernel_rfl)) (fun _ _ _ h => h) (Or.inl ⟨by rfl,?_⟩) ?_ ?_
          rotate_left
          ·intro w'
           go_simp
           with_reducible rfl
          rotate_left
          ·simp only [Act.put,sA_,sZ_,sS_,i64_w,i32_w]
           rfl
          refine one_ (i:=6) (N:=some 22) #[true,true,true,true,true,true,true,false,false] rfl rfl (e8z HT_.1 (by kernel_rfl)) (by decide) (fun K hK => ?_)
          refine goes_ Tryz.func27 (by kernel_rfl) rfl #[.int .i64 ((a6z l0 x12_1).f5)] (by rfl) rfl rfl (by (try simp only [mA_,mC_,mN_]);first|done|rfl|(simp only [lD_,lT_];rfl)) ?_
          with_reducible refine (strconv_Itoa.calls ((a6z l0 x12_1).f5) t106 _ ?side1 A10.1).mono ?_
          (case side1 => exact (Tb.T1.below HT.out (by repeat (first|(with_reducible first|exact HB.1|apply a3z|apply a0z|apply a2z|refine a5z ?_ GE104.1)|exact HB.1))))
          rintro e w23 ⟨rfl,hb⟩
          refine ⟨_,rfl,?_⟩
          have n0_:=a1z.mk (c0z (g:=gb104) (o:=.cells #[.int .i64 ((a6z l0 x12_1).f0),.int .i64 ((a6z l0 x12_1).f1),.int .i64 ((a6z l0 x12_1).f2.f0),.int .i64 ((a6z l0 x12_1).f2.f1),.int .i64 ((a6z l0 x12_1).f3.f0),.int .i64 ((a6z l0 x12_1).f3.f1),.int .i64 ((a6z l0 x12_1).f4),.int .i64 ((a6z l0 x12_1).f5)] 39 (0,0)) (by (with_reducible repeat (first|refine a8z ?_ _|refine a9z ?_|refine blk_alloc ?_ _));exact BK104.1) hb)
          have n1_:=a1z.mk (b1z (by repeat (first|(with_reducible first|exact HB.1|apply a3z|apply a0z|apply a2z|refine a5z ?_ GE104.1)|exact HB.1)) hb)
          clear BK104 HB
          have BK104:=n0_
          have HB:=n1_
          clear n0_ n1_
          (try clear hb)
          (try clear hb2)
          (try clear hk)
          (try clear hi)
          refine hK.out _ _ ⟨(b7z BK104.1 0).trans rfl,(b7z BK104.1 1).trans rfl,(b7z BK104.1 2).trans rfl,(b7z BK104.1 3).trans rfl,(b7z BK104.1 4).trans rfl,(b7z BK104.1 5).trans rfl,(b7z BK104.1 6).trans rfl,(b7z BK104.1 7).trans rfl⟩ (fun hHeld => ?_)
          clear hK K
          refine norm_ (a':=?_) ?_ ?_
          rotate_left
          ·show Act.put _ (some 22) _ = _
           simp only [Act.put,sA_,sZ_,sS_,i64_w,i32_w]
           rfl
          refine pure_ (i:=7) (N:=some 23) (v:=?_) (a':=?_) #[true,true,true,true,true,true,true,true,false] rfl rfl (d1z HT_.1 (by kernel_rfl)) (fun _ _ _ h => h) (Or.inl ⟨by rfl,?_⟩) ?_ ?_
          rotate_left
          ·intro w'
           go_simp
           with_reducible rfl
          rotate_left
          ·simp only [Act.put,sA_,sZ_,sS_,i64_w,i32_w]
           rfl
          refine pure_ (i:=8) (N:=some 6) (v:=?_) (a':=?_) #[true,true,true,true,true,true,true,true,true] rfl rfl (d1z HT_.1 (by kernel_rfl)) (fun _ _ _ h => h) (Or.inl ⟨by rfl,?_⟩) ?_ ?_
          rotate_left
          ·intro w'
           go_simp
           with_reducible rfl
          rotate_left
          ·simp only [Act.put,sA_,sZ_,sS_,i64_w,i32_w]
           rfl
          refine done_ (g8z HT_.1 (by kernel_rfl)) ?_
          try go_wp2
          have n0_:=a1z.mk (a9z BK104.1)
          have n1_:=a1z.mk (a2z HB.1)
          clear BK104 HB
          have BK104:=n0_
          have HB:=n1_
          clear n0_ n1_
          refine h6z (n:=13) (S:=fun w' => w'.cell? ⟨gb104,0,none⟩ = some (.int .i64 ((a6z l0 x12_1).f0)) ∧ w'.cell? ⟨gb104,1,none⟩ = some (.int .i64 ((a6z l0 x12_1).f1)) ∧ w'.cell? ⟨gb104,2,none⟩ = some (.int .i64 ((a6z l0 x12_1).f2.f0)) ∧ w'.cell? ⟨gb104,3,none⟩ = some (.int .i64 ((a6z l0 x12_1).f2.f1)) ∧ w'.cell? ⟨gb104,4,none⟩ = some (.int .i64 ((a6z l0 x12_1).f3.f0)) ∧ w'.cell? ⟨gb104,5,none⟩ = some (.int .i64 ((a6z l0 x12_1).f3.f1)) ∧ w'.cell? ⟨gb104,6,none⟩ = some (.int .i64 ((a6z l0 x12_1).f4)) ∧ w'.cell? ⟨gb104,7,none⟩ = some (.int .i64 ((a6z l0 x12_1).f5))) (ds:=[]) #[false,false,false,false,false,false,false,false,false,false,false,false,false] (by kernel_rfl) rfl rfl ⟨(b7z BK104.1 0).trans rfl,(b7z BK104.1 1).trans rfl,(b7z BK104.1 2).trans rfl,(b7z BK104.1 3).trans rfl,(b7z BK104.1 4).trans rfl,(b7z BK104.1 5).trans rfl,(b7z BK104.1 6).trans rfl,(b7z BK104.1 7).trans rfl⟩ (fun hHeld => ?_);refine g0z impl_RulesPut.tab8 impl_RulesPut.bits8 (fun HT_ HW_ => ?_)
          generalize w23.drew = w24 at BK104 HB hHeld ⊢
          refine pure_ (i:=2) (N:=some 26) (v:=?_) (a':=?_) #[false,false,true,false,false,false,false,false,false,false,false,false,false] rfl rfl (d1z HT_.1 (by kernel_rfl)) (fun _ _ _ h => h) (Or.inl ⟨by rfl,?_⟩) ?_ ?_
          rotate_left
          ·intro w'
           go_simp
           with_reducible rfl
          rotate_left
          ·simp only [Act.put,sA_,sZ_,sS_,i64_w,i32_w]
           rfl
          refine pure_ (i:=5) (N:=some 29) (v:=?_) (a':=?_) #[false,false,true,false,false,true,false,false,false,false,false,false,false] rfl rfl (d1z HT_.1 (by kernel_rfl)) (fun _ _ _ h => h) (Or.inl ⟨by rfl,?_⟩) ?_ ?_
          rotate_left
          ·intro w'
           go_simp
           with_reducible rfl
          rotate_left
          ·simp only [Act.put,sA_,sZ_,sS_,i64_w,i32_w]
           rfl
          refine pure_ (i:=8) (N:=some 32) (v:=?_) (a':=?_) #[false,false,true,false,false,true,false,false,true,false,false,false,false] rfl rfl (d1z HT_.1 (by kernel_rfl)) (fun _ _ _ h => h) (Or.inl ⟨by rfl,?_⟩) ?_ ?_
          rotate_left
          ·intro w'
           go_simp
           with_reducible rfl
          rotate_left
          ·simp only [Act.put,sA_,sZ_,sS_,i64_w,i32_w]
           rfl
          refine take_ (i:=0) (N:=some 24) (v:=?_) (a':=?_) #[true,false,true,false,false,true,false,false,true,false,false,false,false] rfl rfl (f0z HT_.1 HW_.1 (by kernel_rfl)) (fun _ _ _ h => h) (Or.inl ⟨by rfl,?_⟩) hHeld ?_ ?_
          rotate_left
          ·rintro w' ⟨s0,s1,s2,s3,s4,s5,s6,s7⟩
           go_simp
           with_reducible rfl
          rotate_left
          ·simp only [Act.put,sA_,sZ_,sS_,i64_w,i32_w]
           rfl
          refine take_ (i:=3) (N:=some 27) (v:=?_) (a':=?_) #[true,false,true,true,false,true,false,false,true,false,false,false,false] rfl rfl (f0z HT_.1 HW_.1 (by kernel_rfl)) (fun _ _ _ h => h) (Or.inl ⟨by rfl,?_⟩) hHeld ?_ ?_
          rotate_left
          ·rintro w' ⟨s0,s1,s2,s3,s4,s5,s6,s7⟩
           go_simp
           with_reducible rfl
          rotate_left
          ·simp only [Act.put,sA_,sZ_,sS_,i64_w,i32_w]
           rfl
          refine take_ (i:=6) (N:=some 30) (v:=?_) (a':=?_) #[true,false,true,true,false,true,true,false,true,false,false,false,false] rfl rfl (f0z HT_.1 HW_.1 (by kernel_rfl)) (fun _ _ _ h => h) (Or.inl ⟨by rfl,?_⟩) hHeld ?_ ?_
          rotate_left
          ·rintro w' ⟨s0,s1,s2,s3,s4,s5,s6,s7⟩
           go_simp
           with_reducible rfl
          rotate_left
          ·simp only [Act.put,sA_,sZ_,sS_,i64_w,i32_w]
           rfl
          refine one_ (i:=1) (N:=some 25) #[true,true,true,true,false,true,true,false,true,false,false,false,false] rfl rfl (e8z HT_.1 (by kernel_rfl)) (by decide) (fun K hK => ?_)
          refine goes_ Tryz.func30 (by kernel_rfl) rfl #[.agg #[.int .i64 ((a6z l0 x12_1).f0),.int .i64 ((a6z l0 x12_1).f1),.int .i64 ((a6z l0 x12_1).f2.f0),.int .i64 ((a6z l0 x12_1).f2.f1),.int .i64 ((a6z l0 x12_1).f3.f0),.int .i64 ((a6z l0 x12_1).f3.f1),.int .i64 ((a6z l0 x12_1).f4),.int .i64 ((a6z l0 x12_1).f5)]] (by rfl) rfl rfl (by (try simp only [mA_,mC_,mN_]);first|done|rfl|(simp only [lD_,lT_];rfl)) ?_
          with_reducible refine (impl_Rule_word.calls ((a6z l0 x12_1).f0) ((a6z l0 x12_1).f1) ((a6z l0 x12_1).f2.f0) ((a6z l0 x12_1).f2.f1) ((a6z l0 x12_1).f3.f0) ((a6z l0 x12_1).f3.f1) ((a6z l0 x12_1).f4) ((a6z l0 x12_1).f5) t107 _ ?side1 A12.1).mono ?_
          (case side1 => exact (Tb.T1.below HT.out (by repeat (first|(with_reducible first|exact HB.1|apply a3z|apply a0z|apply a2z|refine a5z ?_ GE104.1)|exact HB.1))))
          rintro e w25 ⟨rfl,hb⟩
          refine ⟨_,rfl,?_⟩
          have n0_:=a1z.mk (c0z (g:=gb104) (o:=.cells #[.int .i64 ((a6z l0 x12_1).f0),.int .i64 ((a6z l0 x12_1).f1),.int .i64 ((a6z l0 x12_1).f2.f0),.int .i64 ((a6z l0 x12_1).f2.f1),.int .i64 ((a6z l0 x12_1).f3.f0),.int .i64 ((a6z l0 x12_1).f3.f1),.int .i64 ((a6z l0 x12_1).f4),.int .i64 ((a6z l0 x12_1).f5)] 39 (0,0)) (by (with_reducible repeat (first|refine a8z ?_ _|refine a9z ?_|refine blk_alloc ?_ _));exact BK104.1) hb)
          have n1_:=a1z.mk (b1z (by repeat (first|(with_reducible first|exact HB.1|apply a3z|apply a0z|apply a2z|refine a5z ?_ GE104.1)|exact HB.1)) hb)
          clear BK104 HB
          have BK104:=n0_
          have HB:=n1_
          clear n0_ n1_
          (try clear hb)
          (try clear hb2)
          (try clear hk)
          (try clear hi)
          refine hK.out _ _ ⟨(b7z BK104.1 0).trans rfl,(b7z BK104.1 1).trans rfl,(b7z BK104.1 2).trans rfl,(b7z BK104.1 3).trans rfl,(b7z BK104.1 4).trans rfl,(b7z BK104.1 5).trans rfl,(b7z BK104.1 6).trans rfl,(b7z BK104.1 7).trans rfl⟩ (fun hHeld => ?_)
          clear hK K
          refine norm_ (a':=?_) ?_ ?_
          rotate_left
          ·show Act.put _ (some 25) _ = _
           simp only [Act.put,sA_,sZ_,sS_,i64_w,i32_w]
           rfl
          refine one_ (i:=4) (N:=some 28) #[true,true,true,true,true,true,true,false,true,false,false,false,false] rfl rfl (e8z HT_.1 (by kernel_rfl)) (by decide) (fun K hK => ?_)
          refine goes_ Tryz.func31 (by kernel_rfl) rfl #[.agg #[.int .i64 ((a6z l0 x12_1).f2.f0),.int .i64 ((a6z l0 x12_1).f2.f1)]] (by rfl) rfl rfl (by (try simp only [mA_,mC_,mN_]);first|done|rfl|(simp only [lD_,lT_];rfl)) ?_
          with_reducible refine (impl_BlockText.calls k1 ((a6z l0 x12_1).f2.f0) ((a6z l0 x12_1).f2.f1) t108 _ ?side1 A13.1).mono ?_
          (case side1 => exact (Tb.T1.below HT.out (by repeat (first|(with_reducible first|exact HB.1|apply a3z|apply a0z|apply a2z|refine a5z ?_ GE104.1)|exact HB.1))))
          rintro e w26 ⟨rfl,hb⟩
          refine ⟨_,rfl,?_⟩
          have n0_:=a1z.mk (c0z (g:=gb104) (o:=.cells #[.int .i64 ((a6z l0 x12_1).f0),.int .i64 ((a6z l0 x12_1).f1),.int .i64 ((a6z l0 x12_1).f2.f0),.int .i64 ((a6z l0 x12_1).f2.f1),.int .i64 ((a6z l0 x12_1).f3.f0),.int .i64 ((a6z l0 x12_1).f3.f1),.int .i64 ((a6z l0 x12_1).f4),.int .i64 ((a6z l0 x12_1).f5)] 39 (0,0)) (by (with_reducible repeat (first|refine a8z ?_ _|refine a9z ?_|refine blk_alloc ?_ _));exact BK104.1) hb)
          have n1_:=a1z.mk (b1z (by repeat (first|(with_reducible first|exact HB.1|apply a3z|apply a0z|apply a2z|refine a5z ?_ GE104.1)|exact HB.1)) hb)
          clear BK104 HB
          have BK104:=n0_
          have HB:=n1_
          clear n0_ n1_
          (try clear hb)
          (try clear hb2)
          (try clear hk)
          (try clear hi)
          refine hK.out _ _ ⟨(b7z BK104.1 0).trans rfl,(b7z BK104.1 1).trans rfl,(b7z BK104.1 2).trans rfl,(b7z BK104.1 3).trans rfl,(b7z BK104.1 4).trans rfl,(b7z BK104.1 5).trans rfl,(b7z BK104.1 6).trans rfl,(b7z BK104.1 7).trans rfl⟩ (fun hHeld => ?_)
          clear hK K
          refine norm_ (a':=?_) ?_ ?_
          rotate_left
          ·show Act.put _ (some 28) _ = _
           simp only [Act.put,sA_,sZ_,sS_,i64_w,i32_w]
           rfl
          refine one_ (i:=7) (N:=some 31) #[true,true,true,true,true,true,true,true,true,false,false,false,false] rfl rfl (e8z HT_.1 (by kernel_rfl)) (by decide) (fun K hK => ?_)
          refine goes_ Tryz.func31 (by kernel_rfl) rfl #[.agg #[.int .i64 ((a6z l0 x12_1).f3.f0),.int .i64 ((a6z l0 x12_1).f3.f1)]] (by rfl) rfl rfl (by (try simp only [mA_,mC_,mN_]);first|done|rfl|(simp only [lD_,lT_];rfl)) ?_
          with_reducible refine (impl_BlockText.calls k1 ((a6z l0 x12_1).f3.f0) ((a6z l0 x12_1).f3.f1) t109 _ ?side1 A14.1).mono ?_
          (case side1 => exact (Tb.T1.below HT.out (by repeat (first|(with_reducible first|exact HB.1|apply a3z|apply a0z|apply a2z|refine a5z ?_ GE104.1)|exact HB.1))))
          rintro e w27 ⟨rfl,hb⟩
          refine ⟨_,rfl,?_⟩
          have n0_:=a1z.mk (c0z (g:=gb104) (o:=.cells #[.int .i64 ((a6z l0 x12_1).f0),.int .i64 ((a6z l0 x12_1).f1),.int .i64 ((a6z l0 x12_1).f2.f0),.int .i64 ((a6z l0 x12_1).f2.f1),.int .i64 ((a6z l0 x12_1).f3.f0),.int .i64 ((a6z l0 x12_1).f3.f1),.int .i64 ((a6z l0 x12_1).f4),.int .i64 ((a6z l0 x12_1).f5)] 39 (0,0)) (by (with_reducible repeat (first|refine a8z ?_ _|refine a9z ?_|refine blk_alloc ?_ _));exact BK104.1) hb)
          have n1_:=a1z.mk (b1z (by repeat (first|(with_reducible first|exact HB.1|apply a3z|apply a0z|apply a2z|refine a5z ?_ GE104.1)|exact HB.1)) hb)
          clear BK104 HB
          have BK104:=n0_
          have HB:=n1_
          clear n0_ n1_
          (try clear hb)
          (try clear hb2)
          (try clear hk)
          (try clear hi)
          refine hK.out _ _ ⟨(b7z BK104.1 0).trans rfl,(b7z BK104.1 1).trans rfl,(b7z BK104.1 2).trans rfl,(b7z BK104.1 3).trans rfl,(b7z BK104.1 4).trans rfl,(b7z BK104.1 5).trans rfl,(b7z BK104.1 6).trans rfl,(b7z BK104.1 7).trans rfl⟩ (fun hHeld => ?_)
          clear hK K
          refine norm_ (a':=?_) ?_ ?_
          rotate_left
          ·show Act.put _ (some 31) _ = _
           simp only [Act.put,sA_,sZ_,sS_,i64_w,i32_w]
           rfl
          refine one_ (i:=9) (N:=some 33) #[true,true,true,true,true,true,true,true,true,true,false,false,false] rfl rfl (e8z HT_.1 (by kernel_rfl)) (by decide) (fun K hK => ?_)
          refine Kd.R_lit_step Kd.string _ 9 ?hg (N:=33) ?hd (xs:=([t107,t108,t109,(t105 ++ (⟨#[45]⟩ : ByteArray)) ++ t106] : List ByteArray)) (inner:=[.string t107,.string t108,.string t109,.string ((t105 ++ (⟨#[45]⟩ : ByteArray)) ++ t106)]) (ok:=fun _ => True) (okp:=fun _ => True) ?hr ?hp (fun _ hk => hk) trivial (Below.refl _ _) (Nat.le_refl _) (by simp) ?_;(case hd => rfl);(case hg => rfl);(case hr => first|(go_simp;done)|(go_simp;rfl));(case hp => exact (Reps.one (show Kd.M Kd.string _ _ _ t107 [.string t107] from rfl) (Reps.one (show Kd.M Kd.string _ _ _ t108 [.string t108] from rfl) (Reps.one (show Kd.M Kd.string _ _ _ t109 [.string t109] from rfl) (Reps.one (show Kd.M Kd.string _ _ _ ((t105 ++ (⟨#[45]⟩ : ByteArray)) ++ t106) [.string ((t105 ++ (⟨#[45]⟩ : ByteArray)) ++ t106)] from rfl) (Reps.none _ _))))))
          intro v111 w28 ho29 hb hg_ hnew_
          clear hg_ hnew_
          (first|rw [← Ny110.1] at ho29|(simp only [Int.reduceToNat] at ho29;rw [← Ny110.1] at ho29))
          have n0_:=a1z.mk (Kd.e1z ho29 (b8z (by repeat (first|(with_reducible first|exact HB.1|apply a3z|apply a0z|apply a2z|refine a5z ?_ GE104.1)|exact HB.1))))
          have n1_:=a1z.mk (c0z (g:=gb104) (o:=.cells #[.int .i64 ((a6z l0 x12_1).f0),.int .i64 ((a6z l0 x12_1).f1),.int .i64 ((a6z l0 x12_1).f2.f0),.int .i64 ((a6z l0 x12_1).f2.f1),.int .i64 ((a6z l0 x12_1).f3.f0),.int .i64 ((a6z l0 x12_1).f3.f1),.int .i64 ((a6z l0 x12_1).f4),.int .i64 ((a6z l0 x12_1).f5)] 39 (0,0)) (by (with_reducible repeat (first|refine a8z ?_ _|refine a9z ?_|refine blk_alloc ?_ _));exact BK104.1) hb)
          have n2_:=a1z.mk (b1z (by repeat (first|(with_reducible first|exact HB.1|apply a3z|apply a0z|apply a2z|refine a5z ?_ GE104.1)|exact HB.1)) hb)
          clear BK104 HB
          have HO112:=n0_
          have BK104:=n1_
          have HB:=n2_
          clear n0_ n1_ n2_
          clear hb ho29
          obtain ⟨Ao30,co30,eo30⟩:=Kd.e0z HO112.1
          (first|subst eo30|(injection eo30 with f1_ f2_ f3_;have f4_:=f1_.symm;have f5_:=f3_.symm;clear f1_ f2_ f3_;subst f4_;subst f5_))
          refine hK.out _ _ ⟨(b7z BK104.1 0).trans rfl,(b7z BK104.1 1).trans rfl,(b7z BK104.1 2).trans rfl,(b7z BK104.1 3).trans rfl,(b7z BK104.1 4).trans rfl,(b7z BK104.1 5).trans rfl,(b7z BK104.1 6).trans rfl,(b7z BK104.1 7).trans rfl⟩ (fun hHeld => ?_)
          clear hK K
          refine norm_ (a':=?_) ?_ ?_
          rotate_left
          ·show Act.put _ (some 33) _ = _
           simp only [Act.put,sA_,sZ_,sS_,i64_w,i32_w]
           rfl
          refine one_ (i:=10) (N:=some 34) #[true,true,true,true,true,true,true,true,true,true,true,false,false] rfl rfl (e8z HT_.1 (by kernel_rfl)) (by decide) (fun K hK => ?_)
          refine goes_ Tryz.func29 (by kernel_rfl) rfl #[.slice Ao30 y110.length co30,.string (⟨#[32]⟩ : ByteArray)] (by rfl) rfl rfl (by (try simp only [mA_,mC_,mN_]);first|done|rfl|(simp only [lD_,lT_];rfl)) ?_
          with_reducible refine (strings_Join.calls _ _ y110 (⟨#[32]⟩ : ByteArray) t113 _ ?side1 ?side2 A15.1).mono ?_
          (case side1 => repeat (first|exact (Kd.c2z HO112.1).2.2|(with_reducible refine Kd.C_alloc ?_ _)|(with_reducible refine Kd.C_drewN ?_ _)|(with_reducible refine Kd.e5z ?_)))
          (case side2 => exact (Kd.c2z HO112.1).2.1)
          rintro e w31 ⟨rfl,hb⟩
          refine ⟨_,rfl,?_⟩
          have n0_:=a1z.mk (Kd.d3z (by (with_reducible repeat (first|apply Kd.R_alloc|apply Kd.b6z|apply Kd.b9z));exact HO112.1) hb)
          have n1_:=a1z.mk (c0z (g:=gb104) (o:=.cells #[.int .i64 ((a6z l0 x12_1).f0),.int .i64 ((a6z l0 x12_1).f1),.int .i64 ((a6z l0 x12_1).f2.f0),.int .i64 ((a6z l0 x12_1).f2.f1),.int .i64 ((a6z l0 x12_1).f3.f0),.int .i64 ((a6z l0 x12_1).f3.f1),.int .i64 ((a6z l0 x12_1).f4),.int .i64 ((a6z l0 x12_1).f5)] 39 (0,0)) (by (with_reducible repeat (first|refine a8z ?_ _|refine a9z ?_|refine blk_alloc ?_ _));exact BK104.1) hb)
          have n2_:=a1z.mk (b1z (by repeat (first|(with_reducible first|exact HB.1|apply a3z|apply a0z|apply a2z|refine a5z ?_ GE104.1)|exact HB.1)) hb)
          clear HO112 BK104 HB
          have HO112:=n0_
          have BK104:=n1_
          have HB:=n2_
          clear n0_ n1_ n2_
          (try clear hb)
          (try clear hb2)
          (try clear hk)
          (try clear hi)
          refine hK.out _ _ ⟨(b7z BK104.1 0).trans rfl,(b7z BK104.1 1).trans rfl,(b7z BK104.1 2).trans rfl,(b7z BK104.1 3).trans rfl,(b7z BK104.1 4).trans rfl,(b7z BK104.1 5).trans rfl,(b7z BK104.1 6).trans rfl,(b7z BK104.1 7).trans rfl⟩ (fun hHeld => ?_)
          clear hK K
          refine norm_ (a':=?_) ?_ ?_
          rotate_left
          ·show Act.put _ (some 34) _ = _
           simp only [Act.put,sA_,sZ_,sS_,i64_w,i32_w]
           rfl
          refine pure_ (i:=11) (N:=some 35) (v:=?_) (a':=?_) #[true,true,true,true,true,true,true,true,true,true,true,true,false] rfl rfl (d1z HT_.1 (by kernel_rfl)) (fun _ _ _ h => h) (Or.inl ⟨by rfl,?_⟩) ?_ ?_
          rotate_left
          ·intro w'
           go_simp
           with_reducible rfl
          rotate_left
          ·simp only [Act.put,sA_,sZ_,sS_,i64_w,i32_w]
           rfl
          refine one_ (i:=12) (N:=some 36) #[true,true,true,true,true,true,true,true,true,true,true,true,true] rfl rfl (e8z HT_.1 (by kernel_rfl)) (by decide) (fun K hK => ?_)
          refine goes_ Tryz.func28 (by kernel_rfl) rfl #[.pointer (some ⟨w4.heap.size,0,none⟩),.string (t113 ++ (⟨#[10]⟩ : ByteArray))] (by rfl) rfl rfl (by (try simp only [mA_,mC_,mN_]);first|done|rfl|(simp only [lD_,lT_];rfl)) ?_
          refine (Bd.write_is (Bd.Is.below HBD.out (by repeat (first|(with_reducible first|exact HB.1|apply a3z|apply a0z|apply a2z|refine a5z ?_ GE104.1)|exact HB.1))) A17.1).mono ?_
          rintro e w32 ⟨⟨vv_,rfl⟩,hbd,hb,hoth⟩
          refine ⟨_,rfl,?_⟩
          have n1_:=a1z.mk (hoth gb104 _ 39 (0,0) (show gb104 ≠ w4.heap.size by have h1_:=GE104.1;have h2_:=HBD.out.lt;omega) (by decide) (by (with_reducible repeat (first|refine a8z ?_ _|refine a9z ?_|refine blk_alloc ?_ _));exact BK104.1))
          have n2_:=a1z.mk ((HB0.1.trans (((by repeat (first|(with_reducible first|exact HB.1|apply a3z|apply a0z|apply a2z|refine a5z ?_ GE104.1)|exact HB.1)) : Below wr.heap.size wr _).mono HB0.1.size)).trans (hb.mono HGB))
          clear HO112 BK104 HB
          have BK104:=n1_
          have HB:=n2_
          clear n1_ n2_
          (try clear hb2)
          (try clear hk)
          (try clear hi)
          refine hK.out _ _ ⟨(b7z BK104.1 0).trans rfl,(b7z BK104.1 1).trans rfl,(b7z BK104.1 2).trans rfl,(b7z BK104.1 3).trans rfl,(b7z BK104.1 4).trans rfl,(b7z BK104.1 5).trans rfl,(b7z BK104.1 6).trans rfl,(b7z BK104.1 7).trans rfl⟩ (fun hHeld => ?_)
          clear hK K
          refine norm_ (a':=?_) ?_ ?_
          rotate_left
          ·show Act.put _ (some 36) _ = _
           simp only [Act.put,sA_,sZ_,sS_,i64_w,i32_w]
           rfl
          refine done_ (g8z HT_.1 (by kernel_rfl)) ?_
          try go_wp2
          go_roundg k1
          case measure => have:=HK1.1;omega
          case rel => exact ⟨(t114),(wrap64 (x12_1 + 1)),(by first|rfl|(simp;done)|(simp [*];done)),H',⟨by have:=HK1.1;omega⟩,⟨by repeat (first|(with_reducible first|exact HB.1|apply a3z|apply a0z|apply a2z)|exact HB.1)⟩,⟨Bd.Is.below hbd (by repeat (first|(with_reducible first|exact Below.refl _ _|apply a3z|apply a0z|apply a2z)|exact Below.refl _ _))⟩⟩
         ·rw [if_neg c16] at H
          exact absurd H (by simp)
        ·rw [if_neg c11] at H
         exact absurd H (by simp)
       ·rw [if_neg c9] at H
        exact absurd H (by simp)
      ·rw [if_neg c7] at H
       exact absurd H (by simp)
     ·rw [if_neg c6] at H
      exact absurd H (by simp)
    ·rw [if_neg c5] at H
     have c5b0 : decide (x12_1 < (l0.length : Int)) = false:=decide_eq_false c5
     clear c5
     obtain rfl:=Option.some.inj H
     go_wp2_with (first|((with_reducible refine b2z (f:=32) rfl ?_);refine c1z (some 38) rfl rfl Tryz.func32 (by kernel_rfl) rfl #[.pointer (some ⟨w4.heap.size,0,none⟩)] rfl (by (try simp only [mA_,mC_,mN_]);first|done|rfl|(simp only [lD_,lT_];rfl)) ?_;refine (Bd.read_is HBD.out).mono ?_;rintro e w34 ⟨rfl,hb⟩;refine ⟨_,rfl,?_⟩;have HB:=a1z.mk (HB0.1.trans (hb.mono HGB));(try clear hb)))
     go_ret
     exact ⟨by first|rfl|(simp [b5z,b4z] <;> rfl)|(simp [*,b5z,b4z] <;> rfl),by repeat (first|(with_reducible first|exact HB.1|apply a3z|apply a0z|apply a2z)|exact HB.1)⟩
 ·replace c3:=Bool.eq_false_iff.mpr c3
  subst c3
  have H1 : (some (⟨#[]⟩ : ByteArray)) = some r:=by rw [if_neg (show ¬ (false = true) by decide)] at H;exact H
  clear H
  have H:=H1
  clear H1
  obtain rfl:=Option.some.inj H
  go_enter Tryz.func11,Tryz.ntmps11
  go_wp2_with (first|((with_reducible refine b2z (f:=26) rfl ?_);refine c1z (some 8) rfl rfl Tryz.func26 (by kernel_rfl) rfl #[.slice A0 l0.length c0] rfl (by (try simp only [mA_,mC_,mN_]);first|done|rfl|(simp only [lD_,lT_];rfl)) ?_;(with_reducible refine (impl_RulesOk.calls k _ _ l0 false _ ?side1 ?side2 A2.1).mono ?_);(case side1 => repeat (first|exact HR0.1|(with_reducible refine Kd.C_alloc ?_ _)|(with_reducible refine Kd.C_drewN ?_ _)|(with_reducible refine Kd.e5z ?_)));(case side2 => exact HC0.1);rintro e w35 ⟨rfl,hb⟩;refine ⟨_,rfl,?_⟩;have n0_:=a1z.mk (b1z (by repeat (first|(with_reducible first|exact HB.1|apply a3z|apply a0z|apply a2z)|exact HB.1)) hb);clear HB;have HB:=n0_;clear n0_;(try clear hb)))
  go_ret
  exact ⟨by first|rfl|(simp [b5z,b4z] <;> rfl)|(simp [*,b5z,b4z] <;> rfl),by repeat (first|(with_reducible first|exact HB.1|apply a3z|apply a0z|apply a2z)|exact HB.1)⟩
/-- The place of a byte in a text: the separator is that one byte. -/
def stringslite_Index.f (a0 : ByteArray) (a1 : ByteArray) : Option Int :=
 match a1.data.toList with
 | [c] => some (Lib.indexByte a0.data.toList c)
 | _ => none
theorem stringslite_Index.calls (a0 : ByteArray) (a1 : ByteArray) (r : Int) (w : World) (h : stringslite_Index.f a0 a1 = some r) :
  Calls Tryz.prog 92 #[.string a0,.string a1] w fun e w' => e = .returned (.int .i64 r) ∧ Drawn0 w w':=by
 unfold stringslite_Index.f at h
 split at h
 ·rename_i c hc
  obtain rfl:=Option.some.inj h
  have e : a1 = ⟨#[c]⟩:=by
   apply ByteArray.ext
   apply Array.ext'
   rw [hc]
  subst e
  refine (Tryz.stringslite_Index_one a0 c w).mono ?_
  rintro e w' ⟨rfl,rfl⟩
  exact ⟨rfl,Drawn0.refl _⟩
 ·cases h
def stringslite_Cut.f (a0 : ByteArray) (a1 : ByteArray) : Option (ByteArray × ByteArray × Bool):=(stringslite_Index.f a0 a1).bind fun t101 => (if t101 ≥ 0 then (if 0 ≤ t101 then (if t101 ≤ (a0.size : Int) then (if 0 ≤ (wrap64 (t101 + (a1.size : Int))) then (if (wrap64 (t101 + (a1.size : Int))) ≤ (a0.size : Int) then (some (a0.extract 0 (t101 : Int).toNat,a0.extract ((wrap64 (t101 + (a1.size : Int))) : Int).toNat a0.size,true)) else (none)) else (none)) else (none)) else (none)) else (some (a0,(⟨#[]⟩ : ByteArray),false)))
set_option maxHeartbeats 8000000 in
set_option maxRecDepth 100000 in
theorem stringslite_Cut.calls (a0 : ByteArray) (a1 : ByteArray) (r1 : ByteArray) (r2 : ByteArray) (r3 : Bool) (w : World) (h : stringslite_Cut.f a0 a1 = some (r1,r2,r3)) :
  Calls Tryz.prog 77 #[.string a0,.string a1] w fun e w' => e = .returned (.tuple #[.string r1,.string r2,.bool r3]) ∧ Drawn0 w w':=by
 have H : ((stringslite_Index.f a0 a1).bind fun t101 => (if t101 ≥ 0 then (if 0 ≤ t101 then (if t101 ≤ (a0.size : Int) then (if 0 ≤ (wrap64 (t101 + (a1.size : Int))) then (if (wrap64 (t101 + (a1.size : Int))) ≤ (a0.size : Int) then (some (a0.extract 0 (t101 : Int).toNat,a0.extract ((wrap64 (t101 + (a1.size : Int))) : Int).toNat a0.size,true)) else (none)) else (none)) else (none)) else (none)) else (some (a0,(⟨#[]⟩ : ByteArray),false)))) = some (r1,r2,r3):=h
 clear h
 replace H:=Option.bind_eq_some_iff.mp H
 obtain ⟨t101,A30,H⟩:=H
 replace H : (if t101 ≥ 0 then (if 0 ≤ t101 then (if t101 ≤ (a0.size : Int) then (if 0 ≤ (wrap64 (t101 + (a1.size : Int))) then (if (wrap64 (t101 + (a1.size : Int))) ≤ (a0.size : Int) then (some (a0.extract 0 (t101 : Int).toNat,a0.extract ((wrap64 (t101 + (a1.size : Int))) : Int).toNat a0.size,true)) else (none)) else (none)) else (none)) else (none)) else (some (a0,(⟨#[]⟩ : ByteArray),false))) = some (r1,r2,r3):=H
 have A3:=a1z.mk A30
 clear A30
 by_cases c4 : t101 ≥ 0
 ·rw [if_pos c4] at H
  have c4b0 : decide (0 ≤ t101) = true:=decide_eq_true c4
  clear c4
  by_cases c5 : 0 ≤ t101
  ·rw [if_pos c5] at H
   have c5b0:=eq_true c5
   have c5b1 : decide (0 ≤ t101) = true:=decide_eq_true c5
   clear c5
   by_cases c6 : t101 ≤ (a0.size : Int)
   ·rw [if_pos c6] at H
    have c6b0:=eq_true c6
    have c6b1 : decide (t101 ≤ (a0.size : Int)) = true:=decide_eq_true c6
    clear c6
    obtain ⟨ji7,hji7⟩ : ∃ j_ : Int,(wrap64 (t101 + (a1.size : Int))) = j_:=⟨_,rfl⟩
    replace H : (if 0 ≤ (ji7) then (if (ji7) ≤ (a0.size : Int) then (some (a0.extract 0 (t101 : Int).toNat,a0.extract ((ji7) : Int).toNat a0.size,true)) else (none)) else (none)) = some (r1,r2,r3):=by first|(rw [hji7] at H;exact H)|(simp only [hji7] at H ⊢;exact H)
    (try rw [hji7] at A3)
    have hji7w : (IntKind.i64.wrap (t101 + (a1.size : Int))) = ji7:=(i64_w _).trans hji7
    by_cases c8 : 0 ≤ (ji7)
    ·rw [if_pos c8] at H
     have c8b0:=eq_true c8
     have c8b1 : decide (0 ≤ (ji7)) = true:=decide_eq_true c8
     clear c8
     by_cases c9 : (ji7) ≤ (a0.size : Int)
     ·rw [if_pos c9] at H
      have c9b0:=eq_true c9
      have c9b1 : decide ((ji7) ≤ (a0.size : Int)) = true:=decide_eq_true c9
      clear c9
      simp only [Option.some.injEq,Prod.mk.injEq] at H
      obtain ⟨rfl,rfl,rfl⟩:=H
      go_enter Tryz.func77,Tryz.ntmps77
      go_wp2_with (first|(go_at_call 92;(with_reducible refine (stringslite_Index.calls a0 a1 t101 _ A3.1).mono ?_);rintro e w' ⟨rfl,⟨nd,rfl⟩⟩;(try first|exact ⟨rfl,_,World.drewN_drewN _ _ _⟩|exact ⟨rfl,_,Eq.trans (World.drewN_drewN _ _ _) (congrArg (World.drewN _) (Nat.add_assoc _ _ _))⟩)))
      repeat (go_quiet (first|(go_at_call 92;(with_reducible refine (stringslite_Index.calls a0 a1 t101 _ A3.1).mono ?_);rintro e w' ⟨rfl,⟨nd,rfl⟩⟩;(try first|exact ⟨rfl,_,World.drewN_drewN _ _ _⟩|exact ⟨rfl,_,Eq.trans (World.drewN_drewN _ _ _) (congrArg (World.drewN _) (Nat.add_assoc _ _ _))⟩)));try go_wp2_with (first|(go_at_call 92;(with_reducible refine (stringslite_Index.calls a0 a1 t101 _ A3.1).mono ?_);rintro e w' ⟨rfl,⟨nd,rfl⟩⟩;(try first|exact ⟨rfl,_,World.drewN_drewN _ _ _⟩|exact ⟨rfl,_,Eq.trans (World.drewN_drewN _ _ _) (congrArg (World.drewN _) (Nat.add_assoc _ _ _))⟩))))
      go_ret3
      exact ⟨by first|rfl|(simp;done)|(simp only [← hji7] <;> (first|rfl|simp))|(simp [*];done),by repeat (first|exact Drawn0.refl _|apply Drawn0.step)⟩
     ·rw [if_neg c9] at H
      exact absurd H (by simp)
    ·rw [if_neg c8] at H
     exact absurd H (by simp)
   ·rw [if_neg c6] at H
    exact absurd H (by simp)
  ·rw [if_neg c5] at H
   exact absurd H (by simp)
 ·rw [if_neg c4] at H
  have c4b0 : decide (0 ≤ t101) = false:=decide_eq_false c4
  clear c4
  simp only [Option.some.injEq,Prod.mk.injEq] at H
  obtain ⟨rfl,rfl,rfl⟩:=H
  go_enter Tryz.func77,Tryz.ntmps77
  go_wp2_with (first|(go_at_call 92;(with_reducible refine (stringslite_Index.calls a0 a1 t101 _ A3.1).mono ?_);rintro e w' ⟨rfl,⟨nd,rfl⟩⟩;(try first|exact ⟨rfl,_,World.drewN_drewN _ _ _⟩|exact ⟨rfl,_,Eq.trans (World.drewN_drewN _ _ _) (congrArg (World.drewN _) (Nat.add_assoc _ _ _))⟩)))
  repeat (go_quiet (first|(go_at_call 92;(with_reducible refine (stringslite_Index.calls a0 a1 t101 _ A3.1).mono ?_);rintro e w' ⟨rfl,⟨nd,rfl⟩⟩;(try first|exact ⟨rfl,_,World.drewN_drewN _ _ _⟩|exact ⟨rfl,_,Eq.trans (World.drewN_drewN _ _ _) (congrArg (World.drewN _) (Nat.add_assoc _ _ _))⟩)));try go_wp2_with (first|(go_at_call 92;(with_reducible refine (stringslite_Index.calls a0 a1 t101 _ A3.1).mono ?_);rintro e w' ⟨rfl,⟨nd,rfl⟩⟩;(try first|exact ⟨rfl,_,World.drewN_drewN _ _ _⟩|exact ⟨rfl,_,Eq.trans (World.drewN_drewN _ _ _) (congrArg (World.drewN _) (Nat.add_assoc _ _ _))⟩))))
  go_ret3
  exact ⟨by first|rfl|(simp;done)|(simp [*];done),by repeat (first|exact Drawn0.refl _|apply Drawn0.step)⟩
def strings_Cut.f (a0 : ByteArray) (a1 : ByteArray) : Option (ByteArray × ByteArray × Bool):=(stringslite_Cut.f a0 a1).bind fun bt101 => (some (bt101.1,bt101.2.1,bt101.2.2))
set_option maxHeartbeats 8000000 in
set_option maxRecDepth 100000 in
theorem strings_Cut.calls (a0 : ByteArray) (a1 : ByteArray) (r1 : ByteArray) (r2 : ByteArray) (r3 : Bool) (w : World) (h : strings_Cut.f a0 a1 = some (r1,r2,r3)) :
  Calls Tryz.prog 48 #[.string a0,.string a1] w fun e w' => e = .returned (.tuple #[.string r1,.string r2,.bool r3]) ∧ Drawn0 w w':=by
 have H : ((stringslite_Cut.f a0 a1).bind fun bt101 => (some (bt101.1,bt101.2.1,bt101.2.2))) = some (r1,r2,r3):=h
 clear h
 replace H:=Option.bind_eq_some_iff.mp H
 obtain ⟨⟨t101,t102,t103⟩,A30,H⟩:=H
 replace H : (some (t101,t102,t103)) = some (r1,r2,r3):=H
 have A3:=a1z.mk A30
 clear A30
 simp only [Option.some.injEq,Prod.mk.injEq] at H
 obtain ⟨rfl,rfl,rfl⟩:=H
 go_enter Tryz.func48,Tryz.ntmps48
 go_wp2_with (first|((with_reducible refine b2z (f:=77) rfl ?_);refine c1z (some 9) rfl rfl Tryz.func77 (by kernel_rfl) rfl #[.string a0,.string a1] rfl (by (try simp only [mA_,mC_,mN_]);first|done|rfl|(simp only [lD_,lT_];rfl)) ?_;(with_reducible refine (stringslite_Cut.calls a0 a1 t101 t102 t103 _ A3.1).mono ?_);rintro e w' ⟨rfl,⟨nd,rfl⟩⟩;refine ⟨_,rfl,?_⟩))
 go_ret3
 exact ⟨by first|rfl|(simp;done)|(simp [*];done),by repeat (first|exact Drawn0.refl _|apply Drawn0.step)⟩
end Go.Proofs.YtgbdnbbfgcogjaaGreatDoor.Q

namespace Go.Proofs.YtgbdnbbfgcogjaaGreatDoor.Sq
open Go Go.RowKit Go.Shelf
attribute [local go_sem] Oper.semAt_some
set_option linter.unusedVariables false
set_option linter.unusedSimpArgs false
/-- The contract of an iterator whose own steps are Tn: the caller's facts abide them. -/
def SeqC {α : Type} (F : Fence) (n : Nat) (P : Program) (g : Nat) (lb : Array Value) (encs : α → Array Value) (Ok : α → Prop) (Tn Kp : World → World → Prop) (S Sp : List α → Prop) (N : Nat) (w : World) : Prop :=
 ∀ (l : Nat) (J Jx : List α → World → Prop) (W : World),Below w.heap.size w W → (∀ s A B,J s A → Tn A B → J s B) →
  (∀ pre x W1,J pre W1 → pre.length < N → Ok x → YieldAt F (n - 1) P l (encs x) W1 fun e W' =>
   (e = .returned (.bool true) ∧ J (pre ++ [x]) W' ∧ Kp W1 W') ∨ (e = .returned (.bool false) ∧ Jx (pre ++ [x]) W')) →
  J [] W →
  CallsIn F n P g (#[.func (.yield l) #[] #[]] ++ lb) W fun e W' => (∃ v,e = .returned v) ∧ ((∃ xs,S xs ∧ J xs W') ∨ (∃ pre,Sp pre ∧ Jx pre W'))
variable {F : Fence} {n : Nat} {P : Program}
/-- The caller's law for such an iterator. -/
theorem wpIn_range_own {α : Type} {g : Operand} {ps : Array Tmp} {assign body : Code} {Q : Exit → Act → World → Prop} {a : Act} {w : World}
  (hro : F.round = none) (h1 : 1 ≤ n) {gf : Nat} {lb : Array Value} (hg : a.eval g = .func (.func gf) #[] lb) (hFg : F.fn gf) (eg : ∀ args w,(callFunc gf args).run P w = .ok (.enter gf args) w)
  {encs : α → Array Value} {Ok : α → Prop} {Tn Kp : World → World → Prop} {S Sp : List α → Prop} {N : Nat} {w0 : World} (hseq : SeqC F (n - 1) P gf lb encs Ok Tn Kp S Sp N w0)
  (hTn : ∀ A B,Tn A B → KeepsOthers A B) (hKt : ∀ {A B C : World},Kp A B → Kp B C → Kp A C) (hKb : ∀ (W : World) (l : Nat) (o o' : Obj),w.heap.size ≤ l → W.heap[l]? = some o → o.isCells = false → Kp W (W.putObj l o'))
  (hb0 : Below w0.heap.size w0 w) (hps : ∀ x,(encs x).size = ps.size)
  (I : List α → World → Prop) (Ix : List α → World → Prop) (hI : OwnFrom w.heap.size I) (hIx : OwnFrom w.heap.size Ix) (hIT : ∀ s A B,I s A → Tn A B → I s B) (h0 : I [] w) (a₁ : α → Act)
  (hassign : ∀ (l : Nat) (x : α) (W : World) (K : Act → World → Prop),K (a₁ x) W →
   assign.wpIn (F.inRound l) (n - 1 - 1) P (Exit.then K (fun _ _ _ => False)) { tmps:=(ps.zip (encs x)).foldl (fun t (p,v) => t.setIfInBounds p v) a.tmps,defers:=[] } W)
  (hbody : ∀ (l : Nat) (pre : List α) (x : α) (W : World),w.heap.size ≤ l → I pre W → pre.length < N → Ok x →
   body.wpIn (F.inRound l) (n - 1 - 1) P (ownPostG w.heap.size Kp I (fun c xs W' => c = .ret ∧ Ix xs W') (pre ++ [x]) W) (a₁ x) W)
  (hdone : ∀ (D : Nat) (xs : List α) (W : World),w.heap.size ≤ D → S xs → I xs W → W.heap[D]? = some (.deferred (some [])) → Q .normal { a with defers:={ target:=.collected D,args:=#[] } :: a.defers } W)
  (hstop : ∀ (D : Nat) (pre : List α) (W : World),w.heap.size ≤ D → Sp pre → Ix pre W → W.heap[D]? = some (.deferred (some [])) → Code.ret.wpIn F n P Q { a with defers:={ target:=.collected D,args:=#[] } :: a.defers } W) :
  (Code.rangeFunc g ps assign body).wpIn F n P Q a w:=by
 refine wpIn_rangeFunc fun fn hfn => ?_
 rw [hro]
 -- the two blocks of book-keeping
 have hsz : ((w.alloc (.deferred (some []))).alloc (.loop { state:=.ready,pending:=none,fn,tmps:=a.tmps,params:=ps,assign,body,defers:=w.heap.size })).heap.size = w.heap.size + 2:=by simp
 generalize hR : (fun (st : LoopState) (pe : Option Code) => ({ state:=st,pending:=pe,fn,tmps:=a.tmps,params:=ps,assign,body,defers:=w.heap.size } : Loop)) = R
 have hR0 : ({ state:=.ready,pending:=none,fn,tmps:=a.tmps,params:=ps,assign,body,defers:=w.heap.size } : Loop) = R .ready none:=by rw [← hR]
 have hent:=run_enterLoop_outer (P:=P) (w:=w) fn a.tmps ps assign body
 rw [hR0] at hent hsz
 generalize hW1 : (w.alloc (.deferred (some []))).alloc (.loop (R .ready none)) = W1 at hent hsz
 have bL : W1.heap[w.heap.size + 1]? = some (.loop (R .ready none)):=by
  rw [← hW1]
  have:=World.alloc_heap_new (w.alloc (.deferred (some []))) (.loop (R .ready none))
  rwa [World.size_alloc] at this
 have bD : W1.heap[w.heap.size]? = some (.deferred (some [])):=by
  rw [← hW1]
  exact (Below.heap_alloc _ _ _ (by simp)).trans (World.alloc_heap_new w _)
 have iI : I [] W1:=by rw [← hW1];exact hI.alloc _ (hI.alloc _ h0)
 have bel : Below w0.heap.size w0 W1:=by
  rw [← hW1]
  exact hb0.trans ((((Below.refl _ w).alloc (Nat.le_refl _) _).alloc (by simp) _).mono hb0.size)
 refine ⟨w.heap.size + 1,_,W1,{ target:=.fn (.func gf) lb,args:=#[.func (.yield (w.heap.size + 1)) #[] #[]] },W1,gf,#[.func (.yield (w.heap.size + 1)) #[] #[]] ++ lb,W1,hent,?_,?_,?_,fun _ => h1,?_⟩
 ·simp only [resolve,hg]
  simp [go_sem]
 ·intro f' hf'
  simp [Target.leads] at hf'
  subst hf'
  exact hFg
 ·simp [invoke,go_sem,eg]
 refine (hseq (w.heap.size + 1)
  (fun pre W => I pre W ∧ W.heap[w.heap.size + 1]? = some (.loop (R .ready none)) ∧ W.heap[w.heap.size]? = some (.deferred (some [])))
  (fun pre W => Ix pre W ∧ W.heap[w.heap.size + 1]? = some (.loop (R .done (some .ret))) ∧ W.heap[w.heap.size]? = some (.deferred (some [])))
  W1 bel (fun s A B ⟨i,l,d⟩ ht => ⟨hIT s A B i ht,(hTn A B ht).same _ _ l rfl,(hTn A B ht).same _ _ d rfl⟩) ?_ ⟨iI,bL,bD⟩).mono ?_
 ·rintro pre x W ⟨i,l,d⟩ hlen hok
  have hlt : w.heap.size + 1 < W.heap.size:=(Array.getElem?_eq_some_iff.1 l).1
  have hy:=run_yield (P:=P) (args:=encs x) l (by rw [← hR];exact hps x)
  rw [← hR] at hy
  refine ⟨fn,_,assign,body,hy,roundIn_of_wpIn hfn (hassign _ x W _ ?_)⟩
  clear hy
  refine ⟨_,run_beginRound l (by rw [← hR]),?_⟩
  obtain ⟨V,hV⟩ : ∃ V,W.putObj (w.heap.size + 1) (.loop { R .ready none with state:=.busy }) = V:=⟨_,rfl⟩
  have l2 : V.heap[w.heap.size + 1]? = some (.loop { R .ready none with state:=.busy }):=by rw [← hV];exact World.putObj_heap_same hlt
  have d2 : V.heap[w.heap.size]? = some (.deferred (some [])):=by rw [← hV];exact (World.putObj_heap_other (by omega)).trans d
  have k2 : Kp W V:=by rw [← hV];exact hKb _ _ _ _ (by omega) l rfl
  have i2 : I pre V:=by rw [← hV];exact hI.putObj _ i (by omega) l rfl
  rw [hV]
  refine wpIn_mono (hbody _ pre x V (by omega) i2 hlen hok) ?_
  rintro e a3 W3 hp
  have fin : ∀ jump : Option Code,KeepsFrom w.heap.size V W3 → (Instr.endRound (w.heap.size + 1) jump).run P W3 = .ok (.bool jump.isNone) (W3.putObj (w.heap.size + 1) (.loop (R (if jump.isNone then .ready else .done) jump))) ∧ W3.heap[w.heap.size + 1]? = some (.loop { R .ready none with state:=.busy }) ∧ W3.heap[w.heap.size]? = some (.deferred (some [])) ∧ w.heap.size + 1 < W3.heap.size:=fun jump hk => by
   have l3:=hk.same _ _ (by omega) l2 rfl
   have h:=run_endRound (P:=P) jump l3
   rw [← hR] at h ⊢
   exact ⟨h,by rw [← hR] at l3;exact l3,hk.same _ _ (Nat.le_refl _) d2 rfl,(Array.getElem?_eq_some_iff.1 l3).1⟩
  cases e with
  | normal =>
   obtain ⟨hk,hkp,hi⟩:=hp
   obtain ⟨h,l3,d3,hlt3⟩:=fin none hk
   exact ⟨_,_,h,.inl ⟨rfl,⟨hI.putObj _ hi (by omega) l3 rfl,World.putObj_heap_same hlt3,(World.putObj_heap_other (by omega)).trans d3⟩,hKt (hKt k2 hkp) (hKb _ _ _ _ (by omega) l3 rfl)⟩⟩
  | ret =>
   obtain ⟨hk,_,hi⟩:=hp
   obtain ⟨h,l3,d3,hlt3⟩:=fin (some .ret) hk
   exact ⟨_,_,h,.inr ⟨rfl,hIx.putObj _ hi (by omega) l3 rfl,World.putObj_heap_same hlt3,(World.putObj_heap_other (by omega)).trans d3⟩⟩
  | exit id => obtain ⟨_,hc,_⟩:=hp;cases hc
  | goto t => obtain ⟨_,hc,_⟩:=hp;cases hc
  | panic ch => exact hp.elim
  | outgrown => exact hp.elim
 ·rintro e W2 ⟨⟨v,rfl⟩,(⟨xs,hS,i,l,d⟩|⟨pre,hSp,i,l,d⟩)⟩
  ·have h:=run_endLoop (P:=P) l (by rw [← hR];simp)
   rw [← hR] at h
   exact ⟨none,_,h,hdone _ xs _ (Nat.le_refl _) hS (hI.putObj _ i (by omega) l rfl) ((World.putObj_heap_other (by omega)).trans d)⟩
  ·have h:=run_endLoop (P:=P) l (by rw [← hR];simp)
   rw [← hR] at h
   exact ⟨some .ret,_,h,hstop _ pre _ (Nat.le_refl _) hSp (hIx.putObj _ i (by omega) l rfl) ((World.putObj_heap_other (by omega)).trans d)⟩
/-- A text of some bytes. -/
def tx (l : List UInt8) : ByteArray:=⟨l.toArray⟩
theorem e4z (l : List UInt8) : (tx l).size = l.length:=by simp [tx,ByteArray.size]
theorem f4z (l : List UInt8) : (tx l).data.toList = l:=by simp [tx]
theorem e6z (l : List UInt8) (a b : Nat) : (tx l).extract a b = tx ((l.take b).drop a):=by
 apply ByteArray.ext
 apply Array.ext'
 simp [tx,List.drop_take]
/-- The pieces of a text between a byte's places. -/
def parts (c : UInt8) : List UInt8 → List (List UInt8)
 | [] => [[]]
 | b :: r => if b = c then [] :: parts c r else
  match parts c r with
  | [] => [[b]]
  | p :: ps => (b :: p) :: ps
theorem f9z {c : UInt8} : ∀ {l : List UInt8},c ∉ l → parts c l = [l]
 | [],_ => rfl
 | b :: r,h => by
  have h1 : ¬ b = c:=fun e => h (by rw [e];exact List.mem_cons_self)
  have h2:=f9z (l:=r) (fun e => h (List.mem_cons_of_mem _ e))
  simp [parts,h1,h2]
theorem e9z {c : UInt8} (r : List UInt8) : ∀ {a : List UInt8},c ∉ a → parts c (a ++ c :: r) = a :: parts c r
 | [],_ => by simp [parts]
 | b :: a,h => by
  have h1 : ¬ b = c:=fun e => h (by rw [e];exact List.mem_cons_self)
  have h2:=e9z r (a:=a) (fun e => h (List.mem_cons_of_mem _ e))
  rw [List.cons_append]
  simp [parts,h1,h2]
theorem parts_len (c : UInt8) : ∀ l : List UInt8,1 ≤ (parts c l).length ∧ (parts c l).length ≤ l.length + 1
 | [] => by simp [parts]
 | b :: r => by
  have h:=parts_len c r
  unfold parts
  split
  ·simp;omega
  ·cases hp : parts c r with
   | nil => simp
   | cons p ps => rw [hp] at h;simp at h ⊢;omega
theorem h5z (c : UInt8) (l : List UInt8) : (Lib.indexByte l c = -1 ∧ c ∉ l) ∨ ∃ o : Nat,Lib.indexByte l c = o ∧ o < l.length ∧ l = l.take o ++ c :: l.drop (o + 1) ∧ c ∉ l.take o:=by
 have hg:=Lib.indexByte_ge l c
 by_cases h : Lib.indexByte l c = -1
 ·refine .inl ⟨h,fun hm => ?_⟩
  obtain ⟨k,hk,e⟩:=List.mem_iff_getElem.1 hm
  exact Lib.indexByte_none h k (by rw [List.getElem?_eq_getElem hk,e])
 ·obtain ⟨o,ho⟩:=Int.eq_ofNat_of_zero_le (show 0 ≤ Lib.indexByte l c by omega)
  obtain ⟨h1,h2⟩:=Lib.indexByte_some ho
  have hlt : o < l.length:=by
   rcases Nat.lt_or_ge o l.length with h|h
   ·exact h
   ·rw [List.getElem?_eq_none h] at h1;cases h1
  refine .inr ⟨o,ho,hlt,?_,fun hm => ?_⟩
  ·have e : l[o] = c:=by rw [List.getElem?_eq_getElem hlt] at h1;exact Option.some.inj h1
   conv => lhs;rw [← List.take_append_drop o l,List.drop_eq_getElem_cons hlt,e]
  ·obtain ⟨k,hk,e⟩:=List.mem_iff_getElem.1 hm
   rw [List.length_take] at hk
   rw [List.getElem_take] at e
   exact h2 k (by omega) (by rw [List.getElem?_eq_getElem (by omega),e])
/-- A fact that the walk doesn't look into. -/
structure Off (p : Prop) : Prop where mk :: (out : p)
/-- The size of the text in a cell. -/
def szAt (B : Nat) (W : World) : Nat:=match W.cell? ⟨B,0,none⟩ with|some (.string s) => s.size|_ => 0
theorem szAt_boxed {B : Nat} {W : World} {t : TypeId} {s : ByteArray} (h : Boxed W B t (.string s)) : szAt B W = s.size:=by
 unfold szAt
 rw [h.cell]
/-- What a round keeps of the iterator's own cells. -/
def Kp3 (B1 B2 B3 : Nat) (A B : World) : Prop:=B.heap[B1]? = A.heap[B1]? ∧ B.heap[B2]? = A.heap[B2]? ∧ B.heap[B3]? = A.heap[B3]?
/-- The iterator's own steps: a text into its cell. -/
def Tn1 (B2 : Nat) (A B : World) : Prop:=∃ s : ByteArray,B = A.setCell ⟨B2,0,none⟩ (.string s)
set_option maxRecDepth 100000 in
set_option maxHeartbeats 4000000 in
theorem split_in (n : Nat) (hn : 3 ≤ n) (l Bp Bs Bv : Nat) (hne1 : Bp ≠ Bs) (hne2 : Bv ≠ Bs) (c : UInt8) (t : List UInt8) (ht : t.length ≤ 1000000000000) (J Jx : List ByteArray → World → Prop) (hJ : ∀ s A B,J s A → Tn1 Bs A B → J s B)
  (hY : ∀ pre x W1,J pre W1 → pre.length < t.length + 1 → x.size ≤ t.length → YieldAt Fence.wide (n - 1) Tryz.prog l #[.string x] W1 fun e W' => (e = .returned (.bool true) ∧ J (pre ++ [x]) W' ∧ Kp3 Bp Bs Bv W1 W') ∨ (e = .returned (.bool false) ∧ Jx (pre ++ [x]) W'))
  (W : World) (hs : Boxed W Bs 9 (.string (tx t))) (hp : Boxed W Bp 9 (.string ⟨#[c]⟩)) (hv : Boxed W Bv 3 (.int .i64 0)) (h0 : J [] W) :
  CallsIn Fence.wide n Tryz.prog 123 #[.func (.yield l) #[] #[],.pointer (some ⟨Bp,0,none⟩),.pointer (some ⟨Bs,0,none⟩),.pointer (some ⟨Bv,0,none⟩)] W fun e W' => (∃ v,e = .returned v) ∧
   ((∃ ys,ys = (parts c t).map tx ∧ J ys W') ∨ (∃ pre,pre <+: (parts c t).map tx ∧ Jx pre W')):=by
 have h1 : 1 ≤ n:=by omega
 refine callsIn_of_wp Tryz.func123 rfl trivial ?_ rfl
 simp only [Tryz.ntmps123,List.size_toArray,List.length_cons,List.length_nil,Nat.reduceAdd,Nat.reduceSub,Array.replicate_succ,Array.replicate_zero,List.push_toArray,List.append_toArray,List.nil_append,List.cons_append]
 have c1:=hs.cell
 have c2:=hp.cell
 have c3:=hv.cell
 gi_wp2
 gi_loopw [7] (fun i wr => ∃ (pre : List ByteArray) (rest : List UInt8),(parts c t).map tx = pre ++ (parts c rest).map tx ∧ rest.length ≤ t.length ∧ pre.length + rest.length ≤ t.length ∧ Boxed wr Bs 9 (.string (tx rest)) ∧ Boxed wr Bp 9 (.string ⟨#[c]⟩) ∧ Boxed wr Bv 3 (.int .i64 0) ∧ J pre wr)
  (fun i wr => szAt Bs wr)
 case atStart => exact ⟨[],t,rfl,Nat.le_refl _,by simp,hs,hp,hv,h0⟩
 case round =>
  obtain ⟨pre,rest,hpt,hrl,hpl,hs,hp,hv,hJs⟩:=hrel
  have c1:=hs.cell
  have c2:=hp.cell
  have c3:=hv.cell
  rcases h5z c rest with ⟨hix,hnot⟩|⟨o,hix,ho,hsp,hnot⟩
  ·have hcon : Calls Tryz.prog 71 #[.string (tx rest),.string ⟨#[c]⟩] wr fun e w' => e = .returned (.int .i64 (-1)) ∧ w' = wr:=by
    have h:=Tryz.strings_Index_one (tx rest) c wr
    rwa [f4z,hix] at h
   obtain ⟨fn,tmps,assign,body,hy,hR⟩:=hY pre (tx rest) wr hJs (by omega) (by rw [e4z];exact hrl)
   gi_wp2_with (refine ⟨trivial,?_⟩;refine (callsIn_wide.2 hcon).mono ?_;rintro e w' ⟨rfl,rfl⟩)
   refine hR.mono ?_
   rintro e W3 (⟨rfl,hJ3,hk3⟩|⟨rfl,hJx3⟩)
   ·gi_wp2
    go_end0
    refine ⟨⟨_,rfl⟩,.inl ⟨_,?_,hJ3⟩⟩
    rw [hpt,f9z hnot]
    rfl
   ·gi_wp2
    go_end0
    refine ⟨⟨_,rfl⟩,.inr ⟨_,?_,hJx3⟩⟩
    rw [hpt,f9z hnot]
    exact List.prefix_refl _
  ·have hcon : Calls Tryz.prog 71 #[.string (tx rest),.string ⟨#[c]⟩] wr fun e w' => e = .returned (.int .i64 (o : Int)) ∧ w' = wr:=by
    have h:=Tryz.strings_Index_one (tx rest) c wr
    rwa [f4z,hix] at h
   have HS:=Off.mk hsp
   clear hsp
   have hsz:=e4z rest
   have q1 : (0 ≤ (o : Int)) = True:=eq_true (by omega)
   have q2 : ((o : Int) ≤ (rest.length : Int)) = True:=eq_true (by omega)
   have q3 : ((o : Int) < 0) = False:=eq_false (by omega)
   have q4 : wrap64 (o : Int) = (o : Int):=by unfold wrap64;omega
   have q5 : wrap64 ((o : Int) + 1) = (o : Int) + 1:=by unfold wrap64;omega
   obtain ⟨fn,tmps,assign,body,hy,hR⟩:=hY pre ((tx rest).extract 0 o) wr hJs (by omega) (by rw [e6z,List.drop_zero,e4z,List.length_take];omega)
   gi_wp2_with (refine ⟨trivial,?_⟩;refine (callsIn_wide.2 hcon).mono ?_;rintro e w' ⟨rfl,rfl⟩)
   refine hR.mono ?_
   rintro e W3 (⟨rfl,hJ3,hk3⟩|⟨rfl,hJx3⟩)
   ·have hs3 : Boxed W3 Bs 9 (.string (tx rest)):=hk3.2.1.trans hs
    have hp3 : Boxed W3 Bp 9 (.string ⟨#[c]⟩):=hk3.1.trans hp
    have hv3 : Boxed W3 Bv 3 (.int .i64 0):=hk3.2.2.trans hv
    have d1:=hs3.cell
    have d2:=hp3.cell
    have d3:=hv3.cell
    have d4:=hs3.frozen
    have q6 : ((o : Int) + 1 ≤ (rest.length : Int)) = True:=eq_true (by omega)
    have q7 : (0 ≤ (o : Int) + 1) = True:=eq_true (by omega)
    gi_wp2
    have e : parts c rest = rest.take o :: parts c (rest.drop (o + 1)):=by
     have h:=e9z (c:=c) (rest.drop (o + 1)) hnot
     rwa [← HS.out] at h
    have e1 : (tx rest).extract (o + 1) rest.length = tx (rest.drop (o + 1)):=by rw [e6z,List.take_length]
    have e2 : (tx rest).extract 0 o = tx (rest.take o):=by rw [e6z,List.drop_zero]
    have hdl : (rest.drop (o + 1)).length + (o + 1) = rest.length:=by rw [List.length_drop];omega
    rw [e1]
    rw [e2] at hJ3
    have hb:=hs3.set (.string (tx (rest.drop (o + 1))))
    go_roundw
    case rel => exact ⟨pre ++ [tx (rest.take o)],rest.drop (o + 1),by rw [hpt,e,List.append_assoc];rfl,by omega,by rw [List.length_append,List.length_singleton];omega,hb,hp3.other hne1 _,hv3.other hne2 _,hJ _ _ _ hJ3 ⟨_,rfl⟩⟩
    case measure => rw [szAt_boxed hb,szAt_boxed hs,e4z,e4z];omega
   ·gi_wp2
    refine bodyPost_ret (results_none rfl _ _ _) rfl ?_
    refine ⟨⟨_,rfl⟩,.inr ⟨_,?_,hJx3⟩⟩
    have e : parts c rest = rest.take o :: parts c (rest.drop (o + 1)):=by
     have h:=e9z (c:=c) (rest.drop (o + 1)) hnot
     rwa [← HS.out] at h
    rw [hpt,e,List.map_cons,e6z,List.drop_zero]
    exact ⟨_,by rw [List.append_assoc];rfl⟩
/-- The same as a contract for the caller's law. -/
theorem split_seq (n : Nat) (hn : 3 ≤ n) (Bp Bs Bv : Nat) (hne1 : Bp ≠ Bs) (hne2 : Bv ≠ Bs) (c : UInt8) (t : List UInt8) (ht : t.length ≤ 1000000000000) (w : World) (hs : Boxed w Bs 9 (.string (tx t))) (hp : Boxed w Bp 9 (.string ⟨#[c]⟩)) (hv : Boxed w Bv 3 (.int .i64 0)) :
  SeqC Fence.wide n Tryz.prog 123 #[.pointer (some ⟨Bp,0,none⟩),.pointer (some ⟨Bs,0,none⟩),.pointer (some ⟨Bv,0,none⟩)] (fun x : ByteArray => #[.string x]) (fun x => x.size ≤ t.length) (Tn1 Bs) (Kp3 Bp Bs Bv) (fun ys => ys = (parts c t).map tx) (fun pre => pre <+: (parts c t).map tx) (t.length + 1) w :=
 fun l J Jx W hW hJ hY h0 => split_in n hn l Bp Bs Bv hne1 hne2 c t ht J Jx hJ hY W ((hW.block Bs hs.lt).trans hs) ((hW.block Bp hp.lt).trans hp) ((hW.block Bv hv.lt).trans hv) h0
/-- strings.SplitSeq itself: an iterator over three new cells. -/
theorem splitSeq_calls (s p : ByteArray) (w : World) : Calls Tryz.prog 99 #[.string s,.string p] w fun e w' => e = .returned (.func (.func 123) #[] #[.pointer (some ⟨w.heap.size + 1,0,none⟩),.pointer (some ⟨w.heap.size,0,none⟩),.pointer (some ⟨w.heap.size + 2,0,none⟩)]) ∧ w' = ((w.alloc (.cells #[.string s] 9)).alloc (.cells #[.string p] 9)).alloc (.cells #[.int .i64 0] 3):=by
 have hin : Calls Tryz.prog 114 #[.string s,.string p,.int .i64 0] w fun e w' => e = .returned (.func (.func 123) #[] #[.pointer (some ⟨w.heap.size + 1,0,none⟩),.pointer (some ⟨w.heap.size,0,none⟩),.pointer (some ⟨w.heap.size + 2,0,none⟩)]) ∧ w' = ((w.alloc (.cells #[.string s] 9)).alloc (.cells #[.string p] 9)).alloc (.cells #[.int .i64 0] 3):=by
  go_enter Tryz.func114,Tryz.ntmps114
  go_wp2
  go_ret
  exact ⟨by simp,rfl⟩
 go_enter Tryz.func99,Tryz.ntmps99
 go_wp2_with (go_at_call 114;refine hin.mono ?_;rintro e w' ⟨rfl,rfl⟩)
 go_ret
 exact ⟨rfl,rfl⟩
end Go.Proofs.YtgbdnbbfgcogjaaGreatDoor.Sq

namespace Go.Proofs.YtgbdnbbfgcogjaaGreatDoor.Sq
open Go Go.RowKit Go.Shelf Go.Proofs.YtgbdnbbfgcogjaaGreatDoor.Q Go.Proofs.YtgbdnbbfgcogjaaGreatDoorW.PrintWords Go.Proofs.YtgbdnbbfgcogjaaGreatDoorW.PrintLast Go.Proofs.YtgbdnbbfgcogjaaGreatDoorW.PrintMore
attribute [local go_sem] Oper.semAt_some
set_option linter.unusedVariables false
set_option linter.unusedSimpArgs false
/-- One piece more. -/
def stepA (a : Int) (x : ByteArray) : Option Int :=
 match Lib.atoiAll x.data.toList with
 | .ok n => if (0 ≤ n ∧ n ≤ 255) ∧ (0 ≤ a ∧ a ≤ 4294967295) then some (Go.bits .or .i64 (a * 256) n) else none
 | _ => none
def foldA : Int → List ByteArray → Option Int
 | a,[] => some a
 | a,x :: r => (stepA a x).bind fun b => foldA b r
theorem foldA_append : ∀ (r s : List ByteArray) (a : Int),foldA a (r ++ s) = (foldA a r).bind fun b => foldA b s
 | [],s,a => rfl
 | x :: r,s,a => by
  rw [List.cons_append]
  show ((stepA a x).bind fun b => foldA b (r ++ s)) = ((stepA a x).bind fun b => foldA b r).bind fun b => foldA b s
  rcases stepA a x with _|b
  ·rfl
  ·exact foldA_append r s b
theorem foldA_snoc (r : List ByteArray) (x : ByteArray) (a : Int) : foldA a (r ++ [x]) = (foldA a r).bind fun b => stepA b x:=by
 rw [foldA_append]
 congr 1
 funext b
 unfold foldA
 rcases stepA b x with _|z <;> rfl
theorem foldA_prefix {pre xs : List ByteArray} (h : pre <+: xs) {a : Int} (hn : foldA a pre = none) : foldA a xs = none:=by
 obtain ⟨s,rfl⟩:=h
 rw [foldA_append,hn]
 rfl
theorem atoi_calls (x : ByteArray) (hx : x.size ≤ 281474976710656) (w : World) (hT : Tb.T2 w) : Calls Tryz.prog 45 #[.string x] w fun e w' => ∃ n ev,e = .returned (.tuple #[.int .i64 n,ev]) ∧ Below w.heap.size w w' ∧
  ((Lib.atoiAll x.data.toList = .ok n ∧ ev = .nilIface) ∨ ((∀ v,Lib.atoiAll x.data.toList ≠ .ok v) ∧ ∃ te pe,ev = .iface te pe)):=by
 obtain ⟨_,⟨e1,h1,k1⟩,e2,h2,k2⟩:=hT
 rcases hc : Lib.atoiAll x.data.toList with v|_|_
 ·refine (Tryz.strconv_Atoi_ok x (by omega) v hc w).mono ?_
  rintro e w' ⟨rfl,rfl|⟨t,rfl⟩⟩
  ·exact ⟨v,_,rfl,Below.refl _ _,.inl ⟨rfl,rfl⟩⟩
  ·exact ⟨v,_,rfl,bytes_below (Below.refl _ _) (Nat.le_refl _) _ _,.inl ⟨rfl,rfl⟩⟩
 ·refine (Tryz.strconv_Atoi_syntax x hx (by rw [hc];trivial) e1 w h1 k1).mono ?_
  rintro e w' ⟨N,rfl,_,_,hb⟩
  exact ⟨_,_,rfl,hb,.inr ⟨fun v h => (by cases h),_,_,rfl⟩⟩
 ·refine (Tryz.strconv_Atoi_range x hx hc e2 w h2 k2).mono ?_
  rintro e w' ⟨N,rfl,_,_,hb⟩
  exact ⟨_,_,rfl,hb,.inr ⟨fun v h => (by cases h),_,_,rfl⟩⟩
theorem keepsFrom_below {B : Nat} {V W : World} (h : Below V.heap.size V W) : KeepsFrom B V W :=
 ⟨h.size,fun k o _ hk _ => (h.block k (Array.getElem?_eq_some_iff.1 hk).1).trans hk⟩
/-- What has been made of the pieces so far. -/
def valA (pre : List ByteArray) : Int:=(foldA 0 pre).getD 0
/-- What AddrGet answers. -/
def addrGetF (k : Nat) (s : ByteArray) : Option (Int × Bool) :=
 if s.size ≤ 1000000000 then
  match foldA 0 ((parts 46 s.data.toList).map tx) with
  | none => some (0,false)
  | some a => (impl_AddrText.f k a).bind fun t => if t = s then some (a,true) else some (0,false)
 else none
theorem tx_of (s : ByteArray) : tx s.data.toList = s:=by
 apply ByteArray.ext
 simp [tx]
/-- The facts between two rounds. -/
def IA (w : World) (pre : List ByteArray) (W : World) : Prop :=
 (foldA 0 pre = some (valA pre) ∧ w.heap.size + 6 ≤ W.heap.size) ∧ (Boxed W (w.heap.size + 2) 3 (.int .i64 (valA pre)) ∧ Boxed W w.heap.size 3 (.int .i64 0) ∧ Boxed W (w.heap.size + 1) 4 (.bool false)) ∧ Below w.heap.size w W
/-- The facts behind a round that has left. -/
def IX (w : World) (pre : List ByteArray) (W : World) : Prop :=
 foldA 0 pre = none ∧ (Boxed W w.heap.size 3 (.int .i64 0) ∧ Boxed W (w.heap.size + 1) 4 (.bool false)) ∧ Below w.heap.size w W
theorem IA_own (w : World) {B : Nat} (hB : w.heap.size ≤ B) : OwnFrom B (IA w):=by
 intro s W W' row ⟨⟨h1,h2⟩,⟨h3,h4,h5⟩,h6⟩ hg hr
 have hne : ∀ {b : Nat} {t : TypeId} {v : Value},Boxed W b t v → some b ≠ row:=fun {b t v} hb e => by
  obtain ⟨_,o,ho,hc⟩:=hr b e.symm
  rw [show W.heap[b]? = _ from hb] at ho
  cases Option.some.inj ho
  cases hc
 exact ⟨⟨h1,Nat.le_trans h2 hg.size⟩,⟨h3.kept hg (hne h3),h4.kept hg (hne h4),h5.kept hg (hne h5)⟩,ownFrom_below (Nat.le_refl _) hB s W W' row h6 hg hr⟩
theorem IX_own (w : World) {B : Nat} (hB : w.heap.size ≤ B) : OwnFrom B (IX w):=by
 intro s W W' row ⟨h1,⟨h4,h5⟩,h6⟩ hg hr
 have hne : ∀ {b : Nat} {t : TypeId} {v : Value},Boxed W b t v → some b ≠ row:=fun {b t v} hb e => by
  obtain ⟨_,o,ho,hc⟩:=hr b e.symm
  rw [show W.heap[b]? = _ from hb] at ho
  cases Option.some.inj ho
  cases hc
 exact ⟨h1,⟨h4.kept hg (hne h4),h5.kept hg (hne h5)⟩,ownFrom_below (Nat.le_refl _) hB s W W' row h6 hg hr⟩
theorem IA_turn (w : World) : ∀ s A B,IA w s A → Tn1 (w.heap.size + 3) A B → IA w s B:=by
 rintro s A B ⟨⟨h1,h2⟩,⟨h3,h4,h5⟩,h6⟩ ⟨z,rfl⟩
 exact ⟨⟨h1,by simpa using h2⟩,⟨h3.other (by omega) _,h4.other (by omega) _,h5.other (by omega) _⟩,h6.setCell (p:=⟨w.heap.size + 3,0,none⟩) (by show w.heap.size ≤ w.heap.size + 3;omega) _⟩
theorem body_ok {w W V : World} {B : Nat} {pre : List ByteArray} {x : ByteArray} {b : Int} (hI : IA w pre W) (hV : Below W.heap.size W V) (hb : stepA (valA pre) x = some b) (hB : w.heap.size + 3 ≤ B) :
  KeepsFrom B W (V.setCell ⟨w.heap.size + 2,0,none⟩ (.int .i64 b)) ∧ Kp3 (w.heap.size + 4) (w.heap.size + 3) (w.heap.size + 5) W (V.setCell ⟨w.heap.size + 2,0,none⟩ (.int .i64 b)) ∧ IA w (pre ++ [x]) (V.setCell ⟨w.heap.size + 2,0,none⟩ (.int .i64 b)):=by
 obtain ⟨⟨hf,hw6⟩,⟨g2,g0,g1⟩,hbel⟩:=hI
 have e2 : Boxed V (w.heap.size + 2) 3 (.int .i64 (valA pre)):=(hV.block _ g2.lt).trans g2
 have e0 : Boxed V w.heap.size 3 (.int .i64 0):=(hV.block _ g0.lt).trans g0
 have e1 : Boxed V (w.heap.size + 1) 4 (.bool false):=(hV.block _ g1.lt).trans g1
 have hfo : foldA 0 (pre ++ [x]) = some b:=by rw [foldA_snoc,hf];exact hb
 have hva : valA (pre ++ [x]) = b:=by unfold valA;rw [hfo];rfl
 have oth : ∀ k,k ≠ w.heap.size + 2 → k < W.heap.size → (V.setCell ⟨w.heap.size + 2,0,none⟩ (.int .i64 b)).heap[k]? = W.heap[k]?:=fun k hk hl => ((grownBy_setCell' V (w.heap.size + 2) (.int .i64 b)).block k (Nat.lt_of_lt_of_le hl hV.size) (fun e => hk (Option.some.inj e))).trans (hV.block k hl)
 refine ⟨(keepsFrom_below hV).trans ((KeepsOthers.setCell _ _ _).from _),⟨oth _ (by omega) (by omega),oth _ (by omega) (by omega),oth _ (by omega) (by omega)⟩,⟨by rw [hfo,hva],?_⟩,⟨?_,e0.other (by omega) _,e1.other (by omega) _⟩,?_⟩
 ·have:=hV.size
  simp
  omega
 ·rw [hva]
  exact e2.set _
 ·exact (hbel.trans (hV.mono (by omega))).setCell (p:=⟨w.heap.size + 2,0,none⟩) (by show w.heap.size ≤ w.heap.size + 2;omega) _
theorem body_no {w W V : World} {B : Nat} {pre : List ByteArray} {x : ByteArray} (hI : IA w pre W) (hV : Below W.heap.size W V) (hb : stepA (valA pre) x = none) :
  KeepsFrom B W ((V.setCell ⟨w.heap.size,0,none⟩ (.int .i64 0)).setCell ⟨w.heap.size + 1,0,none⟩ (.bool false)) ∧ IX w (pre ++ [x]) ((V.setCell ⟨w.heap.size,0,none⟩ (.int .i64 0)).setCell ⟨w.heap.size + 1,0,none⟩ (.bool false)):=by
 obtain ⟨⟨hf,hw6⟩,⟨g2,g0,g1⟩,hbel⟩:=hI
 have e0 : Boxed V w.heap.size 3 (.int .i64 0):=(hV.block _ g0.lt).trans g0
 have e1 : Boxed V (w.heap.size + 1) 4 (.bool false):=(hV.block _ g1.lt).trans g1
 refine ⟨((keepsFrom_below hV).trans ((KeepsOthers.setCell _ _ _).from _)).trans ((KeepsOthers.setCell _ _ _).from _),by rw [foldA_snoc,hf];exact hb,⟨(e0.set _).other (by omega) _,(e1.other (by omega) _).set _⟩,?_⟩
 exact ((hbel.trans (hV.mono (by omega))).setCell (p:=⟨w.heap.size,0,none⟩) (Nat.le_refl _) _).setCell (p:=⟨w.heap.size + 1,0,none⟩) (by show w.heap.size ≤ w.heap.size + 1;omega) _
theorem six (w : World) (o0 o1 o2 o3 o4 o5 : Obj) (W0 : World) (h : (((((w.alloc o0).alloc o1).alloc o2).alloc o3).alloc o4).alloc o5 = W0) :
  W0.heap.size = w.heap.size + 6 ∧ W0.heap[w.heap.size]? = some o0 ∧ W0.heap[w.heap.size + 1]? = some o1 ∧ W0.heap[w.heap.size + 2]? = some o2 ∧ W0.heap[w.heap.size + 3]? = some o3 ∧ W0.heap[w.heap.size + 4]? = some o4 ∧ W0.heap[w.heap.size + 5]? = some o5 ∧ Below w.heap.size w W0:=by
 subst h
 have a : ∀ (V : World) (o : Obj) (m : Nat),V.heap.size = m → (V.alloc o).heap[m]? = some o:=fun V o m e => by rw [← e];exact World.alloc_heap_new V o
 have b : ∀ (V : World) (o : Obj) (m : Nat),m < V.heap.size → (V.alloc o).heap[m]? = V.heap[m]?:=fun V o m e => Below.heap_alloc _ _ _ e
 have s1 : (w.alloc o0).heap.size = w.heap.size + 1:=by simp
 have s2 : ((w.alloc o0).alloc o1).heap.size = w.heap.size + 2:=by simp
 have s3 : (((w.alloc o0).alloc o1).alloc o2).heap.size = w.heap.size + 3:=by simp
 have s4 : ((((w.alloc o0).alloc o1).alloc o2).alloc o3).heap.size = w.heap.size + 4:=by simp
 have s5 : (((((w.alloc o0).alloc o1).alloc o2).alloc o3).alloc o4).heap.size = w.heap.size + 5:=by simp
 refine ⟨by simp,?_,?_,?_,?_,?_,a _ _ _ s5,?_⟩
 ·rw [b _ _ _ (by omega),b _ _ _ (by omega),b _ _ _ (by omega),b _ _ _ (by omega),b _ _ _ (by omega)];exact a _ _ _ rfl
 ·rw [b _ _ _ (by omega),b _ _ _ (by omega),b _ _ _ (by omega),b _ _ _ (by omega)];exact a _ _ _ s1
 ·rw [b _ _ _ (by omega),b _ _ _ (by omega),b _ _ _ (by omega)];exact a _ _ _ s2
 ·rw [b _ _ _ (by omega),b _ _ _ (by omega)];exact a _ _ _ s3
 ·rw [b _ _ _ (by omega)];exact a _ _ _ s4
 ·exact ((((((Below.refl _ w).alloc (Nat.le_refl _) _).alloc (by omega) _).alloc (by omega) _).alloc (by omega) _).alloc (by omega) _).alloc (by omega) _
set_option maxRecDepth 100000 in
set_option maxHeartbeats 4000000 in
theorem addrGet_in (n : Nat) (hn : 6 ≤ n) (k : Nat) (s : ByteArray) (r : Int × Bool) (w : World) (hT : Tb.T2 w) (h : addrGetF k s = some r) :
  CallsIn Fence.wide n Tryz.prog 76 #[.string s] w fun e w' => e = .returned (.tuple #[.int .i64 r.1,.bool r.2]) ∧ Below w.heap.size w w':=by
 have h1 : 1 ≤ n:=by omega
 unfold addrGetF at h
 by_cases hsz : s.size ≤ 1000000000
 ·rw [if_pos hsz] at h
  have hsl : s.data.toList.length = s.size:=Array.length_toList
  refine callsIn_of_wp_marks Tryz.func76 rfl trivial ?_ rfl
  simp only [Tryz.ntmps76,List.size_toArray,List.length_cons,List.length_nil,Nat.reduceAdd,Nat.reduceSub,Array.replicate_succ,Array.replicate_zero,List.push_toArray,List.append_toArray,List.nil_append,List.cons_append]
  gi_wp2_with (refine ⟨trivial,?_⟩;refine (callsIn_wide.2 (splitSeq_calls _ _ _)).mono ?_;rintro e w' ⟨rfl,rfl⟩)
  obtain ⟨W0,hW0⟩ : ∃ W0,(((((w.alloc (.cells #[.int .i64 0] 3)).alloc (.cells #[.bool false] 4)).alloc (.cells #[.int .i64 0] 3)).alloc (.cells #[.string s] 9)).alloc (.cells #[.string ⟨#[46]⟩] 9)).alloc (.cells #[.int .i64 0] 3) = W0:=⟨_,rfl⟩
  obtain ⟨hsz0,b0,b1,b2,b3,b4,b5,bel0⟩:=six w _ _ _ _ _ _ W0 hW0
  simp only [Nat.add_assoc,Nat.reduceAdd]
  rw [hW0]
  clear hW0
  refine wpIn_range_own (w:=W0) (w0:=W0) rfl h1 (gf:=123) (lb:=#[.pointer (some ⟨w.heap.size + 4,0,none⟩),.pointer (some ⟨w.heap.size + 3,0,none⟩),.pointer (some ⟨w.heap.size + 5,0,none⟩)]) rfl trivial (enters_of Tryz.func123 (by kernel_rfl) rfl)
   (split_seq (n - 1) (by omega) (w.heap.size + 4) (w.heap.size + 3) (w.heap.size + 5) (by omega) (by omega) 46 s.data.toList (by omega) W0 (by rw [tx_of];exact b3) b4 b5)
   (fun A B ⟨z,e⟩ => e ▸ KeepsOthers.setCell _ _ _) (fun {A B C} h1 h2 => ⟨h2.1.trans h1.1,h2.2.1.trans h1.2.1,h2.2.2.trans h1.2.2⟩)
   (fun W l o o' hl ho hc => ⟨World.putObj_heap_other (by omega),World.putObj_heap_other (by omega),World.putObj_heap_other (by omega)⟩) (Below.refl _ _) (fun _ => rfl)
   (IA w) (IX w) (IA_own w (by omega)) (IX_own w (by omega)) (IA_turn w) ⟨⟨rfl,by omega⟩,⟨b2,b0,b1⟩,bel0⟩
   (fun x => { tmps:=#[.string s,undef,.pointer (some ⟨w.heap.size,0,none⟩),.pointer (some ⟨w.heap.size + 1,0,none⟩),.pointer (some ⟨w.heap.size + 2,0,none⟩),.string x,undef,undef,.string s,.func (.func 123) #[] #[.pointer (some ⟨w.heap.size + 4,0,none⟩),.pointer (some ⟨w.heap.size + 3,0,none⟩),.pointer (some ⟨w.heap.size + 5,0,none⟩)],.string x,undef,undef,undef,undef,undef,undef,undef,undef,undef,undef,undef,undef,undef,undef,undef,undef,undef,undef,undef,undef,undef,undef,undef,undef,undef,undef],defers:=[] }) ?assign ?body ?done ?stop
  case assign =>
   intro l x W K hK
   gi_wp2
   exact hK
  case body =>
   rintro l pre x W hl hIA hlen hok
   have hI:=hIA
   obtain ⟨⟨hf,hw6⟩,⟨g2,g0,g1⟩,hbel⟩:=hI
   have h2 : 1 ≤ n - 1 - 1:=by omega
   have hat:=atoi_calls x (by omega) W (hT.below hbel)
   by_cases hv : ∃ v,Lib.atoiAll x.data.toList = .ok v
   ·obtain ⟨v,hv⟩:=hv
    have hat' : Calls Tryz.prog 45 #[.string x] W fun e w' => e = .returned (.tuple #[.int .i64 v,.nilIface]) ∧ Below W.heap.size W w':=hat.mono fun e w' ⟨n',ev,he,hb,hc⟩ => by
     rcases hc with ⟨h1,h2⟩|⟨h1,_⟩
     ·rw [hv] at h1
      cases h1
      exact ⟨by rw [he,h2],hb⟩
     ·exact absurd hv (h1 v)
    clear hat
    have hin:=fun V r h => impl_in.calls v 0 255 r V h
    by_cases hr : 0 ≤ v ∧ v ≤ 255
    ·have hinv : impl_in.f v 0 255 = some true:=by
      unfold impl_in.f
      simp [hr.1,hr.2]
     by_cases ha : 0 ≤ valA pre ∧ valA pre ≤ 4294967295
     ·have had : impl_isAddr.f (valA pre) = some true:=by
       unfold impl_isAddr.f impl_in.f
       simp [ha.1,ha.2]
      have hst : stepA (valA pre) x = some (Go.bits .or .i64 (valA pre * 256) v):=by
       unfold stepA
       rw [hv]
       exact if_pos ⟨hr,ha⟩
      gi_wp2
      refine ⟨trivial,?_⟩
      refine (CallsIn.inRound l (callsIn_wide.2 hat')).mono ?_
      rintro e W1 ⟨rfl,hb1⟩
      have f0 : Boxed W1 w.heap.size 3 (.int .i64 0):=(hb1.block _ g0.lt).trans g0
      have f1 : Boxed W1 (w.heap.size + 1) 4 (.bool false):=(hb1.block _ g1.lt).trans g1
      have f2 : Boxed W1 (w.heap.size + 2) 3 (.int .i64 (valA pre)):=(hb1.block _ g2.lt).trans g2
      have c0:=f0.cell
      have c1:=f1.cell
      have c2:=f2.cell
      have d0:=f0.frozen
      have d1:=f1.frozen
      have d2:=f2.frozen
      gi_wp2_with (first|(refine ⟨trivial,?_⟩;refine (CallsIn.inRound l (callsIn_wide.2 (impl_in.calls v 0 255 true _ hinv))).mono ?_;rintro e w' ⟨rfl,⟨nd,rfl⟩⟩)|(refine ⟨trivial,?_⟩;refine (CallsIn.inRound l (callsIn_wide.2 (impl_isAddr.calls (valA pre) true _ had))).mono ?_;rintro e w' ⟨rfl,⟨nd,rfl⟩⟩)|(refine ⟨trivial,?_⟩))
      exact body_ok hIA (a0z hb1 _) hst (by omega)
     ·have had : impl_isAddr.f (valA pre) = some false:=by
       unfold impl_isAddr.f impl_in.f
       by_cases h0 : valA pre ≥ 0
       ·simp [h0];omega
       ·simp [h0]
      have hst : stepA (valA pre) x = none:=by
       unfold stepA
       rw [hv]
       exact if_neg fun h => ha h.2
      gi_wp2
      refine ⟨trivial,?_⟩
      refine (CallsIn.inRound l (callsIn_wide.2 hat')).mono ?_
      rintro e W1 ⟨rfl,hb1⟩
      have f0 : Boxed W1 w.heap.size 3 (.int .i64 0):=(hb1.block _ g0.lt).trans g0
      have f1 : Boxed W1 (w.heap.size + 1) 4 (.bool false):=(hb1.block _ g1.lt).trans g1
      have f2 : Boxed W1 (w.heap.size + 2) 3 (.int .i64 (valA pre)):=(hb1.block _ g2.lt).trans g2
      have c0:=f0.cell
      have c1:=f1.cell
      have c2:=f2.cell
      have d0:=f0.frozen
      have d1:=f1.frozen
      have d2:=f2.frozen
      gi_wp2_with (first|(refine ⟨trivial,?_⟩;refine (CallsIn.inRound l (callsIn_wide.2 (impl_in.calls v 0 255 true _ hinv))).mono ?_;rintro e w' ⟨rfl,⟨nd,rfl⟩⟩)|(refine ⟨trivial,?_⟩;refine (CallsIn.inRound l (callsIn_wide.2 (impl_isAddr.calls (valA pre) false _ had))).mono ?_;rintro e w' ⟨rfl,⟨nd,rfl⟩⟩)|(refine ⟨trivial,?_⟩))
      exact ⟨(body_no hIA (a0z hb1 _) hst).1,rfl,(body_no (B:=W0.heap.size) hIA (a0z hb1 _) hst).2⟩
    ·have hinv : impl_in.f v 0 255 = some false:=by
      unfold impl_in.f
      by_cases h0 : v ≥ 0
      ·simp [h0];omega
      ·simp [h0]
     have hst : stepA (valA pre) x = none:=by
      unfold stepA
      rw [hv]
      exact if_neg fun h => hr h.1
     gi_wp2
     refine ⟨trivial,?_⟩
     refine (CallsIn.inRound l (callsIn_wide.2 hat')).mono ?_
     rintro e W1 ⟨rfl,hb1⟩
     have f0 : Boxed W1 w.heap.size 3 (.int .i64 0):=(hb1.block _ g0.lt).trans g0
     have f1 : Boxed W1 (w.heap.size + 1) 4 (.bool false):=(hb1.block _ g1.lt).trans g1
     have f2 : Boxed W1 (w.heap.size + 2) 3 (.int .i64 (valA pre)):=(hb1.block _ g2.lt).trans g2
     have c0:=f0.cell
     have c1:=f1.cell
     have c2:=f2.cell
     have d0:=f0.frozen
     have d1:=f1.frozen
     have d2:=f2.frozen
     gi_wp2_with (first|(refine ⟨trivial,?_⟩;refine (CallsIn.inRound l (callsIn_wide.2 (impl_in.calls v 0 255 false _ hinv))).mono ?_;rintro e w' ⟨rfl,⟨nd,rfl⟩⟩)|(refine ⟨trivial,?_⟩))
     exact ⟨(body_no hIA (a0z hb1 _) hst).1,rfl,(body_no (B:=W0.heap.size) hIA (a0z hb1 _) hst).2⟩
   ·have hat' : Calls Tryz.prog 45 #[.string x] W fun e w' => (∃ nv te pe,e = .returned (.tuple #[.int .i64 nv,.iface te pe])) ∧ Below W.heap.size W w':=hat.mono fun e w' ⟨n',ev,he,hb,hc⟩ => by
     rcases hc with ⟨h1,_⟩|⟨_,te,pe,h2⟩
     ·exact absurd ⟨n',h1⟩ hv
     ·exact ⟨⟨n',te,pe,by rw [he,h2]⟩,hb⟩
    clear hat
    have hst : stepA (valA pre) x = none:=by
     unfold stepA
     rcases hc : Lib.atoiAll x.data.toList with v|_|_
     ·exact absurd ⟨v,hc⟩ hv
     ·rfl
     ·rfl
    gi_wp2
    refine ⟨trivial,?_⟩
    refine (CallsIn.inRound l (callsIn_wide.2 hat')).mono ?_
    rintro e W1 ⟨⟨nv,te,pe,rfl⟩,hb1⟩
    have f0 : Boxed W1 w.heap.size 3 (.int .i64 0):=(hb1.block _ g0.lt).trans g0
    have f1 : Boxed W1 (w.heap.size + 1) 4 (.bool false):=(hb1.block _ g1.lt).trans g1
    have c0:=f0.cell
    have c1:=f1.cell
    have d0:=f0.frozen
    have d1:=f1.frozen
    gi_wp2_with (refine ⟨trivial,?_⟩)
    obtain ⟨k1,k2⟩:=body_no hIA hb1 hst
    exact ⟨k1,rfl,k2⟩
  case done =>
   rintro D xs W hD rfl ⟨⟨hf,hw6⟩,⟨g2,g0,g1⟩,hbel⟩ hK
   rw [hf] at h
   dsimp only at h
   obtain ⟨t,ht,h⟩:=Option.bind_eq_some_iff.1 h
   have hAT:=impl_AddrText.calls k _ t W (Tb.T1.of (hT.below hbel)) ht
   have hKl : D < W.heap.size:=(Array.getElem?_eq_some_iff.1 hK).1
   have c2:=g2.cell
   by_cases hts : t = s
   ·rw [if_pos hts] at h
    obtain rfl:=Option.some.inj h
    gi_wp2
    refine ⟨trivial,?_⟩
    refine (callsIn_wide.2 hAT).mono ?_
    rintro e W1 ⟨rfl,hb1⟩
    have f0 : Boxed W1 w.heap.size 3 (.int .i64 0):=(hb1.block _ g0.lt).trans g0
    have f1 : Boxed W1 (w.heap.size + 1) 4 (.bool false):=(hb1.block _ g1.lt).trans g1
    have f2 : Boxed W1 (w.heap.size + 2) 3 (.int .i64 (valA ((parts 46 s.data.toList).map tx))):=(hb1.block _ g2.lt).trans g2
    have hK1 : W1.heap[D]? = some (.deferred (some [])):=(hb1.block _ hKl).trans hK
    have c0:=f0.cell
    have c1:=f1.cell
    have c2:=f2.cell
    have d0:=f0.frozen
    have d1:=f1.frozen
    have d2:=f2.frozen
    gi_wp2
    have z0 : Boxed _ _ _ _:=((f0.set (.int .i64 (valA ((parts 46 s.data.toList).map tx)))).other (B':=w.heap.size + 1) (by omega) (.bool true))
    have z1 : Boxed _ _ _ _:=((f1.other (B':=w.heap.size) (by omega) (.int .i64 (valA ((parts 46 s.data.toList).map tx)))).set (.bool true))
    have zk:=(KeepsOthers.setCell _ ⟨w.heap.size + 1,0,none⟩ (.bool true)).same D _ ((KeepsOthers.setCell W1 ⟨w.heap.size,0,none⟩ (.int .i64 (valA ((parts 46 s.data.toList).map tx)))).same D _ hK1 rfl) rfl
    have zb:=((hbel.trans (hb1.mono hbel.size)).setCell (p:=⟨w.heap.size,0,none⟩) (Nat.le_refl _) (.int .i64 (valA ((parts 46 s.data.toList).map tx)))).setCell (p:=⟨w.heap.size + 1,0,none⟩) (by show w.heap.size ≤ w.heap.size + 1;omega) (.bool true)
    refine ⟨by simp,.inl ⟨_,_,rfl,run_takeDeferred zk,?_⟩⟩
    have y0:=cell_kept z0.cell (grownBy_putObj' _ D (.deferred none)) (fun r e => by cases e;exact ⟨_,zk,rfl⟩)
    have y1:=cell_kept z1.cell (grownBy_putObj' _ D (.deferred none)) (fun r e => by cases e;exact ⟨_,zk,rfl⟩)
    refine ⟨.tuple #[.int .i64 (valA ((parts 46 s.data.toList).map tx)),.bool true],?_,rfl,zb.trans (belowK_b (w:=w) (Nat.le_refl _) _ D _ _ (by omega) zk rfl rfl)⟩
    simp [results,Tryz.f76,go_sem,y0,y1]
   ·rw [if_neg hts] at h
    have hne : (t.toList == s.toList) = false:=beq_eq_false_iff_ne.2 fun e => hts (by
     rw [ByteArray.toList_eq,ByteArray.toList_eq] at e
     rw [← tx_of t,← tx_of s,e])
    obtain rfl:=Option.some.inj h
    gi_wp2
    refine ⟨trivial,?_⟩
    refine (callsIn_wide.2 hAT).mono ?_
    rintro e W1 ⟨rfl,hb1⟩
    have f0 : Boxed W1 w.heap.size 3 (.int .i64 0):=(hb1.block _ g0.lt).trans g0
    have f1 : Boxed W1 (w.heap.size + 1) 4 (.bool false):=(hb1.block _ g1.lt).trans g1
    have f2 : Boxed W1 (w.heap.size + 2) 3 (.int .i64 (valA ((parts 46 s.data.toList).map tx))):=(hb1.block _ g2.lt).trans g2
    have hK1 : W1.heap[D]? = some (.deferred (some [])):=(hb1.block _ hKl).trans hK
    have c0:=f0.cell
    have c1:=f1.cell
    have c2:=f2.cell
    have d0:=f0.frozen
    have d1:=f1.frozen
    have d2:=f2.frozen
    gi_wp2
    have z0 : Boxed _ _ _ _:=((f0.set (.int .i64 0)).other (B':=w.heap.size + 1) (by omega) (.bool false))
    have z1 : Boxed _ _ _ _:=((f1.other (B':=w.heap.size) (by omega) (.int .i64 0)).set (.bool false))
    have zk:=(KeepsOthers.setCell _ ⟨w.heap.size + 1,0,none⟩ (.bool false)).same D _ ((KeepsOthers.setCell W1 ⟨w.heap.size,0,none⟩ (.int .i64 0)).same D _ hK1 rfl) rfl
    have zb:=((hbel.trans (hb1.mono hbel.size)).setCell (p:=⟨w.heap.size,0,none⟩) (Nat.le_refl _) (.int .i64 0)).setCell (p:=⟨w.heap.size + 1,0,none⟩) (by show w.heap.size ≤ w.heap.size + 1;omega) (.bool false)
    refine ⟨by simp,.inl ⟨_,_,rfl,run_takeDeferred zk,?_⟩⟩
    have y0:=cell_kept z0.cell (grownBy_putObj' _ D (.deferred none)) (fun r e => by cases e;exact ⟨_,zk,rfl⟩)
    have y1:=cell_kept z1.cell (grownBy_putObj' _ D (.deferred none)) (fun r e => by cases e;exact ⟨_,zk,rfl⟩)
    refine ⟨.tuple #[.int .i64 0,.bool false],?_,rfl,zb.trans (belowK_b (w:=w) (Nat.le_refl _) _ D _ _ (by omega) zk rfl rfl)⟩
    simp [results,Tryz.f76,go_sem,y0,y1]
  case stop =>
   rintro D pre W hD hpre ⟨hf,⟨g0,g1⟩,hbel⟩ hK
   rw [foldA_prefix hpre hf] at h
   obtain rfl:=Option.some.inj h
   gi_wp2
   have z0 : Boxed _ _ _ _:=g0
   have z1 : Boxed _ _ _ _:=g1
   have zk:=hK
   have zb:=hbel
   refine ⟨by simp,.inl ⟨_,_,rfl,run_takeDeferred zk,?_⟩⟩
   have y0:=cell_kept z0.cell (grownBy_putObj' _ D (.deferred none)) (fun r e => by cases e;exact ⟨_,zk,rfl⟩)
   have y1:=cell_kept z1.cell (grownBy_putObj' _ D (.deferred none)) (fun r e => by cases e;exact ⟨_,zk,rfl⟩)
   refine ⟨.tuple #[.int .i64 0,.bool false],?_,rfl,zb.trans (belowK_b (w:=w) (Nat.le_refl _) _ D _ _ (by omega) zk rfl rfl)⟩
   simp [results,Tryz.f76,go_sem,y0,y1]
 ·rw [if_neg hsz] at h
  cases h
end Go.Proofs.YtgbdnbbfgcogjaaGreatDoor.Sq

namespace Go.Proofs.YtgbdnbbfgcogjaaGreatDoor.Q
open Go.RowKit Go.Proofs.YtgbdnbbfgcogjaaGreatDoorW.PrintWords Go.Proofs.YtgbdnbbfgcogjaaGreatDoorW.PrintLast Go.Proofs.YtgbdnbbfgcogjaaGreatDoorW.PrintMore
attribute [local go_sem] d7z d5z d9z d8z c8z c7z d6z d4z
set_option linter.unusedVariables false
set_option linter.unusedSimpArgs false
/-- What AddrGet answers. -/
def impl_AddrGet.f (k : Nat) (a0 : ByteArray) : Option (Int × Bool):=Sq.addrGetF k a0
theorem impl_AddrGet.calls (k : Nat) (a0 : ByteArray) (r1 : Int) (r2 : Bool) (w : World) (hT : Tb.T2 w) (h : impl_AddrGet.f k a0 = some (r1,r2)) :
  Calls Tryz.prog 76 #[.string a0] w fun e w' => e = .returned (.tuple #[.int .i64 r1,.bool r2]) ∧ Below w.heap.size w w' :=
 callsIn_wide.1 (Sq.addrGet_in 6 (Nat.le_refl _) k a0 (r1,r2) w hT h)
end Go.Proofs.YtgbdnbbfgcogjaaGreatDoor.Q

namespace Go.Proofs.YtgbdnbbfgcogjaaGreatDoor.Sq
open Go Go.RowKit Go.Shelf Go.Proofs.YtgbdnbbfgcogjaaGreatDoor.Q Go.Proofs.YtgbdnbbfgcogjaaGreatDoorW.PrintWords Go.Proofs.YtgbdnbbfgcogjaaGreatDoorW.PrintLast Go.Proofs.YtgbdnbbfgcogjaaGreatDoorW.PrintMore
attribute [local go_sem] Oper.semAt_some
set_option linter.unusedVariables false
set_option linter.unusedSimpArgs false
/-- A text cut at the first place of a byte. -/
def cut1 (c : UInt8) (l : List UInt8) : List UInt8 × List UInt8 × Bool:=if 0 ≤ Lib.indexByte l c then (l.take (Lib.indexByte l c).toNat,l.drop ((Lib.indexByte l c).toNat + 1),true) else (l,[],false)
theorem cut_eval (c : UInt8) (s : ByteArray) (hs : s.size ≤ 1000000000) : strings_Cut.f s ⟨#[c]⟩ = some (tx (cut1 c s.data.toList).1,tx (cut1 c s.data.toList).2.1,(cut1 c s.data.toList).2.2):=by
 have hx:=tx_of s
 have hl : s.data.toList.length = s.size:=Array.length_toList
 unfold strings_Cut.f stringslite_Cut.f stringslite_Index.f
 generalize s.data.toList = l at hx hl
 subst hx
 simp only [Option.bind_some]
 rw [e4z]
 have h1 : ((⟨#[c]⟩ : ByteArray).size : Int) = 1:=rfl
 rw [h1]
 unfold cut1
 rcases h5z c l with ⟨hi,_⟩|⟨o,hi,ho,_,_⟩
 ·rw [hi,if_neg (by omega),if_neg (by omega),Option.bind_some]
  rfl
 ·rw [hi]
  have hw : wrap64 ((o : Int) + 1) = ((o + 1 : Nat) : Int):=by unfold wrap64;omega
  rw [hw,if_pos (by omega),if_pos (by omega),if_pos (by omega),if_pos (by omega),if_pos (by omega),if_pos (by omega),Option.bind_some,Int.toNat_natCast,Int.toNat_natCast,e6z,e6z,List.take_length,List.drop_zero]
/-- A block that holds two numbers, and what is read of it. -/
def Two (W : World) (b : Nat) (t : TypeId) (u v : Value) : Prop:=W.heap[b]? = some (.cells #[u,v] t (0,0))
theorem Two.c0 {W : World} {b : Nat} {t : TypeId} {u v : Value} (h : Two W b t u v) : W.cell? ⟨b,0,none⟩ = some u:=by simp [World.cell?,show W.heap[b]? = _ from h]
theorem Two.c1 {W : World} {b : Nat} {t : TypeId} {u v : Value} (h : Two W b t u v) : W.cell? ⟨b,1,none⟩ = some v:=by simp [World.cell?,show W.heap[b]? = _ from h]
theorem Two.d0 {W : World} {b : Nat} {t : TypeId} {u v : Value} (h : Two W b t u v) : W.frozen? ⟨b,0,none⟩ = false:=by simp [World.frozen?,show W.heap[b]? = _ from h]
theorem Two.d1 {W : World} {b : Nat} {t : TypeId} {u v : Value} (h : Two W b t u v) : W.frozen? ⟨b,1,none⟩ = false:=by simp [World.frozen?,show W.heap[b]? = _ from h]
theorem Two.set0 {W : World} {b : Nat} {t : TypeId} {u v : Value} (x : Value) (h : Two W b t u v) : Two (W.setCell ⟨b,0,none⟩ x) b t x v:=by
 obtain ⟨hlt,hk⟩:=Array.getElem?_eq_some_iff.1 h
 show (W.heap.modify b _)[b]? = _
 rw [Array.getElem?_eq_getElem (by rw [Array.size_modify];exact hlt),Array.getElem_modify_self,hk]
 rfl
theorem Two.set1 {W : World} {b : Nat} {t : TypeId} {u v : Value} (x : Value) (h : Two W b t u v) : Two (W.setCell ⟨b,1,none⟩ x) b t u x:=by
 obtain ⟨hlt,hk⟩:=Array.getElem?_eq_some_iff.1 h
 show (W.heap.modify b _)[b]? = _
 rw [Array.getElem?_eq_getElem (by rw [Array.size_modify];exact hlt),Array.getElem_modify_self,hk]
 rfl
/-- What BlockGet answers. -/
def blockGetF (k : Nat) (s : ByteArray) : Option (Int × Int × Bool) :=
 if s.size ≤ 1000000000 then
  (impl_AddrGet.f k (tx (cut1 47 s.data.toList).1)).bind fun q =>
   match Lib.atoiAll (cut1 47 s.data.toList).2.1 with
   | .ok n => if q.2 = true then (impl_BlockText.f k q.1 n).bind fun t => if t = s then some (q.1,n,true) else some (0,0,false) else some (0,0,false)
   | _ => some (0,0,false)
 else none
set_option maxRecDepth 100000 in
set_option maxHeartbeats 4000000 in
theorem blockGet_calls (k : Nat) (s : ByteArray) (r1 r2 : Int) (r3 : Bool) (w : World) (hT : Tb.T2 w) (h : blockGetF k s = some (r1,r2,r3)) :
  Calls Tryz.prog 47 #[.string s] w fun e w' => e = .returned (.tuple #[.agg #[.int .i64 r1,.int .i64 r2],.bool r3]) ∧ Below w.heap.size w w':=by
 unfold blockGetF at h
 by_cases hsz : s.size ≤ 1000000000
 ·rw [if_pos hsz] at h
  obtain ⟨⟨a,ok⟩,hA,h⟩:=Option.bind_eq_some_iff.1 h
  dsimp only at h
  have hcut:=fun W => strings_Cut.calls s ⟨#[47]⟩ _ _ _ W (cut_eval 47 s hsz)
  have hms : (tx (cut1 47 s.data.toList).2.1).size ≤ 281474976710656:=by
   have hl : s.data.toList.length = s.size:=Array.length_toList
   rw [e4z]
   unfold cut1
   split
   ·rw [lD_];omega
   ·simp
  have hato:=fun W (hW : Tb.T2 W) => atoi_calls (tx (cut1 47 s.data.toList).2.1) hms W hW
  rw [f4z] at hato
  generalize (cut1 47 s.data.toList).1 = b at hcut hA
  generalize (cut1 47 s.data.toList).2.1 = m at hcut hato h hms
  generalize (cut1 47 s.data.toList).2.2 = f at hcut
  have hget:=fun W (hW : Tb.T2 W) => impl_AddrGet.calls k (tx b) a ok W hW hA
  clear hA
  have hB0 : Below w.heap.size w (w.alloc (.cells #[.int .i64 0,.int .i64 0] 37)):=(Below.refl _ w).alloc (Nat.le_refl _) _
  have x0 : (w.alloc (.cells #[.int .i64 0,.int .i64 0] 37)).heap[w.heap.size]? = some (.cells #[.int .i64 0,.int .i64 0] 37 (0,0)):=World.alloc_heap_new w _
  go_enter Tryz.func47,Tryz.ntmps47
  go_wp2_with (go_at_call 48;refine (hcut _).mono ?_;rintro e w' ⟨rfl,⟨nd,rfl⟩⟩)
  refine (hget _ (hT.below (a0z hB0 nd))).mono ?_
  rintro e w1 ⟨rfl,hb1⟩
  have hbel1 : Below w.heap.size w w1:=(a0z hB0 nd).trans (hb1.mono (by simp))
  have e1 : w1.heap[w.heap.size]? = some (.cells #[.int .i64 0,.int .i64 0] 37 (0,0)):=(hb1.block _ (by simp)).trans x0
  have hs1 : w.heap.size + 1 ≤ w1.heap.size:=(Array.getElem?_eq_some_iff.1 e1).1
  clear hb1 hget hcut
  have hato:=hato w1 (hT.below hbel1)
  dsimp only
  rcases hc : Lib.atoiAll m with v|_|_
  ·rw [hc] at h
   have hat' : Calls Tryz.prog 45 #[.string (tx m)] w1 fun e w' => e = .returned (.tuple #[.int .i64 v,.nilIface]) ∧ Below w1.heap.size w1 w':=hato.mono fun e w' ⟨n',ev,he,hb,hc'⟩ => by
    rcases hc' with ⟨h1,h2⟩|⟨h1,_⟩
    ·rw [hc] at h1
     cases h1
     exact ⟨by rw [he,h2],hb⟩
    ·exact absurd hc (h1 v)
   clear hato
   dsimp only at h
   cases ok
   ·rw [if_neg (by simp)] at h
    cases h
    go_wp2_with (go_at_call 45;refine hat'.mono ?_;rintro e w2 ⟨rfl,hb2⟩;have x2 : ∀ o,Two (w2.alloc o) w.heap.size 37 (.int .i64 0) (.int .i64 0):=(fun o => (Below.heap_alloc _ _ _ (Nat.lt_of_lt_of_le hs1 hb2.size)).trans ((hb2.block _ hs1).trans e1));have c0:=fun o => (x2 o).c0;have d0:=fun o => (x2 o).d0;have c1:=fun o x => ((x2 o).set0 x).c1;have d1:=fun o x => ((x2 o).set0 x).d1)
    refine bodyPost_ret (f5z rfl _ _ w.heap.size 37 #[.int .i64 0,.int .i64 0] (0,0) _ rfl (((x2 _).set0 _).set1 _) Tryz.underlying37 rfl (by kernel_rfl)) rfl ?_
    exact ⟨rfl,(((hbel1.trans (hb2.mono hbel1.size)).alloc (Nat.le_trans hbel1.size hb2.size) _).setCell (p:=⟨w.heap.size,0,none⟩) (Nat.le_refl _) _).setCell (p:=⟨w.heap.size,1,none⟩) (Nat.le_refl _) _⟩
   ·rw [if_pos rfl] at h
    obtain ⟨t,ht,h⟩:=Option.bind_eq_some_iff.1 h
    have hbt:=fun W (hW : Tb.T2 W) => impl_BlockText.calls k a v t W (Tb.T1.of hW) ht
    go_wp2_with (go_at_call 45;refine hat'.mono ?_;rintro e w2 ⟨rfl,hb2⟩)
    have hbel2 : Below w.heap.size w (w2.alloc (.cells #[.int .i64 a,.int .i64 v] 37)):=(hbel1.trans (hb2.mono hbel1.size)).alloc (Nat.le_trans hbel1.size hb2.size) _
    refine (hbt _ (hT.below hbel2)).mono ?_
    rintro e w3 ⟨rfl,hb3⟩
    have y0 : Two w3 w.heap.size 37 (.int .i64 0) (.int .i64 0):=(hb3.block _ (by have:=hb2.size;simp;omega)).trans ((Below.heap_alloc _ _ _ (Nat.lt_of_lt_of_le hs1 hb2.size)).trans ((hb2.block _ hs1).trans e1))
    have z0 : Two w3 w2.heap.size 37 (.int .i64 a) (.int .i64 v):=(hb3.block _ (by simp)).trans (World.alloc_heap_new w2 _)
    have c0:=y0.c0
    have d0:=y0.d0
    have c1:=fun x => (y0.set0 x).c1
    have d1:=fun x => (y0.set0 x).d1
    have c2:=z0.c0
    have c3:=z0.c1
    dsimp only
    by_cases hts : t = s
    ·rw [if_pos hts] at h
     cases h
     go_wp2
     refine bodyPost_ret (f5z rfl _ _ w.heap.size 37 #[.int .i64 r1,.int .i64 r2] (0,0) _ rfl (((y0).set0 _).set1 _) Tryz.underlying37 rfl (by kernel_rfl)) rfl ?_
     exact ⟨rfl,((hbel2.trans (hb3.mono hbel2.size)).setCell (p:=⟨w.heap.size,0,none⟩) (Nat.le_refl _) _).setCell (p:=⟨w.heap.size,1,none⟩) (Nat.le_refl _) _⟩
    ·rw [if_neg hts] at h
     cases h
     have hne : (t.toList == s.toList) = false:=beq_eq_false_iff_ne.2 fun e => hts (by
      rw [ByteArray.toList_eq,ByteArray.toList_eq] at e
      rw [← tx_of t,← tx_of s,e])
     go_wp2
     refine bodyPost_ret (f5z rfl _ _ w.heap.size 37 #[.int .i64 0,.int .i64 0] (0,0) _ rfl (((y0).set0 _).set1 _) Tryz.underlying37 rfl (by kernel_rfl)) rfl ?_
     exact ⟨rfl,((hbel2.trans (hb3.mono hbel2.size)).setCell (p:=⟨w.heap.size,0,none⟩) (Nat.le_refl _) _).setCell (p:=⟨w.heap.size,1,none⟩) (Nat.le_refl _) _⟩
  ·rw [hc] at h
   have hat' : Calls Tryz.prog 45 #[.string (tx m)] w1 fun e w' => (∃ nv te pe,e = .returned (.tuple #[.int .i64 nv,.iface te pe])) ∧ Below w1.heap.size w1 w':=hato.mono fun e w' ⟨n',ev,he,hb,hc'⟩ => by
    rcases hc' with ⟨h1,_⟩|⟨_,te,pe,h2⟩
    ·rw [hc] at h1
     cases h1
    ·exact ⟨⟨n',te,pe,by rw [he,h2]⟩,hb⟩
   clear hato
   dsimp only at h
   cases ok
   ·cases h
    go_wp2_with (go_at_call 45;refine hat'.mono ?_;rintro e w2 ⟨⟨nv,te,pe,rfl⟩,hb2⟩;have x2 : ∀ o,Two (w2.alloc o) w.heap.size 37 (.int .i64 0) (.int .i64 0):=(fun o => (Below.heap_alloc _ _ _ (Nat.lt_of_lt_of_le hs1 hb2.size)).trans ((hb2.block _ hs1).trans e1));have c0:=fun o => (x2 o).c0;have d0:=fun o => (x2 o).d0;have c1:=fun o x => ((x2 o).set0 x).c1;have d1:=fun o x => ((x2 o).set0 x).d1)
    refine bodyPost_ret (f5z rfl _ _ w.heap.size 37 #[.int .i64 0,.int .i64 0] (0,0) _ rfl (((x2 _).set0 _).set1 _) Tryz.underlying37 rfl (by kernel_rfl)) rfl ?_
    exact ⟨rfl,(((hbel1.trans (hb2.mono hbel1.size)).alloc (Nat.le_trans hbel1.size hb2.size) _).setCell (p:=⟨w.heap.size,0,none⟩) (Nat.le_refl _) _).setCell (p:=⟨w.heap.size,1,none⟩) (Nat.le_refl _) _⟩
   ·cases h
    go_wp2_with (go_at_call 45;refine hat'.mono ?_;rintro e w2 ⟨⟨nv,te,pe,rfl⟩,hb2⟩;have x2 : ∀ o,Two (w2.alloc o) w.heap.size 37 (.int .i64 0) (.int .i64 0):=(fun o => (Below.heap_alloc _ _ _ (Nat.lt_of_lt_of_le hs1 hb2.size)).trans ((hb2.block _ hs1).trans e1));have c0:=fun o => (x2 o).c0;have d0:=fun o => (x2 o).d0;have c1:=fun o x => ((x2 o).set0 x).c1;have d1:=fun o x => ((x2 o).set0 x).d1)
    refine bodyPost_ret (f5z rfl _ _ w.heap.size 37 #[.int .i64 0,.int .i64 0] (0,0) _ rfl (((x2 _).set0 _).set1 _) Tryz.underlying37 rfl (by kernel_rfl)) rfl ?_
    exact ⟨rfl,(((hbel1.trans (hb2.mono hbel1.size)).alloc (Nat.le_trans hbel1.size hb2.size) _).setCell (p:=⟨w.heap.size,0,none⟩) (Nat.le_refl _) _).setCell (p:=⟨w.heap.size,1,none⟩) (Nat.le_refl _) _⟩
  ·rw [hc] at h
   have hat' : Calls Tryz.prog 45 #[.string (tx m)] w1 fun e w' => (∃ nv te pe,e = .returned (.tuple #[.int .i64 nv,.iface te pe])) ∧ Below w1.heap.size w1 w':=hato.mono fun e w' ⟨n',ev,he,hb,hc'⟩ => by
    rcases hc' with ⟨h1,_⟩|⟨_,te,pe,h2⟩
    ·rw [hc] at h1
     cases h1
    ·exact ⟨⟨n',te,pe,by rw [he,h2]⟩,hb⟩
   clear hato
   dsimp only at h
   cases ok
   ·cases h
    go_wp2_with (go_at_call 45;refine hat'.mono ?_;rintro e w2 ⟨⟨nv,te,pe,rfl⟩,hb2⟩;have x2 : ∀ o,Two (w2.alloc o) w.heap.size 37 (.int .i64 0) (.int .i64 0):=(fun o => (Below.heap_alloc _ _ _ (Nat.lt_of_lt_of_le hs1 hb2.size)).trans ((hb2.block _ hs1).trans e1));have c0:=fun o => (x2 o).c0;have d0:=fun o => (x2 o).d0;have c1:=fun o x => ((x2 o).set0 x).c1;have d1:=fun o x => ((x2 o).set0 x).d1)
    refine bodyPost_ret (f5z rfl _ _ w.heap.size 37 #[.int .i64 0,.int .i64 0] (0,0) _ rfl (((x2 _).set0 _).set1 _) Tryz.underlying37 rfl (by kernel_rfl)) rfl ?_
    exact ⟨rfl,(((hbel1.trans (hb2.mono hbel1.size)).alloc (Nat.le_trans hbel1.size hb2.size) _).setCell (p:=⟨w.heap.size,0,none⟩) (Nat.le_refl _) _).setCell (p:=⟨w.heap.size,1,none⟩) (Nat.le_refl _) _⟩
   ·cases h
    go_wp2_with (go_at_call 45;refine hat'.mono ?_;rintro e w2 ⟨⟨nv,te,pe,rfl⟩,hb2⟩;have x2 : ∀ o,Two (w2.alloc o) w.heap.size 37 (.int .i64 0) (.int .i64 0):=(fun o => (Below.heap_alloc _ _ _ (Nat.lt_of_lt_of_le hs1 hb2.size)).trans ((hb2.block _ hs1).trans e1));have c0:=fun o => (x2 o).c0;have d0:=fun o => (x2 o).d0;have c1:=fun o x => ((x2 o).set0 x).c1;have d1:=fun o x => ((x2 o).set0 x).d1)
    refine bodyPost_ret (f5z rfl _ _ w.heap.size 37 #[.int .i64 0,.int .i64 0] (0,0) _ rfl (((x2 _).set0 _).set1 _) Tryz.underlying37 rfl (by kernel_rfl)) rfl ?_
    exact ⟨rfl,(((hbel1.trans (hb2.mono hbel1.size)).alloc (Nat.le_trans hbel1.size hb2.size) _).setCell (p:=⟨w.heap.size,0,none⟩) (Nat.le_refl _) _).setCell (p:=⟨w.heap.size,1,none⟩) (Nat.le_refl _) _⟩
 ·rw [if_neg hsz] at h
  cases h
end Go.Proofs.YtgbdnbbfgcogjaaGreatDoor.Sq

namespace Go.Proofs.YtgbdnbbfgcogjaaGreatDoor.Q
open Go.RowKit Go.Proofs.YtgbdnbbfgcogjaaGreatDoorW.PrintWords Go.Proofs.YtgbdnbbfgcogjaaGreatDoorW.PrintLast Go.Proofs.YtgbdnbbfgcogjaaGreatDoorW.PrintMore
attribute [local go_sem] d7z d5z d9z d8z c8z c7z d6z d4z
set_option linter.unusedVariables false
set_option linter.unusedSimpArgs false
/-- What BlockGet answers. -/
def impl_BlockGet.f (k : Nat) (a0 : ByteArray) : Option (Int × Int × Bool):=Sq.blockGetF k a0
theorem impl_BlockGet.calls (k : Nat) (a0 : ByteArray) (r1 : Int) (r2 : Int) (r3 : Bool) (w : World) (hT : Tb.T2 w) (h : impl_BlockGet.f k a0 = some (r1,r2,r3)) :
  Calls Tryz.prog 47 #[.string a0] w fun e w' => e = .returned (.tuple #[.agg #[.int .i64 r1,.int .i64 r2],.bool r3]) ∧ Below w.heap.size w w' :=
 Sq.blockGet_calls k a0 r1 r2 r3 w hT h
def stringslite_HasPrefix.f (a0 : ByteArray) (a1 : ByteArray) : Option (Bool):=if (a0.size : Int) ≥ (a1.size : Int) then (if 0 ≤ (a1.size : Int) then (if (a1.size : Int) ≤ (a0.size : Int) then (some ((a0.extract 0 ((a1.size : Int) : Int).toNat).toList == a1.toList)) else (none)) else (none)) else (some false)
set_option maxHeartbeats 8000000 in
set_option maxRecDepth 100000 in
theorem stringslite_HasPrefix.calls (a0 : ByteArray) (a1 : ByteArray) (r : Bool) (w : World) (h : stringslite_HasPrefix.f a0 a1 = some r) :
  Calls Tryz.prog 98 #[.string a0,.string a1] w fun e w' => e = .returned (.bool r) ∧ Drawn0 w w':=by
 have H : (if (a0.size : Int) ≥ (a1.size : Int) then (if 0 ≤ (a1.size : Int) then (if (a1.size : Int) ≤ (a0.size : Int) then (some ((a0.extract 0 ((a1.size : Int) : Int).toNat).toList == a1.toList)) else (none)) else (none)) else (some false)) = some r:=h
 clear h
 by_cases c3 : (a0.size : Int) ≥ (a1.size : Int)
 ·rw [if_pos c3] at H
  have c3b0 : decide ((a1.size : Int) ≤ (a0.size : Int)) = true:=decide_eq_true c3
  have c3b1 : decide (a1.size ≤ a0.size) = true:=decide_eq_true (Int.ofNat_le.mp c3)
  clear c3
  by_cases c4 : 0 ≤ (a1.size : Int)
  ·rw [if_pos c4] at H
   have c4b0:=eq_true c4
   have c4b1 : decide (0 ≤ (a1.size : Int)) = true:=decide_eq_true c4
   clear c4
   by_cases c5 : (a1.size : Int) ≤ (a0.size : Int)
   ·rw [if_pos c5] at H
    have c5b0:=eq_true c5
    have c5b1 : decide ((a1.size : Int) ≤ (a0.size : Int)) = true:=decide_eq_true c5
    clear c5
    obtain rfl:=Option.some.inj H
    go_enter Tryz.func98,Tryz.ntmps98
    go_wp2
    go_ret
    exact ⟨by first|rfl|(simp;done)|(simp [*];done),by repeat (first|exact Drawn0.refl _|apply Drawn0.step)⟩
   ·rw [if_neg c5] at H
    exact absurd H (by simp)
  ·rw [if_neg c4] at H
   exact absurd H (by simp)
 ·rw [if_neg c3] at H
  have c3b0 : decide ((a1.size : Int) ≤ (a0.size : Int)) = false:=decide_eq_false c3
  have c3b1 : decide (a1.size ≤ a0.size) = false:=decide_eq_false (fun h => c3 (Int.ofNat_le.mpr h))
  clear c3
  obtain rfl:=Option.some.inj H
  go_enter Tryz.func98,Tryz.ntmps98
  go_wp2
  go_ret
  exact ⟨by first|rfl|(simp;done)|(simp [*];done),by repeat (first|exact Drawn0.refl _|apply Drawn0.step)⟩
def stringslite_TrimPrefix.f (a0 : ByteArray) (a1 : ByteArray) : Option (ByteArray):=(stringslite_HasPrefix.f a0 a1).bind fun t101 => (if t101 = true then (if 0 ≤ (a1.size : Int) then (if (a1.size : Int) ≤ (a0.size : Int) then (some (a0.extract ((a1.size : Int) : Int).toNat a0.size)) else (none)) else (none)) else (some a0))
set_option maxHeartbeats 8000000 in
set_option maxRecDepth 100000 in
theorem stringslite_TrimPrefix.calls (a0 : ByteArray) (a1 : ByteArray) (r : ByteArray) (w : World) (h : stringslite_TrimPrefix.f a0 a1 = some r) :
  Calls Tryz.prog 75 #[.string a0,.string a1] w fun e w' => e = .returned (.string r) ∧ Drawn0 w w':=by
 have H : ((stringslite_HasPrefix.f a0 a1).bind fun t101 => (if t101 = true then (if 0 ≤ (a1.size : Int) then (if (a1.size : Int) ≤ (a0.size : Int) then (some (a0.extract ((a1.size : Int) : Int).toNat a0.size)) else (none)) else (none)) else (some a0))) = some r:=h
 clear h
 replace H:=Option.bind_eq_some_iff.mp H
 obtain ⟨t101,A30,H⟩:=H
 replace H : (if t101 = true then (if 0 ≤ (a1.size : Int) then (if (a1.size : Int) ≤ (a0.size : Int) then (some (a0.extract ((a1.size : Int) : Int).toNat a0.size)) else (none)) else (none)) else (some a0)) = some r:=H
 have A3:=a1z.mk A30
 clear A30
 by_cases c4 : t101 = true
 ·subst c4
  have H1 : (if 0 ≤ (a1.size : Int) then (if (a1.size : Int) ≤ (a0.size : Int) then (some (a0.extract ((a1.size : Int) : Int).toNat a0.size)) else (none)) else (none)) = some r:=by rw [if_pos rfl] at H;exact H
  clear H
  have H:=H1
  clear H1
  by_cases c5 : 0 ≤ (a1.size : Int)
  ·rw [if_pos c5] at H
   have c5b0:=eq_true c5
   have c5b1 : decide (0 ≤ (a1.size : Int)) = true:=decide_eq_true c5
   clear c5
   by_cases c6 : (a1.size : Int) ≤ (a0.size : Int)
   ·rw [if_pos c6] at H
    have c6b0:=eq_true c6
    have c6b1 : decide ((a1.size : Int) ≤ (a0.size : Int)) = true:=decide_eq_true c6
    clear c6
    obtain rfl:=Option.some.inj H
    go_enter Tryz.func75,Tryz.ntmps75
    go_wp2_with (first|((with_reducible refine b2z (f:=98) rfl ?_);refine c1z (some 7) rfl rfl Tryz.func98 (by kernel_rfl) rfl #[.string a0,.string a1] rfl (by (try simp only [mA_,mC_,mN_]);first|done|rfl|(simp only [lD_,lT_];rfl)) ?_;(with_reducible refine (stringslite_HasPrefix.calls a0 a1 true _ A3.1).mono ?_);rintro e w' ⟨rfl,⟨nd,rfl⟩⟩;refine ⟨_,rfl,?_⟩))
    go_ret
    exact ⟨by first|rfl|(simp;done)|(simp [*];done),by repeat (first|exact Drawn0.refl _|apply Drawn0.step)⟩
   ·rw [if_neg c6] at H
    exact absurd H (by simp)
  ·rw [if_neg c5] at H
   exact absurd H (by simp)
 ·replace c4:=Bool.eq_false_iff.mpr c4
  subst c4
  have H1 : (some a0) = some r:=by rw [if_neg (show ¬ (false = true) by decide)] at H;exact H
  clear H
  have H:=H1
  clear H1
  obtain rfl:=Option.some.inj H
  go_enter Tryz.func75,Tryz.ntmps75
  go_wp2_with (first|((with_reducible refine b2z (f:=98) rfl ?_);refine c1z (some 7) rfl rfl Tryz.func98 (by kernel_rfl) rfl #[.string a0,.string a1] rfl (by (try simp only [mA_,mC_,mN_]);first|done|rfl|(simp only [lD_,lT_];rfl)) ?_;(with_reducible refine (stringslite_HasPrefix.calls a0 a1 false _ A3.1).mono ?_);rintro e w' ⟨rfl,⟨nd,rfl⟩⟩;refine ⟨_,rfl,?_⟩))
  go_ret
  exact ⟨by first|rfl|(simp;done)|(simp [*];done),by repeat (first|exact Drawn0.refl _|apply Drawn0.step)⟩
def strings_TrimPrefix.f (a0 : ByteArray) (a1 : ByteArray) : Option (ByteArray):=(stringslite_TrimPrefix.f a0 a1).bind fun t101 => (some t101)
set_option maxHeartbeats 8000000 in
set_option maxRecDepth 100000 in
theorem strings_TrimPrefix.calls (a0 : ByteArray) (a1 : ByteArray) (r : ByteArray) (w : World) (h : strings_TrimPrefix.f a0 a1 = some r) :
  Calls Tryz.prog 46 #[.string a0,.string a1] w fun e w' => e = .returned (.string r) ∧ Drawn0 w w':=by
 have H : ((stringslite_TrimPrefix.f a0 a1).bind fun t101 => (some t101)) = some r:=h
 clear h
 replace H:=Option.bind_eq_some_iff.mp H
 obtain ⟨t101,A30,H⟩:=H
 replace H : (some t101) = some r:=H
 have A3:=a1z.mk A30
 clear A30
 obtain rfl:=Option.some.inj H
 go_enter Tryz.func46,Tryz.ntmps46
 go_wp2_with (first|((with_reducible refine b2z (f:=75) rfl ?_);refine c1z (some 7) rfl rfl Tryz.func75 (by kernel_rfl) rfl #[.string a0,.string a1] rfl (by (try simp only [mA_,mC_,mN_]);first|done|rfl|(simp only [lD_,lT_];rfl)) ?_;(with_reducible refine (stringslite_TrimPrefix.calls a0 a1 t101 _ A3.1).mono ?_);rintro e w' ⟨rfl,⟨nd,rfl⟩⟩;refine ⟨_,rfl,?_⟩))
 go_ret
 exact ⟨by first|rfl|(simp;done)|(simp [*];done),by repeat (first|exact Drawn0.refl _|apply Drawn0.step)⟩
end Go.Proofs.YtgbdnbbfgcogjaaGreatDoor.Q

namespace Go.Proofs.YtgbdnbbfgcogjaaGreatDoor.Sq
open Go Go.RowKit Go.Shelf Go.Proofs.YtgbdnbbfgcogjaaGreatDoor.Q Go.Proofs.YtgbdnbbfgcogjaaGreatDoorW.PrintWords Go.Proofs.YtgbdnbbfgcogjaaGreatDoorW.PrintLast Go.Proofs.YtgbdnbbfgcogjaaGreatDoorW.PrintMore
set_option linter.unusedVariables false
/-- The number that Atoi gives. -/
def atoiV (l : List UInt8) : Int:=match Lib.atoiAll l with|.ok v => v|.range => Lib.atoiSat l|_ => 0
def atoiF (s : ByteArray) : Option (Int × Bool):=if s.size ≤ 281474976710656 then some (atoiV s.data.toList,true) else none
theorem atoi_val (x : ByteArray) (n : Int) (b : Bool) (w : World) (hT : Tb.T2 w) (h : atoiF x = some (n,b)) : Calls Tryz.prog 45 #[.string x] w fun e w' => (∃ ev,e = .returned (.tuple #[.int .i64 n,ev])) ∧ Below w.heap.size w w':=by
 obtain ⟨_,⟨e1,h1,k1⟩,e2,h2,k2⟩:=hT
 unfold atoiF at h
 by_cases hx : x.size ≤ 281474976710656
 ·rw [if_pos hx] at h
  have hn : atoiV x.data.toList = n:=congrArg Prod.fst (Option.some.inj h)
  clear h
  subst hn
  unfold atoiV
  rcases hc : Lib.atoiAll x.data.toList with v|_|_
  ·refine (Tryz.strconv_Atoi_ok x (by omega) v hc w).mono ?_
   rintro e w' ⟨rfl,rfl|⟨t,rfl⟩⟩
   ·exact ⟨⟨_,rfl⟩,Below.refl _ _⟩
   ·exact ⟨⟨_,rfl⟩,bytes_below (Below.refl _ _) (Nat.le_refl _) _ _⟩
  ·refine (Tryz.strconv_Atoi_syntax x hx (by rw [hc];trivial) e1 w h1 k1).mono ?_
   rintro e w' ⟨N,rfl,_,_,hb⟩
   exact ⟨⟨_,rfl⟩,hb⟩
  ·refine (Tryz.strconv_Atoi_range x hx hc e2 w h2 k2).mono ?_
   rintro e w' ⟨N,rfl,_,_,hb⟩
   exact ⟨⟨_,rfl⟩,hb⟩
 ·rw [if_neg hx] at h
  cases h
end Go.Proofs.YtgbdnbbfgcogjaaGreatDoor.Sq

namespace Go.Proofs.YtgbdnbbfgcogjaaGreatDoor.Q
open Go.RowKit Go.Proofs.YtgbdnbbfgcogjaaGreatDoorW.PrintWords Go.Proofs.YtgbdnbbfgcogjaaGreatDoorW.PrintLast Go.Proofs.YtgbdnbbfgcogjaaGreatDoorW.PrintMore
attribute [local go_sem] d7z d5z d9z d8z c8z c7z d6z d4z
set_option linter.unusedVariables false
set_option linter.unusedSimpArgs false
def impl_ruleGet.j0 : Nat → List ByteArray → Int → Int → Int → Int → Int → Int → Int → Int → Option (Int × Int × Int × Int × Int × Int × Int × Int)
 | 0,_,_,_,_,_,_,_,_,_ => none
 | k + 1,x0,x103000,x103001,x103002,x103003,x103004,x103005,x103006,x103007 => if 1 < (x0.length : Int) then ((impl_BlockGet.f k (rdOf ByteArray.empty x0 1)).bind fun bt109 => (if 2 < (x0.length : Int) then ((impl_BlockGet.f k (rdOf ByteArray.empty x0 2)).bind fun bt113 => (if 3 < (x0.length : Int) then ((strings_Cut.f (rdOf ByteArray.empty x0 3) (⟨#[45]⟩ : ByteArray)).bind fun bt117 => ((Sq.atoiF bt117.1).bind fun bt120 => ((Sq.atoiF bt117.2.1).bind fun bt122 => (some (x103000,x103001,bt109.1,bt109.2.1,bt113.1,bt113.2.1,bt120.1,bt122.1))))) else (none))) else (none))) else (none)
def impl_ruleGet.f (k : Nat) (l0 : List ByteArray) : Option (Int × Int × Int × Int × Int × Int × Int × Int):=if 0 < (l0.length : Int) then (if (rdOf ByteArray.empty l0 0).toList = ([100,114,111,112] : List UInt8) then (impl_ruleGet.j0 k l0 0 0 0 0 0 0 0 0) else (if (rdOf ByteArray.empty l0 0).toList = ([112,97,115,115] : List UInt8) then (impl_ruleGet.j0 k l0 1 0 0 0 0 0 0 0) else ((strings_TrimPrefix.f (rdOf ByteArray.empty l0 0) (⟨#[103,117,97,114,100]⟩ : ByteArray)).bind fun t105 => ((Sq.atoiF t105).bind fun bt106 => (impl_ruleGet.j0 k l0 2 bt106.1 0 0 0 0 0 0))))) else (none)
set_option maxHeartbeats 8000000 in
set_option maxRecDepth 100000 in
theorem impl_ruleGet.calls (k : Nat) (A0 : Option Addr) (c0 : Nat) (l0 : List ByteArray) (r1 : Int) (r2 : Int) (r3 : Int) (r4 : Int) (r5 : Int) (r6 : Int) (r7 : Int) (r8 : Int) (w : World) (hT : Tb.T2 w) (hr0 : Kd.C Kd.string w A0 l0.length l0) (hc0 : l0.length ≤ c0) (h : impl_ruleGet.f k l0 = some (r1,r2,r3,r4,r5,r6,r7,r8)) :
  Calls Tryz.prog 22 #[.slice A0 l0.length c0] w fun e w' => e = .returned (.agg #[.int .i64 r1,.int .i64 r2,.int .i64 r3,.int .i64 r4,.int .i64 r5,.int .i64 r6,.int .i64 r7,.int .i64 r8]) ∧ Below w.heap.size w w':=by
 have hu39:=Tryz.underlying39
 have hu37:=Tryz.underlying37
 have HT:=a1z.mk hT
 clear hT
 have HR0:=a1z.mk hr0
 have HC0:=a1z.mk hc0
 clear hr0 hc0
 have HB:=a1z.mk (Below.refl w.heap.size w)
 have H : (if 0 < (l0.length : Int) then (if (rdOf ByteArray.empty l0 0).toList = ([100,114,111,112] : List UInt8) then (impl_ruleGet.j0 k l0 0 0 0 0 0 0 0 0) else (if (rdOf ByteArray.empty l0 0).toList = ([112,97,115,115] : List UInt8) then (impl_ruleGet.j0 k l0 1 0 0 0 0 0 0 0) else ((strings_TrimPrefix.f (rdOf ByteArray.empty l0 0) (⟨#[103,117,97,114,100]⟩ : ByteArray)).bind fun t105 => ((Sq.atoiF t105).bind fun bt106 => (impl_ruleGet.j0 k l0 2 bt106.1 0 0 0 0 0 0))))) else (none)) = some (r1,r2,r3,r4,r5,r6,r7,r8):=h
 clear h
 by_cases c2 : 0 < (l0.length : Int)
 ·rw [if_pos c2] at H
  have c2b0 : decide (0 < (l0.length : Int)) = true:=decide_eq_true c2
  have c2b1 : decide (0 < l0.length) = true:=decide_eq_true (by omega)
  clear c2
  have HC3:=a1z.mk H
  clear H
  go_enter Tryz.func22,Tryz.ntmps22
  go_upto_block 0 with (first|((with_reducible refine c5z (N:=2) rfl ?_);refine d2z ?hg (N:=2) ?hd (cs:=#[.int .i64 0,.int .i64 0,.int .i64 0,.int .i64 0,.int .i64 0,.int .i64 0,.int .i64 0,.int .i64 0]) (t:=39) ?hr ?_;(case hd => rfl);(case hg => rfl);(case hr => first|(go_simp;done)|(go_simp;rfl));intro gb101 hg w4 hbox hb;have n0_:=a1z.mk (b1z (by repeat (first|(with_reducible first|exact HB.1|apply a3z|apply a0z|apply a2z)|exact HB.1)) hb);have n1_:=a1z.mk (hbox);have n2_:=a1z.mk ((by rw [hg];exact (b8z (by repeat (first|(with_reducible first|exact HB.1|apply a3z|apply a0z|apply a2z)|exact HB.1))) : w.heap.size ≤ gb101));have n3_:=a1z.mk ((by rw [hg];exact (b8z (by repeat (first|(with_reducible first|exact HB.1|apply a3z|apply a0z|apply a2z)|exact HB.1))) : w.heap.size ≤ gb101));clear HB;have HB:=n0_;have BK101:=n1_;have GW101:=n2_;have GE101:=n3_;clear n0_ n1_ n2_ n3_;clear hb hbox hg)|((with_reducible refine c5z (N:=3) rfl ?_);refine d2z ?hg (N:=3) ?hd (cs:=#[.int .i64 0,.int .i64 0,.int .i64 0,.int .i64 0,.int .i64 0,.int .i64 0,.int .i64 0,.int .i64 0]) (t:=39) ?hr ?_;(case hd => rfl);(case hg => rfl);(case hr => first|(go_simp;done)|(go_simp;rfl));intro gb102 hg w5 hbox hb;have n0_:=a1z.mk (c0z (g:=gb101) (o:=.cells #[.int .i64 0,.int .i64 0,.int .i64 0,.int .i64 0,.int .i64 0,.int .i64 0,.int .i64 0,.int .i64 0] 39 (0,0)) (by (with_reducible repeat (first|refine a8z ?_ _|refine a9z ?_|refine blk_alloc ?_ _));exact BK101.1) hb);have n1_:=a1z.mk (b1z (by repeat (first|(with_reducible first|exact HB.1|apply a3z|apply a0z|apply a2z|refine a5z ?_ GE101.1)|exact HB.1)) hb);have n2_:=a1z.mk (hbox);have n3_:=a1z.mk ((by rw [hg];exact (b8z (by repeat (first|(with_reducible first|exact HB.1|apply a3z|apply a0z|apply a2z|refine a5z ?_ GE101.1)|exact HB.1))) : w.heap.size ≤ gb102));have n4_:=a1z.mk ((by rw [hg];exact (b8z (by repeat (first|(with_reducible first|exact HB.1|apply a3z|apply a0z|apply a2z|refine a5z ?_ GE101.1)|exact HB.1))) : w.heap.size ≤ gb102));have n5_:=a1z.mk ((by rw [hg];exact Nat.ne_of_lt (f6z (g:=gb101) (o:=.cells #[.int .i64 0,.int .i64 0,.int .i64 0,.int .i64 0,.int .i64 0,.int .i64 0,.int .i64 0,.int .i64 0] 39 (0,0)) (by (with_reducible repeat (first|refine a8z ?_ _|refine a9z ?_|refine blk_alloc ?_ _));exact BK101.1)) : gb101 ≠ gb102));have n6_:=a1z.mk ((by rw [hg];exact Nat.ne_of_gt (f6z (g:=gb101) (o:=.cells #[.int .i64 0,.int .i64 0,.int .i64 0,.int .i64 0,.int .i64 0,.int .i64 0,.int .i64 0,.int .i64 0] 39 (0,0)) (by (with_reducible repeat (first|refine a8z ?_ _|refine a9z ?_|refine blk_alloc ?_ _));exact BK101.1)) : gb102 ≠ gb101));clear BK101 HB;have BK101:=n0_;have HB:=n1_;have BK102:=n2_;have GW102:=n3_;have GE102:=n4_;have NB101_102:=n5_;have NB102_101:=n6_;clear n0_ n1_ n2_ n3_ n4_ n5_ n6_;clear hb hbox hg;have hnb6:=NB102_101.1;have hnc6:=NB101_102.1;have hcz7_0:=c80_ BK102.1;have hcz7_1:=c81_ BK102.1;have hcz7_2:=c82_ BK102.1;have hcz7_3:=c83_ BK102.1;have hcz7_4:=c84_ BK102.1;have hcz7_5:=c85_ BK102.1;have hcz7_6:=c86_ BK102.1;have hcz7_7:=c87_ BK102.1;have hfz7_0:=a4z BK102.1 0;have hfz7_1:=a4z BK102.1 1;have hfz7_2:=a4z BK102.1 2;have hfz7_3:=a4z BK102.1 3;have hfz7_4:=a4z BK102.1 4;have hfz7_5:=a4z BK102.1 5;have hfz7_6:=a4z BK102.1 6;have hfz7_7:=a4z BK102.1 7;have p103 : 0 ≤ (0 : Int):=(by omega);have q103 : 0 < (l0.length : Int):=of_decide_eq_true (by first|(with_reducible assumption)|assumption);obtain ⟨ad103,e103,hx103_0⟩:=Kd.e7z HR0.1 0 p103 q103;cases e103;have qi103 : (0 < l0.length) = True:=eq_true (by omega);(try rw [show ((0 : Int)).toNat = 0 from rfl] at hx103_0);(try rw [Addr.add_zero'] at hx103_0);have hn103_0 : ad103.block ≠ gb102:=Nat.ne_of_lt (Nat.lt_of_lt_of_le (by have:=World.block_lt_of_cell? _ _ hx103_0;first|rwa [c6z] at this|exact this) GW102.1);have hn103_1 : ad103.block ≠ gb102:=Nat.ne_of_lt (Nat.lt_of_lt_of_le (by have:=World.block_lt_of_cell? _ _ hx103_0;first|rwa [c6z] at this|exact this) GW102.1);have hn103_2 : ad103.block ≠ gb102:=Nat.ne_of_lt (Nat.lt_of_lt_of_le (by have:=World.block_lt_of_cell? _ _ hx103_0;first|rwa [c6z] at this|exact this) GW102.1);have hn103_3 : ad103.block ≠ gb102:=Nat.ne_of_lt (Nat.lt_of_lt_of_le (by have:=World.block_lt_of_cell? _ _ hx103_0;first|rwa [c6z] at this|exact this) GW102.1);have hn103_4 : ad103.block ≠ gb102:=Nat.ne_of_lt (Nat.lt_of_lt_of_le (by have:=World.block_lt_of_cell? _ _ hx103_0;first|rwa [c6z] at this|exact this) GW102.1);have hn103_5 : ad103.block ≠ gb102:=Nat.ne_of_lt (Nat.lt_of_lt_of_le (by have:=World.block_lt_of_cell? _ _ hx103_0;first|rwa [c6z] at this|exact this) GW102.1);have hn103_6 : ad103.block ≠ gb102:=Nat.ne_of_lt (Nat.lt_of_lt_of_le (by have:=World.block_lt_of_cell? _ _ hx103_0;first|rwa [c6z] at this|exact this) GW102.1);have hn103_7 : ad103.block ≠ gb102:=Nat.ne_of_lt (Nat.lt_of_lt_of_le (by have:=World.block_lt_of_cell? _ _ hx103_0;first|rwa [c6z] at this|exact this) GW102.1);replace hx103_0:=(HB.1.cell (World.block_lt_of_cell? w _ hx103_0)).trans hx103_0;replace hx103_0:=(f1z (p:=⟨gb102,0,none⟩) (by (first|rw [c6z]|(show (Addr.add _ _).block ≠ _;rw [c6z])|skip);exact hn103_0) (.int .i64 2)).trans hx103_0;replace hx103_0:=(f1z (p:=⟨gb102,1,none⟩) (by (first|rw [c6z]|(show (Addr.add _ _).block ≠ _;rw [c6z])|skip);exact hn103_1) (.int .i64 0)).trans hx103_0;replace hx103_0:=(f1z (p:=⟨gb102,2,none⟩) (by (first|rw [c6z]|(show (Addr.add _ _).block ≠ _;rw [c6z])|skip);exact hn103_2) (.int .i64 0)).trans hx103_0;replace hx103_0:=(f1z (p:=⟨gb102,3,none⟩) (by (first|rw [c6z]|(show (Addr.add _ _).block ≠ _;rw [c6z])|skip);exact hn103_3) (.int .i64 0)).trans hx103_0;replace hx103_0:=(f1z (p:=⟨gb102,4,none⟩) (by (first|rw [c6z]|(show (Addr.add _ _).block ≠ _;rw [c6z])|skip);exact hn103_4) (.int .i64 0)).trans hx103_0;replace hx103_0:=(f1z (p:=⟨gb102,5,none⟩) (by (first|rw [c6z]|(show (Addr.add _ _).block ≠ _;rw [c6z])|skip);exact hn103_5) (.int .i64 0)).trans hx103_0;replace hx103_0:=(f1z (p:=⟨gb102,6,none⟩) (by (first|rw [c6z]|(show (Addr.add _ _).block ≠ _;rw [c6z])|skip);exact hn103_6) (.int .i64 0)).trans hx103_0;replace hx103_0:=(f1z (p:=⟨gb102,7,none⟩) (by (first|rw [c6z]|(show (Addr.add _ _).block ≠ _;rw [c6z])|skip);exact hn103_7) (.int .i64 0)).trans hx103_0;clear hn103_0 hn103_1 hn103_2 hn103_3 hn103_4 hn103_5 hn103_6 hn103_7;replace p103:=eq_true p103;replace q103:=eq_true q103))
  (try simp only [Act.put,sA_,sZ_,sS_])
  go_cut [] (fun wc => ∃ (kq : Nat) (x103000_2 : Int) (x103001_2 : Int),a1z (impl_ruleGet.j0 kq l0 x103000_2 x103001_2 0 0 0 0 0 0 = some (r1,r2,r3,r4,r5,r6,r7,r8)) ∧ a1z (kq ≤ k) ∧ a1z (wc.heap[gb101]? = some (.cells #[.int .i64 0,.int .i64 0,.int .i64 0,.int .i64 0,.int .i64 0,.int .i64 0,.int .i64 0,.int .i64 0] 39 (0,0))) ∧ a1z (wc.heap[gb102]? = some (.cells #[.int .i64 x103000_2,.int .i64 x103001_2,.int .i64 0,.int .i64 0,.int .i64 0,.int .i64 0,.int .i64 0,.int .i64 0] 39 (0,0))) ∧ a1z (Below w.heap.size w wc))
  case first =>
   have H:=HC3.1
   clear HC3
   by_cases c8 : (rdOf ByteArray.empty l0 0).toList = ([100,114,111,112] : List UInt8)
   ·rw [if_pos c8] at H
    have c8b0 : ((rdOf ByteArray.empty l0 0).toList == ([100,114,111,112] : List UInt8)) = true:=beq_iff_eq.mpr c8
    have c8b1 : ((rdOf ByteArray.empty l0 0).toList != ([100,114,111,112] : List UInt8)) = false:=bne_eq_false_iff_eq.mpr c8
    clear c8
    (first|rw [c8b0]|(simp only [i64_w,i32_w];rw [c8b0])|skip)
    have H':=a1z.mk H
    clear H
    have hnb9:=NB102_101.1
    have hnc9:=NB101_102.1
    have hcz10_0:=c80_ BK102.1
    have hcz10_1:=c81_ BK102.1
    have hcz10_2:=c82_ BK102.1
    have hcz10_3:=c83_ BK102.1
    have hcz10_4:=c84_ BK102.1
    have hcz10_5:=c85_ BK102.1
    have hcz10_6:=c86_ BK102.1
    have hcz10_7:=c87_ BK102.1
    have hfz10_0:=a4z BK102.1 0
    have hfz10_1:=a4z BK102.1 1
    have hfz10_2:=a4z BK102.1 2
    have hfz10_3:=a4z BK102.1 3
    have hfz10_4:=a4z BK102.1 4
    have hfz10_5:=a4z BK102.1 5
    have hfz10_6:=a4z BK102.1 6
    have hfz10_7:=a4z BK102.1 7
    go_wp2
    go_meet
    case rel => exact ⟨_,(0),(0),H',⟨by first|omega|exact Nat.le_refl _⟩,⟨by (with_reducible repeat (first|refine a8z ?_ _|refine a9z ?_|refine blk_alloc ?_ _|refine f3z ?_ NB101_102.1 _));exact BK101.1⟩,⟨by (with_reducible repeat (first|refine a8z ?_ _|refine a9z ?_|refine blk_alloc ?_ _));refine c4z (cs:=#[.int .i64 2,.int .i64 0,.int .i64 0,.int .i64 0,.int .i64 0,.int .i64 0,.int .i64 0,.int .i64 0]) ?_ 0 _ rfl;(with_reducible repeat (first|refine a8z ?_ _|refine a9z ?_|refine blk_alloc ?_ _));refine p8_ ?_;(with_reducible repeat (first|refine a8z ?_ _|refine a9z ?_|refine blk_alloc ?_ _));exact BK102.1⟩,⟨by repeat (first|(with_reducible first|exact HB.1|apply a3z|apply a0z|apply a2z|refine a5z ?_ GE101.1|refine a5z ?_ GE102.1)|exact HB.1)⟩⟩
   ·rw [if_neg c8] at H
    have c8b0 : ((rdOf ByteArray.empty l0 0).toList == ([100,114,111,112] : List UInt8)) = false:=beq_eq_false_iff_ne.mpr c8
    have c8b1 : ((rdOf ByteArray.empty l0 0).toList != ([100,114,111,112] : List UInt8)) = true:=bne_iff_ne.mpr c8
    (first|rw [c8b0]|(simp only [i64_w,i32_w];rw [c8b0])|skip)
    by_cases c11 : (rdOf ByteArray.empty l0 0).toList = ([112,97,115,115] : List UInt8)
    ·rw [if_pos c11] at H
     have c11b0 : ((rdOf ByteArray.empty l0 0).toList == ([112,97,115,115] : List UInt8)) = true:=beq_iff_eq.mpr c11
     have c11b1 : ((rdOf ByteArray.empty l0 0).toList != ([112,97,115,115] : List UInt8)) = false:=bne_eq_false_iff_eq.mpr c11
     clear c11
     have H':=a1z.mk H
     clear H
     have hnb12:=NB102_101.1
     have hnc12:=NB101_102.1
     have hcz13_0:=c80_ BK102.1
     have hcz13_1:=c81_ BK102.1
     have hcz13_2:=c82_ BK102.1
     have hcz13_3:=c83_ BK102.1
     have hcz13_4:=c84_ BK102.1
     have hcz13_5:=c85_ BK102.1
     have hcz13_6:=c86_ BK102.1
     have hcz13_7:=c87_ BK102.1
     have hfz13_0:=a4z BK102.1 0
     have hfz13_1:=a4z BK102.1 1
     have hfz13_2:=a4z BK102.1 2
     have hfz13_3:=a4z BK102.1 3
     have hfz13_4:=a4z BK102.1 4
     have hfz13_5:=a4z BK102.1 5
     have hfz13_6:=a4z BK102.1 6
     have hfz13_7:=a4z BK102.1 7
     go_wp2
     go_meet
     case rel => exact ⟨_,(1),(0),H',⟨by first|omega|exact Nat.le_refl _⟩,⟨by (with_reducible repeat (first|refine a8z ?_ _|refine a9z ?_|refine blk_alloc ?_ _|refine f3z ?_ NB101_102.1 _));exact BK101.1⟩,⟨by (with_reducible repeat (first|refine a8z ?_ _|refine a9z ?_|refine blk_alloc ?_ _));refine c4z (cs:=#[.int .i64 2,.int .i64 0,.int .i64 0,.int .i64 0,.int .i64 0,.int .i64 0,.int .i64 0,.int .i64 0]) ?_ 0 _ rfl;(with_reducible repeat (first|refine a8z ?_ _|refine a9z ?_|refine blk_alloc ?_ _));refine p8_ ?_;(with_reducible repeat (first|refine a8z ?_ _|refine a9z ?_|refine blk_alloc ?_ _));exact BK102.1⟩,⟨by repeat (first|(with_reducible first|exact HB.1|apply a3z|apply a0z|apply a2z|refine a5z ?_ GE101.1|refine a5z ?_ GE102.1)|exact HB.1)⟩⟩
    ·rw [if_neg c11] at H
     have c11b0 : ((rdOf ByteArray.empty l0 0).toList == ([112,97,115,115] : List UInt8)) = false:=beq_eq_false_iff_ne.mpr c11
     have c11b1 : ((rdOf ByteArray.empty l0 0).toList != ([112,97,115,115] : List UInt8)) = true:=bne_iff_ne.mpr c11
     replace H:=Option.bind_eq_some_iff.mp H
     obtain ⟨t105,A140,H⟩:=H
     replace H : ((Sq.atoiF t105).bind fun bt106 => (impl_ruleGet.j0 k l0 2 bt106.1 0 0 0 0 0 0)) = some (r1,r2,r3,r4,r5,r6,r7,r8):=H
     have A14:=a1z.mk A140
     clear A140
     replace H:=Option.bind_eq_some_iff.mp H
     obtain ⟨⟨t106,t107⟩,A150,H⟩:=H
     replace H : (impl_ruleGet.j0 k l0 2 t106 0 0 0 0 0 0) = some (r1,r2,r3,r4,r5,r6,r7,r8):=H
     have A15:=a1z.mk A150
     clear A150
     have H':=a1z.mk H
     clear H
     have p104 : 0 ≤ (0 : Int):=(by omega)
     have q104 : 0 < (l0.length : Int):=of_decide_eq_true (by first|(with_reducible assumption)|assumption)
     obtain ⟨ad104,e104,hx104_0⟩:=Kd.e7z HR0.1 0 p104 q104
     obtain rfl : ad103 = ad104:=(by injection e104)
     have qi104 : (0 < l0.length) = True:=eq_true (by omega)
     (try rw [show ((0 : Int)).toNat = 0 from rfl] at hx104_0)
     (try rw [Addr.add_zero'] at hx104_0)
     have hn104_0 : ad103.block ≠ gb102:=Nat.ne_of_lt (Nat.lt_of_lt_of_le (by have:=World.block_lt_of_cell? _ _ hx104_0;first|rwa [c6z] at this|exact this) GW102.1)
     have hn104_1 : ad103.block ≠ gb102:=Nat.ne_of_lt (Nat.lt_of_lt_of_le (by have:=World.block_lt_of_cell? _ _ hx104_0;first|rwa [c6z] at this|exact this) GW102.1)
     have hn104_2 : ad103.block ≠ gb102:=Nat.ne_of_lt (Nat.lt_of_lt_of_le (by have:=World.block_lt_of_cell? _ _ hx104_0;first|rwa [c6z] at this|exact this) GW102.1)
     have hn104_3 : ad103.block ≠ gb102:=Nat.ne_of_lt (Nat.lt_of_lt_of_le (by have:=World.block_lt_of_cell? _ _ hx104_0;first|rwa [c6z] at this|exact this) GW102.1)
     have hn104_4 : ad103.block ≠ gb102:=Nat.ne_of_lt (Nat.lt_of_lt_of_le (by have:=World.block_lt_of_cell? _ _ hx104_0;first|rwa [c6z] at this|exact this) GW102.1)
     have hn104_5 : ad103.block ≠ gb102:=Nat.ne_of_lt (Nat.lt_of_lt_of_le (by have:=World.block_lt_of_cell? _ _ hx104_0;first|rwa [c6z] at this|exact this) GW102.1)
     have hn104_6 : ad103.block ≠ gb102:=Nat.ne_of_lt (Nat.lt_of_lt_of_le (by have:=World.block_lt_of_cell? _ _ hx104_0;first|rwa [c6z] at this|exact this) GW102.1)
     have hn104_7 : ad103.block ≠ gb102:=Nat.ne_of_lt (Nat.lt_of_lt_of_le (by have:=World.block_lt_of_cell? _ _ hx104_0;first|rwa [c6z] at this|exact this) GW102.1)
     replace hx104_0:=(HB.1.cell (World.block_lt_of_cell? w _ hx104_0)).trans hx104_0
     replace hx104_0:=(f1z (p:=⟨gb102,0,none⟩) (by (first|rw [c6z]|(show (Addr.add _ _).block ≠ _;rw [c6z])|skip);exact hn104_0) (.int .i64 2)).trans hx104_0
     replace hx104_0:=(f1z (p:=⟨gb102,1,none⟩) (by (first|rw [c6z]|(show (Addr.add _ _).block ≠ _;rw [c6z])|skip);exact hn104_1) (.int .i64 0)).trans hx104_0
     replace hx104_0:=(f1z (p:=⟨gb102,2,none⟩) (by (first|rw [c6z]|(show (Addr.add _ _).block ≠ _;rw [c6z])|skip);exact hn104_2) (.int .i64 0)).trans hx104_0
     replace hx104_0:=(f1z (p:=⟨gb102,3,none⟩) (by (first|rw [c6z]|(show (Addr.add _ _).block ≠ _;rw [c6z])|skip);exact hn104_3) (.int .i64 0)).trans hx104_0
     replace hx104_0:=(f1z (p:=⟨gb102,4,none⟩) (by (first|rw [c6z]|(show (Addr.add _ _).block ≠ _;rw [c6z])|skip);exact hn104_4) (.int .i64 0)).trans hx104_0
     replace hx104_0:=(f1z (p:=⟨gb102,5,none⟩) (by (first|rw [c6z]|(show (Addr.add _ _).block ≠ _;rw [c6z])|skip);exact hn104_5) (.int .i64 0)).trans hx104_0
     replace hx104_0:=(f1z (p:=⟨gb102,6,none⟩) (by (first|rw [c6z]|(show (Addr.add _ _).block ≠ _;rw [c6z])|skip);exact hn104_6) (.int .i64 0)).trans hx104_0
     replace hx104_0:=(f1z (p:=⟨gb102,7,none⟩) (by (first|rw [c6z]|(show (Addr.add _ _).block ≠ _;rw [c6z])|skip);exact hn104_7) (.int .i64 0)).trans hx104_0
     clear hn104_0 hn104_1 hn104_2 hn104_3 hn104_4 hn104_5 hn104_6 hn104_7
     replace p104:=eq_true p104
     replace q104:=eq_true q104
     go_wp2_with (first|((with_reducible refine b2z (f:=46) rfl ?_);refine c1z (some 15) rfl rfl Tryz.func46 (by kernel_rfl) rfl #[.string (rdOf ByteArray.empty l0 0),.string (⟨#[103,117,97,114,100]⟩ : ByteArray)] rfl (by (try simp only [mA_,mC_,mN_]);first|done|rfl|(simp only [lD_,lT_];rfl)) ?_;(with_reducible refine (strings_TrimPrefix.calls (rdOf ByteArray.empty l0 0) (⟨#[103,117,97,114,100]⟩ : ByteArray) t105 _ A14.1).mono ?_);rintro e w' ⟨rfl,⟨nd,rfl⟩⟩;refine ⟨_,rfl,?_⟩)|((with_reducible refine b2z (f:=45) rfl ?_);refine c1z (some 16) rfl rfl Tryz.func45 (by kernel_rfl) rfl #[.string t105] rfl (by (try simp only [mA_,mC_,mN_]);first|done|rfl|(simp only [lD_,lT_];rfl)) ?_;(refine (Sq.atoi_val t105 t106 t107 _ ?side1 A15.1).mono ?_);(case side1 => exact (Tb.T2.below HT.out (by repeat (first|(with_reducible first|exact HB.1|apply a3z|apply a0z|apply a2z|refine a5z ?_ GE101.1|refine a5z ?_ GE102.1)|exact HB.1))));rintro e w16 ⟨⟨ev_,rfl⟩,hb⟩;refine ⟨_,rfl,?_⟩;have n0_:=a1z.mk (c0z (g:=gb101) (o:=.cells #[.int .i64 0,.int .i64 0,.int .i64 0,.int .i64 0,.int .i64 0,.int .i64 0,.int .i64 0,.int .i64 0] 39 (0,0)) (by (with_reducible repeat (first|refine a8z ?_ _|refine a9z ?_|refine blk_alloc ?_ _|refine f3z ?_ NB101_102.1 _));exact BK101.1) hb);have n1_:=a1z.mk (c0z (g:=gb102) (o:=.cells #[.int .i64 2,.int .i64 0,.int .i64 0,.int .i64 0,.int .i64 0,.int .i64 0,.int .i64 0,.int .i64 0] 39 (0,0)) (by (with_reducible repeat (first|refine a8z ?_ _|refine a9z ?_|refine blk_alloc ?_ _));refine p8_ ?_;(with_reducible repeat (first|refine a8z ?_ _|refine a9z ?_|refine blk_alloc ?_ _));exact BK102.1) hb);have n2_:=a1z.mk (b1z (by repeat (first|(with_reducible first|exact HB.1|apply a3z|apply a0z|apply a2z|refine a5z ?_ GE101.1|refine a5z ?_ GE102.1)|exact HB.1)) hb);clear BK101 BK102 HB;have BK101:=n0_;have BK102:=n1_;have HB:=n2_;clear n0_ n1_ n2_;(try clear hb);have hnb17:=NB102_101.1;have hnc17:=NB101_102.1;have hcz18_0:=c80_ BK102.1;have hcz18_1:=c81_ BK102.1;have hcz18_2:=c82_ BK102.1;have hcz18_3:=c83_ BK102.1;have hcz18_4:=c84_ BK102.1;have hcz18_5:=c85_ BK102.1;have hcz18_6:=c86_ BK102.1;have hcz18_7:=c87_ BK102.1;have hfz18_0:=a4z BK102.1 0;have hfz18_1:=a4z BK102.1 1;have hfz18_2:=a4z BK102.1 2;have hfz18_3:=a4z BK102.1 3;have hfz18_4:=a4z BK102.1 4;have hfz18_5:=a4z BK102.1 5;have hfz18_6:=a4z BK102.1 6;have hfz18_7:=a4z BK102.1 7))
     go_meet
     case rel => exact ⟨_,(2),(t106),H',⟨by first|omega|exact Nat.le_refl _⟩,⟨by (with_reducible repeat (first|refine a8z ?_ _|refine a9z ?_|refine blk_alloc ?_ _));refine f3z ?_ NB101_102.1 _;(with_reducible repeat (first|refine a8z ?_ _|refine a9z ?_|refine blk_alloc ?_ _));exact BK101.1⟩,⟨by (with_reducible repeat (first|refine a8z ?_ _|refine a9z ?_|refine blk_alloc ?_ _));refine c4z (cs:=#[.int .i64 2,.int .i64 0,.int .i64 0,.int .i64 0,.int .i64 0,.int .i64 0,.int .i64 0,.int .i64 0]) ?_ 1 _ rfl;(with_reducible repeat (first|refine a8z ?_ _|refine a9z ?_|refine blk_alloc ?_ _));exact BK102.1⟩,⟨by repeat (first|(with_reducible first|exact HB.1|apply a3z|apply a0z|apply a2z|refine a5z ?_ GE101.1|refine a5z ?_ GE102.1)|exact HB.1)⟩⟩
  case rest =>
   clear HC3
   try clear c1
   try clear p1
   try clear q1
   try clear hx1
   try clear qi1
   try clear c2
   try clear c2b0
   try clear c2b1
   try clear p2
   try clear c4
   try clear c6
   try clear c8
   try clear c8b0
   try clear c8b1
   try clear c9
   try clear p10
   try clear q10
   try clear hx10
   try clear qi10
   try clear c11
   try clear c11b0
   try clear c11b1
   try clear c12
   try clear c17
   try clear hcz10_0
   try clear hcz10_1
   try clear hcz10_2
   try clear hcz10_3
   try clear hcz10_4
   try clear hcz10_5
   try clear hcz10_6
   try clear hcz10_7
   try clear hcz13_0
   try clear hcz13_1
   try clear hcz13_2
   try clear hcz13_3
   try clear hcz13_4
   try clear hcz13_5
   try clear hcz13_6
   try clear hcz13_7
   try clear hcz18_0
   try clear hcz18_1
   try clear hcz18_2
   try clear hcz18_3
   try clear hcz18_4
   try clear hcz18_5
   try clear hcz18_6
   try clear hcz18_7
   try clear hcz7_0
   try clear hcz7_1
   try clear hcz7_2
   try clear hcz7_3
   try clear hcz7_4
   try clear hcz7_5
   try clear hcz7_6
   try clear hcz7_7
   try clear hfz10_0
   try clear hfz10_1
   try clear hfz10_2
   try clear hfz10_3
   try clear hfz10_4
   try clear hfz10_5
   try clear hfz10_6
   try clear hfz10_7
   try clear hfz13_0
   try clear hfz13_1
   try clear hfz13_2
   try clear hfz13_3
   try clear hfz13_4
   try clear hfz13_5
   try clear hfz13_6
   try clear hfz13_7
   try clear hfz18_0
   try clear hfz18_1
   try clear hfz18_2
   try clear hfz18_3
   try clear hfz18_4
   try clear hfz18_5
   try clear hfz18_6
   try clear hfz18_7
   try clear hfz7_0
   try clear hfz7_1
   try clear hfz7_2
   try clear hfz7_3
   try clear hfz7_4
   try clear hfz7_5
   try clear hfz7_6
   try clear hfz7_7
   try clear hx103_0
   try clear hx104_0
   try clear p103
   try clear p104
   try clear q103
   try clear q104
   obtain ⟨kq,x103000_2,x103001_2,HA,HJ2,BK101,BK102,HB⟩:=hcut
   cases kq with
   | zero => exact absurd HA.1 (by simp [impl_ruleGet.j0])
   | succ kj2 =>
    have H:=HA.1
    clear HA
    simp only [impl_ruleGet.j0] at H
    by_cases c19 : 1 < (l0.length : Int)
    ·rw [if_pos c19] at H
     have c19b0 : decide (1 < (l0.length : Int)) = true:=decide_eq_true c19
     have c19b1 : decide (1 < l0.length) = true:=decide_eq_true (by omega)
     clear c19
     replace H:=Option.bind_eq_some_iff.mp H
     obtain ⟨⟨t109,t110,t111⟩,A200,H⟩:=H
     replace H : (if 2 < (l0.length : Int) then ((impl_BlockGet.f kj2 (rdOf ByteArray.empty l0 2)).bind fun bt113 => (if 3 < (l0.length : Int) then ((strings_Cut.f (rdOf ByteArray.empty l0 3) (⟨#[45]⟩ : ByteArray)).bind fun bt117 => ((Sq.atoiF bt117.1).bind fun bt120 => ((Sq.atoiF bt117.2.1).bind fun bt122 => (some (x103000_2,x103001_2,t109,t110,bt113.1,bt113.2.1,bt120.1,bt122.1))))) else (none))) else (none)) = some (r1,r2,r3,r4,r5,r6,r7,r8):=H
     have A20:=a1z.mk A200
     clear A200
     by_cases c21 : 2 < (l0.length : Int)
     ·rw [if_pos c21] at H
      have c21b0 : decide (2 < (l0.length : Int)) = true:=decide_eq_true c21
      have c21b1 : decide (2 < l0.length) = true:=decide_eq_true (by omega)
      clear c21
      replace H:=Option.bind_eq_some_iff.mp H
      obtain ⟨⟨t113,t114,t115⟩,A220,H⟩:=H
      replace H : (if 3 < (l0.length : Int) then ((strings_Cut.f (rdOf ByteArray.empty l0 3) (⟨#[45]⟩ : ByteArray)).bind fun bt117 => ((Sq.atoiF bt117.1).bind fun bt120 => ((Sq.atoiF bt117.2.1).bind fun bt122 => (some (x103000_2,x103001_2,t109,t110,t113,t114,bt120.1,bt122.1))))) else (none)) = some (r1,r2,r3,r4,r5,r6,r7,r8):=H
      have A22:=a1z.mk A220
      clear A220
      by_cases c23 : 3 < (l0.length : Int)
      ·rw [if_pos c23] at H
       have c23b0 : decide (3 < (l0.length : Int)) = true:=decide_eq_true c23
       have c23b1 : decide (3 < l0.length) = true:=decide_eq_true (by omega)
       clear c23
       replace H:=Option.bind_eq_some_iff.mp H
       obtain ⟨⟨t117,t118,t119⟩,A240,H⟩:=H
       replace H : ((Sq.atoiF t117).bind fun bt120 => ((Sq.atoiF t118).bind fun bt122 => (some (x103000_2,x103001_2,t109,t110,t113,t114,bt120.1,bt122.1)))) = some (r1,r2,r3,r4,r5,r6,r7,r8):=H
       have A24:=a1z.mk A240
       clear A240
       replace H:=Option.bind_eq_some_iff.mp H
       obtain ⟨⟨t120,t121⟩,A250,H⟩:=H
       replace H : ((Sq.atoiF t118).bind fun bt122 => (some (x103000_2,x103001_2,t109,t110,t113,t114,t120,bt122.1))) = some (r1,r2,r3,r4,r5,r6,r7,r8):=H
       have A25:=a1z.mk A250
       clear A250
       replace H:=Option.bind_eq_some_iff.mp H
       obtain ⟨⟨t122,t123⟩,A260,H⟩:=H
       replace H : (some (x103000_2,x103001_2,t109,t110,t113,t114,t120,t122)) = some (r1,r2,r3,r4,r5,r6,r7,r8):=H
       have A26:=a1z.mk A260
       clear A260
       simp only [Option.some.injEq,Prod.mk.injEq] at H
       obtain ⟨rfl,rfl,rfl,rfl,rfl,rfl,rfl,rfl⟩:=H
       have p108 : 0 ≤ (1 : Int):=(by omega)
       have q108 : 1 < (l0.length : Int):=of_decide_eq_true (by first|(with_reducible assumption)|assumption)
       obtain ⟨ad108,e108,hx108_0⟩:=Kd.e7z HR0.1 1 p108 q108
       obtain rfl : ad103 = ad108:=(by injection e108)
       (try simp only [show (1 : Int).toNat = 1 from rfl,Nat.reduceMul,Nat.reduceEqDiff,Go.Addr.add,↓reduceIte] at hx108_0)
       have qi108 : (1 < l0.length) = True:=eq_true (by omega)
       (try rw [show ((1 : Int)).toNat = 1 from rfl] at hx108_0)
       replace hx108_0:=(HB.1.cell (World.block_lt_of_cell? w _ hx108_0)).trans hx108_0
       replace p108:=eq_true p108
       replace q108:=eq_true q108
       go_wp2_with (first|((with_reducible refine b2z (f:=47) rfl ?_);refine c1z (some 30) rfl rfl Tryz.func47 (by kernel_rfl) rfl #[.string (rdOf ByteArray.empty l0 1)] rfl (by (try simp only [mA_,mC_,mN_]);first|done|rfl|(simp only [lD_,lT_];rfl)) ?_;(with_reducible refine (impl_BlockGet.calls kj2 (rdOf ByteArray.empty l0 1) t109 t110 t111 _ ?side1 A20.1).mono ?_);(case side1 => exact (Tb.T2.below HT.out (by repeat (first|(with_reducible first|exact HB.1|apply a3z|apply a0z|apply a2z|refine a5z ?_ GE101.1|refine a5z ?_ GE102.1)|exact HB.1))));rintro e w27 ⟨rfl,hb⟩;refine ⟨_,rfl,?_⟩;have n0_:=a1z.mk (c0z (g:=gb101) (o:=.cells #[.int .i64 0,.int .i64 0,.int .i64 0,.int .i64 0,.int .i64 0,.int .i64 0,.int .i64 0,.int .i64 0] 39 (0,0)) (by (with_reducible repeat (first|refine a8z ?_ _|refine a9z ?_|refine blk_alloc ?_ _));exact BK101.1) hb);have n1_:=a1z.mk (c0z (g:=gb102) (o:=.cells #[.int .i64 x103000_2,.int .i64 x103001_2,.int .i64 0,.int .i64 0,.int .i64 0,.int .i64 0,.int .i64 0,.int .i64 0] 39 (0,0)) (by (with_reducible repeat (first|refine a8z ?_ _|refine a9z ?_|refine blk_alloc ?_ _));exact BK102.1) hb);have n2_:=a1z.mk (b1z (by repeat (first|(with_reducible first|exact HB.1|apply a3z|apply a0z|apply a2z|refine a5z ?_ GE101.1|refine a5z ?_ GE102.1)|exact HB.1)) hb);clear BK101 BK102 HB;have BK101:=n0_;have BK102:=n1_;have HB:=n2_;clear n0_ n1_ n2_;(try clear hb);have hnb28:=NB102_101.1;have hnc28:=NB101_102.1;have hcz29_0:=c80_ BK102.1;have hcz29_1:=c81_ BK102.1;have hcz29_2:=c82_ BK102.1;have hcz29_3:=c83_ BK102.1;have hcz29_4:=c84_ BK102.1;have hcz29_5:=c85_ BK102.1;have hcz29_6:=c86_ BK102.1;have hcz29_7:=c87_ BK102.1;have hfz29_0:=a4z BK102.1 0;have hfz29_1:=a4z BK102.1 1;have hfz29_2:=a4z BK102.1 2;have hfz29_3:=a4z BK102.1 3;have hfz29_4:=a4z BK102.1 4;have hfz29_5:=a4z BK102.1 5;have hfz29_6:=a4z BK102.1 6;have hfz29_7:=a4z BK102.1 7;have p112 : 0 ≤ (2 : Int):=(by omega);have q112 : 2 < (l0.length : Int):=of_decide_eq_true (by first|(with_reducible assumption)|assumption);obtain ⟨ad112,e112,hx112_0⟩:=Kd.e7z HR0.1 2 p112 q112;obtain rfl : ad103 = ad112:=(by injection e112);(try simp only [show (2 : Int).toNat = 2 from rfl,Nat.reduceMul,Nat.reduceEqDiff,Go.Addr.add,↓reduceIte] at hx112_0);have qi112 : (2 < l0.length) = True:=eq_true (by omega);(try rw [show ((2 : Int)).toNat = 2 from rfl] at hx112_0);have hn112_0 : ad103.block ≠ gb102:=Nat.ne_of_lt (Nat.lt_of_lt_of_le (by have:=World.block_lt_of_cell? _ _ hx112_0;first|rwa [c6z] at this|exact this) GW102.1);have hn112_1 : ad103.block ≠ gb102:=Nat.ne_of_lt (Nat.lt_of_lt_of_le (by have:=World.block_lt_of_cell? _ _ hx112_0;first|rwa [c6z] at this|exact this) GW102.1);replace hx112_0:=(HB.1.cell (World.block_lt_of_cell? w _ hx112_0)).trans hx112_0;replace hx112_0:=(f1z (p:=⟨gb102,2,none⟩) (by (first|rw [c6z]|(show (Addr.add _ _).block ≠ _;rw [c6z])|skip);exact hn112_0) (.int .i64 t109)).trans hx112_0;replace hx112_0:=(f1z (p:=⟨gb102,3,none⟩) (by (first|rw [c6z]|(show (Addr.add _ _).block ≠ _;rw [c6z])|skip);exact hn112_1) (.int .i64 t110)).trans hx112_0;clear hn112_0 hn112_1;replace p112:=eq_true p112;replace q112:=eq_true q112)|((with_reducible refine b2z (f:=47) rfl ?_);refine c1z (some 38) rfl rfl Tryz.func47 (by kernel_rfl) rfl #[.string (rdOf ByteArray.empty l0 2)] rfl (by (try simp only [mA_,mC_,mN_]);first|done|rfl|(simp only [lD_,lT_];rfl)) ?_;(with_reducible refine (impl_BlockGet.calls kj2 (rdOf ByteArray.empty l0 2) t113 t114 t115 _ ?side1 A22.1).mono ?_);(case side1 => exact (Tb.T2.below HT.out (by repeat (first|(with_reducible first|exact HB.1|apply a3z|apply a0z|apply a2z|refine a5z ?_ GE101.1|refine a5z ?_ GE102.1)|exact HB.1))));rintro e w30 ⟨rfl,hb⟩;refine ⟨_,rfl,?_⟩;have n0_:=a1z.mk (c0z (g:=gb101) (o:=.cells #[.int .i64 0,.int .i64 0,.int .i64 0,.int .i64 0,.int .i64 0,.int .i64 0,.int .i64 0,.int .i64 0] 39 (0,0)) (by (with_reducible repeat (first|refine a8z ?_ _|refine a9z ?_|refine blk_alloc ?_ _|refine f3z ?_ NB101_102.1 _));exact BK101.1) hb);have n1_:=a1z.mk (c0z (g:=gb102) (o:=.cells #[.int .i64 x103000_2,.int .i64 x103001_2,.int .i64 t109,.int .i64 t110,.int .i64 0,.int .i64 0,.int .i64 0,.int .i64 0] 39 (0,0)) (by (with_reducible repeat (first|refine a8z ?_ _|refine a9z ?_|refine blk_alloc ?_ _));refine c4z (cs:=#[.int .i64 x103000_2,.int .i64 x103001_2,.int .i64 t109,.int .i64 0,.int .i64 0,.int .i64 0,.int .i64 0,.int .i64 0]) ?_ 3 _ rfl;(with_reducible repeat (first|refine a8z ?_ _|refine a9z ?_|refine blk_alloc ?_ _));refine c4z (cs:=#[.int .i64 x103000_2,.int .i64 x103001_2,.int .i64 0,.int .i64 0,.int .i64 0,.int .i64 0,.int .i64 0,.int .i64 0]) ?_ 2 _ rfl;(with_reducible repeat (first|refine a8z ?_ _|refine a9z ?_|refine blk_alloc ?_ _));exact BK102.1) hb);have n2_:=a1z.mk (b1z (by repeat (first|(with_reducible first|exact HB.1|apply a3z|apply a0z|apply a2z|refine a5z ?_ GE101.1|refine a5z ?_ GE102.1)|exact HB.1)) hb);clear BK101 BK102 HB;have BK101:=n0_;have BK102:=n1_;have HB:=n2_;clear n0_ n1_ n2_;(try clear hb);have hcz31_0:=c80_ BK102.1;have hcz31_1:=c81_ BK102.1;have hcz31_2:=c82_ BK102.1;have hcz31_3:=c83_ BK102.1;have hcz31_4:=c84_ BK102.1;have hcz31_5:=c85_ BK102.1;have hcz31_6:=c86_ BK102.1;have hcz31_7:=c87_ BK102.1;have hfz31_0:=a4z BK102.1 0;have hfz31_1:=a4z BK102.1 1;have hfz31_2:=a4z BK102.1 2;have hfz31_3:=a4z BK102.1 3;have hfz31_4:=a4z BK102.1 4;have hfz31_5:=a4z BK102.1 5;have hfz31_6:=a4z BK102.1 6;have hfz31_7:=a4z BK102.1 7;have p116 : 0 ≤ (3 : Int):=(by omega);have q116 : 3 < (l0.length : Int):=of_decide_eq_true (by first|(with_reducible assumption)|assumption);obtain ⟨ad116,e116,hx116_0⟩:=Kd.e7z HR0.1 3 p116 q116;obtain rfl : ad103 = ad116:=(by injection e116);(try simp only [show (3 : Int).toNat = 3 from rfl,Nat.reduceMul,Nat.reduceEqDiff,Go.Addr.add,↓reduceIte] at hx116_0);have qi116 : (3 < l0.length) = True:=eq_true (by omega);(try rw [show ((3 : Int)).toNat = 3 from rfl] at hx116_0);have hn116_0 : ad103.block ≠ gb102:=Nat.ne_of_lt (Nat.lt_of_lt_of_le (by have:=World.block_lt_of_cell? _ _ hx116_0;first|rwa [c6z] at this|exact this) GW102.1);have hn116_1 : ad103.block ≠ gb102:=Nat.ne_of_lt (Nat.lt_of_lt_of_le (by have:=World.block_lt_of_cell? _ _ hx116_0;first|rwa [c6z] at this|exact this) GW102.1);replace hx116_0:=(HB.1.cell (World.block_lt_of_cell? w _ hx116_0)).trans hx116_0;replace hx116_0:=(f1z (p:=⟨gb102,4,none⟩) (by (first|rw [c6z]|(show (Addr.add _ _).block ≠ _;rw [c6z])|skip);exact hn116_0) (.int .i64 t113)).trans hx116_0;replace hx116_0:=(f1z (p:=⟨gb102,5,none⟩) (by (first|rw [c6z]|(show (Addr.add _ _).block ≠ _;rw [c6z])|skip);exact hn116_1) (.int .i64 t114)).trans hx116_0;clear hn116_0 hn116_1;replace p116:=eq_true p116;replace q116:=eq_true q116)|((with_reducible refine b2z (f:=48) rfl ?_);refine c1z (some 46) rfl rfl Tryz.func48 (by kernel_rfl) rfl #[.string (rdOf ByteArray.empty l0 3),.string (⟨#[45]⟩ : ByteArray)] rfl (by (try simp only [mA_,mC_,mN_]);first|done|rfl|(simp only [lD_,lT_];rfl)) ?_;(with_reducible refine (strings_Cut.calls (rdOf ByteArray.empty l0 3) (⟨#[45]⟩ : ByteArray) t117 t118 t119 _ A24.1).mono ?_);rintro e w' ⟨rfl,⟨nd,rfl⟩⟩;refine ⟨_,rfl,?_⟩)|((with_reducible refine b2z (f:=45) rfl ?_);refine c1z (some 52) rfl rfl Tryz.func45 (by kernel_rfl) rfl #[.string t117] rfl (by (try simp only [mA_,mC_,mN_]);first|done|rfl|(simp only [lD_,lT_];rfl)) ?_;(refine (Sq.atoi_val t117 t120 t121 _ ?side1 A25.1).mono ?_);(case side1 => exact (Tb.T2.below HT.out (by repeat (first|(with_reducible first|exact HB.1|apply a3z|apply a0z|apply a2z|refine a5z ?_ GE101.1|refine a5z ?_ GE102.1)|exact HB.1))));rintro e w32 ⟨⟨ev_,rfl⟩,hb⟩;refine ⟨_,rfl,?_⟩;have n0_:=a1z.mk (c0z (g:=gb101) (o:=.cells #[.int .i64 0,.int .i64 0,.int .i64 0,.int .i64 0,.int .i64 0,.int .i64 0,.int .i64 0,.int .i64 0] 39 (0,0)) (by (with_reducible repeat (first|refine a8z ?_ _|refine a9z ?_|refine blk_alloc ?_ _|refine f3z ?_ NB101_102.1 _));exact BK101.1) hb);have n1_:=a1z.mk (c0z (g:=gb102) (o:=.cells #[.int .i64 x103000_2,.int .i64 x103001_2,.int .i64 t109,.int .i64 t110,.int .i64 t113,.int .i64 t114,.int .i64 0,.int .i64 0] 39 (0,0)) (by (with_reducible repeat (first|refine a8z ?_ _|refine a9z ?_|refine blk_alloc ?_ _));refine c4z (cs:=#[.int .i64 x103000_2,.int .i64 x103001_2,.int .i64 t109,.int .i64 t110,.int .i64 t113,.int .i64 0,.int .i64 0,.int .i64 0]) ?_ 5 _ rfl;(with_reducible repeat (first|refine a8z ?_ _|refine a9z ?_|refine blk_alloc ?_ _));refine c4z (cs:=#[.int .i64 x103000_2,.int .i64 x103001_2,.int .i64 t109,.int .i64 t110,.int .i64 0,.int .i64 0,.int .i64 0,.int .i64 0]) ?_ 4 _ rfl;(with_reducible repeat (first|refine a8z ?_ _|refine a9z ?_|refine blk_alloc ?_ _));exact BK102.1) hb);have n2_:=a1z.mk (b1z (by repeat (first|(with_reducible first|exact HB.1|apply a3z|apply a0z|apply a2z|refine a5z ?_ GE101.1|refine a5z ?_ GE102.1)|exact HB.1)) hb);clear BK101 BK102 HB;have BK101:=n0_;have BK102:=n1_;have HB:=n2_;clear n0_ n1_ n2_;(try clear hb);have hcz33_0:=c80_ BK102.1;have hcz33_1:=c81_ BK102.1;have hcz33_2:=c82_ BK102.1;have hcz33_3:=c83_ BK102.1;have hcz33_4:=c84_ BK102.1;have hcz33_5:=c85_ BK102.1;have hcz33_6:=c86_ BK102.1;have hcz33_7:=c87_ BK102.1;have hfz33_0:=a4z BK102.1 0;have hfz33_1:=a4z BK102.1 1;have hfz33_2:=a4z BK102.1 2;have hfz33_3:=a4z BK102.1 3;have hfz33_4:=a4z BK102.1 4;have hfz33_5:=a4z BK102.1 5;have hfz33_6:=a4z BK102.1 6;have hfz33_7:=a4z BK102.1 7)|((with_reducible refine b2z (f:=45) rfl ?_);refine c1z (some 58) rfl rfl Tryz.func45 (by kernel_rfl) rfl #[.string t118] rfl (by (try simp only [mA_,mC_,mN_]);first|done|rfl|(simp only [lD_,lT_];rfl)) ?_;(refine (Sq.atoi_val t118 t122 t123 _ ?side1 A26.1).mono ?_);(case side1 => exact (Tb.T2.below HT.out (by repeat (first|(with_reducible first|exact HB.1|apply a3z|apply a0z|apply a2z|refine a5z ?_ GE101.1|refine a5z ?_ GE102.1)|exact HB.1))));rintro e w34 ⟨⟨ev_,rfl⟩,hb⟩;refine ⟨_,rfl,?_⟩;have n0_:=a1z.mk (c0z (g:=gb101) (o:=.cells #[.int .i64 0,.int .i64 0,.int .i64 0,.int .i64 0,.int .i64 0,.int .i64 0,.int .i64 0,.int .i64 0] 39 (0,0)) (by (with_reducible repeat (first|refine a8z ?_ _|refine a9z ?_|refine blk_alloc ?_ _));refine f3z ?_ NB101_102.1 _;(with_reducible repeat (first|refine a8z ?_ _|refine a9z ?_|refine blk_alloc ?_ _));exact BK101.1) hb);have n1_:=a1z.mk (c0z (g:=gb102) (o:=.cells #[.int .i64 x103000_2,.int .i64 x103001_2,.int .i64 t109,.int .i64 t110,.int .i64 t113,.int .i64 t114,.int .i64 t120,.int .i64 0] 39 (0,0)) (by (with_reducible repeat (first|refine a8z ?_ _|refine a9z ?_|refine blk_alloc ?_ _));refine c4z (cs:=#[.int .i64 x103000_2,.int .i64 x103001_2,.int .i64 t109,.int .i64 t110,.int .i64 t113,.int .i64 t114,.int .i64 0,.int .i64 0]) ?_ 6 _ rfl;(with_reducible repeat (first|refine a8z ?_ _|refine a9z ?_|refine blk_alloc ?_ _));exact BK102.1) hb);have n2_:=a1z.mk (b1z (by repeat (first|(with_reducible first|exact HB.1|apply a3z|apply a0z|apply a2z|refine a5z ?_ GE101.1|refine a5z ?_ GE102.1)|exact HB.1)) hb);clear BK101 BK102 HB;have BK101:=n0_;have BK102:=n1_;have HB:=n2_;clear n0_ n1_ n2_;(try clear hb);have hcz35_0:=c80_ BK102.1;have hcz35_1:=c81_ BK102.1;have hcz35_2:=c82_ BK102.1;have hcz35_3:=c83_ BK102.1;have hcz35_4:=c84_ BK102.1;have hcz35_5:=c85_ BK102.1;have hcz35_6:=c86_ BK102.1;have hcz35_7:=c87_ BK102.1;have hfz35_0:=a4z BK102.1 0;have hfz35_1:=a4z BK102.1 1;have hfz35_2:=a4z BK102.1 2;have hfz35_3:=a4z BK102.1 3;have hfz35_4:=a4z BK102.1 4;have hfz35_5:=a4z BK102.1 5;have hfz35_6:=a4z BK102.1 6;have hfz35_7:=a4z BK102.1 7;have hcz36_0:=c80_ BK101.1;have hcz36_1:=c81_ BK101.1;have hcz36_2:=c82_ BK101.1;have hcz36_3:=c83_ BK101.1;have hcz36_4:=c84_ BK101.1;have hcz36_5:=c85_ BK101.1;have hcz36_6:=c86_ BK101.1;have hcz36_7:=c87_ BK101.1;have hfz36_0:=a4z BK101.1 0;have hfz36_1:=a4z BK101.1 1;have hfz36_2:=a4z BK101.1 2;have hfz36_3:=a4z BK101.1 3;have hfz36_4:=a4z BK101.1 4;have hfz36_5:=a4z BK101.1 5;have hfz36_6:=a4z BK101.1 6;have hfz36_7:=a4z BK101.1 7))
       refine bodyPost_ret (results_cell_row rfl _ _ gb101 39 #[.int .i64 x103000_2,.int .i64 x103001_2,.int .i64 t109,.int .i64 t110,.int .i64 t113,.int .i64 t114,.int .i64 t120,.int .i64 t122] (0,0) _ rfl (by (with_reducible repeat (first|refine a8z ?_ _|refine a9z ?_|refine blk_alloc ?_ _));refine p8_ ?_;(with_reducible repeat (first|refine a8z ?_ _|refine a9z ?_|refine blk_alloc ?_ _));refine f3z ?_ NB101_102.1 _;(with_reducible repeat (first|refine a8z ?_ _|refine a9z ?_|refine blk_alloc ?_ _));exact BK101.1) Tryz.underlying39 rfl (by kernel_rfl)) rfl ?_
       exact ⟨by first|rfl|(simp [b5z,b4z] <;> rfl)|(simp [*,b5z,b4z] <;> rfl),by repeat (first|(with_reducible first|exact HB.1|apply a3z|apply a0z|apply a2z|refine a5z ?_ GE101.1|refine a5z ?_ GE102.1)|exact HB.1)⟩
      ·rw [if_neg c23] at H
       exact absurd H (by simp)
     ·rw [if_neg c21] at H
      exact absurd H (by simp)
    ·rw [if_neg c19] at H
     exact absurd H (by simp)
 ·rw [if_neg c2] at H
  exact absurd H (by simp)
end Go.Proofs.YtgbdnbbfgcogjaaGreatDoor.Q

namespace Go.Proofs.YtgbdnbbfgcogjaaGreatDoor.Sq
open Go Go.RowKit Go.Shelf Go.Proofs.YtgbdnbbfgcogjaaGreatDoorW.PrintWords Go.Proofs.YtgbdnbbfgcogjaaGreatDoorW.PrintLast Go.Proofs.YtgbdnbbfgcogjaaGreatDoorW.PrintMore
attribute [local go_sem] Oper.semAt_some
set_option linter.unusedVariables false
set_option linter.unusedSimpArgs false
/-- The lines of a text, each with its end. -/
def lns (c : UInt8) : List UInt8 → List (List UInt8)
 | [] => []
 | b :: r => if b = c then [b] :: lns c r else
  match lns c r with
  | [] => [[b]]
  | p :: ps => (b :: p) :: ps
theorem lns_none {c : UInt8} : ∀ {l : List UInt8},c ∉ l → l ≠ [] → lns c l = [l]
 | [],_,h => absurd rfl h
 | [b],h,_ => by
  have h1 : ¬ b = c:=fun e => h (by rw [e];exact List.mem_cons_self)
  simp [lns,h1]
 | b :: d :: r,h,_ => by
  have h1 : ¬ b = c:=fun e => h (by rw [e];exact List.mem_cons_self)
  have h2:=lns_none (l:=d :: r) (fun e => h (List.mem_cons_of_mem _ e)) (by simp)
  rw [lns,if_neg h1,h2]
theorem lns_some {c : UInt8} (r : List UInt8) : ∀ {a : List UInt8},c ∉ a → lns c (a ++ c :: r) = (a ++ [c]) :: lns c r
 | [],_ => by simp [lns]
 | b :: a,h => by
  have h1 : ¬ b = c:=fun e => h (by rw [e];exact List.mem_cons_self)
  have h2:=lns_some r (a:=a) (fun e => h (List.mem_cons_of_mem _ e))
  rw [List.cons_append,lns,if_neg h1,h2]
  rfl
/-- The iterator's own steps: what is left of the text into its cell. -/
def Tn2 (B : Nat) (A A' : World) : Prop:=∃ s : ByteArray,A' = A.setCell ⟨B,0,none⟩ (.string s) ∨ A' = (A.setCell ⟨B,0,none⟩ (.string s)).drew
set_option maxRecDepth 100000 in
set_option maxHeartbeats 4000000 in
theorem lines_in (n : Nat) (hn : 3 ≤ n) (l Bs : Nat) (t : List UInt8) (ht : t.length ≤ 1000000000000) (J Jx : List ByteArray → World → Prop) (hJ : ∀ s A B,J s A → Tn2 Bs A B → J s B)
  (hY : ∀ pre x W1,J pre W1 → pre.length < t.length + 1 → x.size ≤ t.length → YieldAt Fence.wide (n - 1) Tryz.prog l #[.string x] W1 fun e W' => (e = .returned (.bool true) ∧ J (pre ++ [x]) W' ∧ W'.heap[Bs]? = W1.heap[Bs]?) ∨ (e = .returned (.bool false) ∧ Jx (pre ++ [x]) W'))
  (W : World) (hs : Boxed W Bs 9 (.string (tx t))) (h0 : J [] W) :
  CallsIn Fence.wide n Tryz.prog 41 #[.func (.yield l) #[] #[],.pointer (some ⟨Bs,0,none⟩)] W fun e W' => (∃ v,e = .returned v) ∧
   ((∃ ys,ys = (lns 10 t).map tx ∧ J ys W') ∨ (∃ pre,pre <+: (lns 10 t).map tx ∧ Jx pre W')):=by
 have h1 : 1 ≤ n:=by omega
 refine callsIn_of_wp Tryz.func41 rfl trivial ?_ rfl
 simp only [Tryz.ntmps41,List.size_toArray,List.length_cons,List.length_nil,Nat.reduceAdd,Nat.reduceSub,Array.replicate_succ,Array.replicate_zero,List.push_toArray,List.append_toArray,List.nil_append,List.cons_append]
 gi_wp2
 gi_loopw [3] (fun i wr => ∃ (pre : List ByteArray) (rest : List UInt8),(lns 10 t).map tx = pre ++ (lns 10 rest).map tx ∧ rest.length ≤ t.length ∧ pre.length + rest.length ≤ t.length ∧ Boxed wr Bs 9 (.string (tx rest)) ∧ J pre wr)
  (fun i wr => szAt Bs wr)
 case atStart => exact ⟨[],t,rfl,Nat.le_refl _,by simp,hs,h0⟩
 case round =>
  obtain ⟨pre,rest,hpt,hrl,hpl,hs,hJs⟩:=hrel
  have c1:=hs.cell
  have f1:=hs.frozen
  have hsz:=e4z rest
  by_cases hr0 : rest = []
  ·subst hr0
   gi_wp2
   go_end0
   refine ⟨⟨_,rfl⟩,.inl ⟨pre,?_,hJs⟩⟩
   rw [hpt]
   simp [lns]
  ·have hpos : 0 < rest.length:=List.length_pos_iff.2 hr0
   have p1 : (0 < (rest.length : Int)) = True:=eq_true (by omega)
   rcases h5z 10 rest with ⟨hix,hnot⟩|⟨o,hix,ho,hsp,hnot⟩
   ·have hcon : Calls Tryz.prog 42 #[.string (tx rest),.int .u8 10] wr fun e w' => e = .returned (.int .i64 (-1)) ∧ w' = wr:=by
     have h:=Tryz.strings_IndexByte (tx rest) 10 wr
     rwa [f4z,show ((10 : Int).toNat.toUInt8) = 10 from rfl,hix] at h
    obtain ⟨fn,tmps,assign,body,hy,hR⟩:=hY pre (tx rest) (wr.setCell ⟨Bs,0,none⟩ (.string ⟨#[]⟩)) (hJ _ _ _ hJs ⟨_,.inl rfl⟩) (by omega) (by rw [e4z];exact hrl)
    have hl:=lns_none hnot hr0
    gi_wp2_with (refine ⟨trivial,?_⟩;refine (callsIn_wide.2 hcon).mono ?_;rintro e w' ⟨rfl,rfl⟩)
    refine hR.mono ?_
    rintro e W3 (⟨rfl,hJ3,hk3⟩|⟨rfl,hJx3⟩)
    ·gi_wp2
     have hb : Boxed W3 Bs 9 (.string (tx [])):=hk3.trans (hs.set (.string ⟨#[]⟩))
     go_roundw
     case rel => exact ⟨pre ++ [tx rest],[],by rw [hpt,hl];simp [lns],by simp,by rw [List.length_append,List.length_singleton];simp;omega,hb,hJ3⟩
     case measure => rw [szAt_boxed hb,szAt_boxed hs,e4z,e4z];simp;omega
    ·gi_wp2
     refine bodyPost_ret (results_none rfl _ _ _) rfl ?_
     refine ⟨⟨_,rfl⟩,.inr ⟨_,?_,hJx3⟩⟩
     rw [hpt,hl]
     exact List.prefix_refl _
   ·have hcon : Calls Tryz.prog 42 #[.string (tx rest),.int .u8 10] wr fun e w' => e = .returned (.int .i64 (o : Int)) ∧ w' = wr:=by
     have h:=Tryz.strings_IndexByte (tx rest) 10 wr
     rwa [f4z,show ((10 : Int).toNat.toUInt8) = 10 from rfl,hix] at h
    obtain ⟨fn,tmps,assign,body,hy,hR⟩:=hY pre ((tx rest).extract 0 (o + 1)) ((wr.setCell ⟨Bs,0,none⟩ (.string ((tx rest).extract (o + 1) rest.length))).drew) (hJ _ _ _ hJs ⟨_,.inr rfl⟩) (by omega) (by rw [e6z,List.drop_zero,e4z,lT_];omega)
    have HS:=Off.mk hsp
    clear hsp
    have q1 : (0 ≤ (o : Int)) = True:=eq_true (by omega)
    have q5 : wrap64 ((o : Int) + 1) = (o : Int) + 1:=by unfold wrap64;omega
    have q6 : ((o : Int) + 1 ≤ (rest.length : Int)) = True:=eq_true (by omega)
    have q7 : (0 ≤ (o : Int) + 1) = True:=eq_true (by omega)
    gi_wp2_with (refine ⟨trivial,?_⟩;refine (callsIn_wide.2 hcon).mono ?_;rintro e w' ⟨rfl,rfl⟩)
    rw [wpIn_wide]
    refine h6z (n:=10) (S:=fun w' => w'.cell? ⟨Bs,0,none⟩ = some (.string (tx rest)) ∧ w'.frozen? ⟨Bs,0,none⟩ = false) (ds:=[9]) #[false,false,false,false,false,false,false,false,false,false] (by kernel_rfl) rfl rfl ⟨c1,f1⟩ (fun hHeld => ?_)
    refine pure_ (i:=1) (N:=some 13) (v:=?_) (a':=?_) #[false,true,false,false,false,false,false,false,false,false] rfl rfl (by kernel_rfl) (fun _ _ _ h => h) (Or.inl ⟨by rfl,?_⟩) ?_ ?_
    rotate_left
    ·intro w'
     go_simp
     with_reducible rfl
    rotate_left
    ·simp only [Act.put,sA_,sZ_,sS_,i64_w,i32_w]
     rfl
    refine pure_ (i:=5) (N:=some 17) (v:=?_) (a':=?_) #[false,true,false,false,false,true,false,false,false,false] rfl rfl (by kernel_rfl) (fun _ _ _ h => h) (Or.inl ⟨by rfl,?_⟩) ?_ ?_
    rotate_left
    ·intro w'
     go_simp
     with_reducible rfl
    rotate_left
    ·simp only [Act.put,sA_,sZ_,sS_,i64_w,i32_w]
     rfl
    refine pure_ (i:=2) (N:=some 14) (v:=?_) (a':=?_) #[false,true,true,false,false,true,false,false,false,false] rfl rfl (by kernel_rfl) (fun _ _ _ h => h) (Or.inl ⟨by rfl,?_⟩) ?_ ?_
    rotate_left
    ·intro w'
     go_simp
     with_reducible rfl
    rotate_left
    ·simp only [Act.put,sA_,sZ_,sS_,i64_w,i32_w]
     rfl
    refine pure_ (i:=6) (N:=some 18) (v:=?_) (a':=?_) #[false,true,true,false,false,true,true,false,false,false] rfl rfl (by kernel_rfl) (fun _ _ _ h => h) (Or.inl ⟨by rfl,?_⟩) ?_ ?_
    rotate_left
    ·intro w'
     go_simp
     with_reducible rfl
    rotate_left
    ·simp only [Act.put,sA_,sZ_,sS_,i64_w,i32_w]
     rfl
    refine take_ (i:=0) (N:=some 12) (v:=?_) (a':=?_) #[true,true,true,false,false,true,true,false,false,false] rfl rfl (by kernel_rfl) (fun _ _ _ h => h) (Or.inl ⟨by rfl,?_⟩) hHeld ?_ ?_
    rotate_left
    ·rintro w' ⟨s0,s1⟩
     go_simp
     with_reducible rfl
    rotate_left
    ·simp only [Act.put,sA_,sZ_,sS_,i64_w,i32_w]
     rfl
    refine take_ (i:=4) (N:=some 16) (v:=?_) (a':=?_) #[true,true,true,false,true,true,true,false,false,false] rfl rfl (by kernel_rfl) (fun _ _ _ h => h) (Or.inl ⟨by rfl,?_⟩) hHeld ?_ ?_
    rotate_left
    ·rintro w' ⟨s0,s1⟩
     go_simp
     with_reducible rfl
    rotate_left
    ·simp only [Act.put,sA_,sZ_,sS_,i64_w,i32_w]
     rfl
    refine pure_ (i:=3) (N:=some 15) (v:=?_) (a':=?_) #[true,true,true,true,true,true,true,false,false,false] rfl rfl (by kernel_rfl) (fun _ _ _ h => h) (Or.inl ⟨by rfl,?_⟩) ?_ ?_
    rotate_left
    ·intro w'
     go_simp
     with_reducible rfl
    rotate_left
    ·simp only [Act.put,sA_,sZ_,sS_,i64_w,i32_w]
     rfl
    refine pure_ (i:=7) (N:=some 19) (v:=?_) (a':=?_) #[true,true,true,true,true,true,true,true,false,false] rfl rfl (by kernel_rfl) (fun _ _ _ h => h) (Or.inl ⟨by rfl,?_⟩) ?_ ?_
    rotate_left
    ·intro w'
     go_simp
     with_reducible rfl
    rotate_left
    ·simp only [Act.put,sA_,sZ_,sS_,i64_w,i32_w]
     rfl
    refine pure_ (i:=8) (N:=some 3) (v:=?_) (a':=?_) #[true,true,true,true,true,true,true,true,true,false] rfl rfl (by kernel_rfl) (fun _ _ _ h => h) (Or.inl ⟨by rfl,?_⟩) ?_ ?_
    rotate_left
    ·intro w'
     go_simp
     with_reducible rfl
    rotate_left
    ·simp only [Act.put,sA_,sZ_,sS_,i64_w,i32_w]
     rfl
    refine last_ (i:=9) (N:=none) #[true,true,true,true,true,true,true,true,true,true] rfl rfl (by kernel_rfl) (by decide) (fun K hK => ?_)
    refine skip_ (w1:=(w'.drew).setCell ⟨Bs,0,none⟩ (.string ((tx rest).extract (o + 1) rest.length))) (by rfl) rfl ?hrun ?_
    case hrun =>
     obtain ⟨s0,s1⟩:=hHeld
     go_simp
    refine hK.out _ _ ?_
    refine done_ (by kernel_rfl) ?_
    gi_wp2
    have e : lns 10 rest = (rest.take o ++ [10]) :: lns 10 (rest.drop (o + 1)):=by
     have h:=lns_some (c:=10) (rest.drop (o + 1)) hnot
     rwa [← HS.out] at h
    have e1 : (tx rest).extract (o + 1) rest.length = tx (rest.drop (o + 1)):=by rw [e6z,List.take_length]
    have e3 : rest.take (o + 1) = rest.take o ++ [10]:=by
     conv => lhs;rw [HS.out]
     rw [List.take_append]
     simp only [lT_,Nat.min_eq_left (Nat.le_of_lt ho)]
     rw [List.take_of_length_le (by rw [lT_];omega),show o + 1 - o = 1 by omega]
     rfl
    have e2 : (tx rest).extract 0 (o + 1) = tx (rest.take o ++ [10]):=by rw [e6z,List.drop_zero,e3]
    have hdl : (rest.drop (o + 1)).length + (o + 1) = rest.length:=by rw [lD_];omega
    refine hR.mono ?_
    rintro e' W3 (⟨rfl,hJ3,hk3⟩|⟨rfl,hJx3⟩)
    ·gi_wp2
     rw [e2] at hJ3
     have hb : Boxed W3 Bs 9 (.string (tx (rest.drop (o + 1)))):=by
      rw [← e1]
      exact hk3.trans (hs.set (.string ((tx rest).extract (o + 1) rest.length)))
     go_roundw
     case rel => exact ⟨pre ++ [tx (rest.take o ++ [10])],rest.drop (o + 1),by rw [hpt,e,List.append_assoc];rfl,by omega,by rw [List.length_append,List.length_singleton];omega,hb,hJ3⟩
     case measure => rw [szAt_boxed hb,szAt_boxed hs,e4z,e4z];omega
    ·gi_wp2
     refine bodyPost_ret (results_none rfl _ _ _) rfl ?_
     refine ⟨⟨_,rfl⟩,.inr ⟨_,?_,hJx3⟩⟩
     rw [hpt,e,mC_,e2]
     exact ⟨_,by rw [List.append_assoc];rfl⟩
/-- The same as a contract for the caller's law. -/
theorem lines_seq (n : Nat) (hn : 3 ≤ n) (Bs : Nat) (t : List UInt8) (ht : t.length ≤ 1000000000000) (w : World) (hs : Boxed w Bs 9 (.string (tx t))) :
  SeqC Fence.wide n Tryz.prog 41 #[.pointer (some ⟨Bs,0,none⟩)] (fun x : ByteArray => #[.string x]) (fun x => x.size ≤ t.length) (Tn2 Bs) (fun A B => B.heap[Bs]? = A.heap[Bs]?) (fun ys => ys = (lns 10 t).map tx) (fun pre => pre <+: (lns 10 t).map tx) (t.length + 1) w :=
 fun l J Jx W hW hJ hY h0 => lines_in n hn l Bs t ht J Jx hJ hY W ((hW.block Bs hs.lt).trans hs) h0
/-- strings.Lines itself: an iterator over one new cell. -/
theorem lines_calls (s : ByteArray) (w : World) : Calls Tryz.prog 19 #[.string s] w fun e w' => e = .returned (.func (.func 41) #[] #[.pointer (some ⟨w.heap.size,0,none⟩)]) ∧ w' = w.alloc (.cells #[.string s] 9):=by
 go_enter Tryz.func19,Tryz.ntmps19
 go_wp2
 go_ret
 exact ⟨rfl,rfl⟩
end Go.Proofs.YtgbdnbbfgcogjaaGreatDoor.Sq

namespace Go.Proofs.YtgbdnbbfgcogjaaGreatDoor.Tb
open Go.RowKit
/-- T2, and the variable that holds how long a searched text may be is a number. -/
def T3 (w : World) : Prop:=T2 w ∧ ∃ m,w.cell? ⟨0,0,none⟩ = some (.int .i64 m)
theorem T3.below {w w' : World} (h : T3 w) (hb : Below w.heap.size w w') : T3 w':=by
 obtain ⟨h2,m,hm⟩:=h
 exact ⟨h2.below hb,m,cell_later hb hm⟩
theorem T2.of {w : World} (h : T3 w) : T2 w:=h.1
end Go.Proofs.YtgbdnbbfgcogjaaGreatDoor.Tb
namespace Go.Proofs.YtgbdnbbfgcogjaaGreatDoor.Sq
open Go Go.RowKit Go.Shelf
set_option linter.unusedVariables false
theorem indexB_one (l : List UInt8) (c : UInt8) : Lib.indexB (tx l) ⟨#[c]⟩ = Lib.indexByte l c:=by
 show Lib.index (tx l).data.toList [c] = _
 rw [f4z,Lib.index_one]
theorem splitB_parts (c : UInt8) : ∀ (n : Nat) (l : List UInt8),l.length ≤ n → Lib.splitB ⟨#[c]⟩ 0 (Lib.countB (tx l) ⟨#[c]⟩) (tx l) = (parts c l).map tx:=by
 intro n
 induction n with
 | zero =>
  intro l hl
  have hnil : l = []:=List.length_eq_zero_iff.1 (by omega)
  subst hnil
  rw [Lib.splitB_miss _ _ _ _ (by rw [indexB_one];rfl)]
  rfl
 | succ n ih =>
  intro l hl
  rcases h5z c l with ⟨hix,hnot⟩|⟨o,hix,ho,hsp,hnot⟩
  ·rw [Lib.splitB_miss _ _ _ _ (by rw [indexB_one,hix]),f9z hnot]
   rfl
  ·have hc : Lib.countB (tx l) ⟨#[c]⟩ = 1 + Lib.countB ((tx l).extract (o + 1) (tx l).size) ⟨#[c]⟩:=Lib.countB_hit (tx l) ⟨#[c]⟩ o (Nat.le_refl 1) (by rw [indexB_one,hix])
   have he : (tx l).extract (o + 1) (tx l).size = tx (l.drop (o + 1)):=by rw [e4z,e6z,List.take_length]
   rw [hc,Nat.add_comm 1,Lib.splitB_hit _ _ _ _ o (by rw [indexB_one,hix])]
   have hs1 : (tx l).extract (o + (ByteArray.mk #[c]).size) (tx l).size = tx (l.drop (o + 1)):=he
   have e : parts c l = l.take o :: parts c (l.drop (o + 1)):=by
    have h:=e9z (c:=c) (l.drop (o + 1)) hnot
    rwa [← hsp] at h
   rw [hs1,he,ih _ (by rw [List.length_drop];omega),e,List.map_cons,Nat.add_zero,e6z,List.drop_zero]
/-- strings.Split: a new row that holds the pieces. -/
theorem split_calls (c : UInt8) (l : List UInt8) (hl : l.length ≤ 1000000000) (w : World) (hT : Tb.T3 w) :
  Calls Tryz.prog 20 #[.string (tx l),.string ⟨#[c]⟩] w fun e w' => e = .returned (.slice (some ⟨w.heap.size,0,none⟩) (parts c l).length (parts c l).length) ∧ w' = w.alloc (.cells (((parts c l).map tx).map Value.string).toArray 9):=by
 obtain ⟨_,m,hm⟩:=hT
 have h:=Tryz.strings_Split (tx l) ⟨#[c]⟩ m w (by rw [e4z];omega) hm (Nat.le_refl 1)
 have hn : Lib.countB (tx l) ⟨#[c]⟩ + 1 = (parts c l).length:=by
  have h1:=Lib.splitB_all ⟨#[c]⟩ (Nat.le_refl 1) 0 _ (tx l) rfl
  rw [splitB_parts c _ l (Nat.le_refl _),List.length_map] at h1
  omega
 rw [splitB_parts c _ l (Nat.le_refl _)] at h
 refine h.mono ?_
 rintro e w' ⟨he,hw⟩
 refine ⟨?_,hw⟩
 rw [he,← hn]
end Go.Proofs.YtgbdnbbfgcogjaaGreatDoor.Sq

namespace Go.Proofs.YtgbdnbbfgcogjaaGreatDoor.Sq
open Go Go.RowKit Go.Proofs.YtgbdnbbfgcogjaaGreatDoorW.PrintLast
set_option linter.unusedVariables false
theorem wpIn_of_wp_op (l n : Nat) {P : Program} {o : Oper} (hd : ∀ c,o.op ≠ .defer c) {a : Act} {w : World} {K : Act → World → Prop} {Q : Exit → Act → World → Prop} (h : Oper.wp P o a w K Q) : Oper.wpIn (Fence.wide.inRound l) n P o a w K Q:=by
 unfold Oper.wpIn
 refine ⟨fun _ _ => trivial,?_⟩
 rw [Oper.semAt_eq _ _ _ hd]
 unfold Oper.wp at h
 have hdep : ((Fence.wide.inRound l).depth.isSome = true → 1 ≤ n):=fun h => by simp [Fence.wide] at h
 generalize (execOp a.eval o).run P w = r at h ⊢
 cases r with
 | ok x w' =>
  cases x with
  | value v => exact h
  | skip => exact h
  | defer d => exact h
  | enter f args =>
   refine ⟨hdep,?_⟩
   refine (CallsIn.inRound l (callsIn_wide.2 h)).mono ?_
   intro e w'' he
   cases e <;> exact he
  | row row args =>
   refine ⟨hdep,fun c cs _ => ?_⟩
   obtain ⟨v,w'',r,s⟩:=h c cs
   exact ⟨v,w'',r,stepsIn_wide.2 s⟩
  | _ => exact h.elim
 | halt x w' =>
  cases x with
  | panic v => exact h
  | _ => exact h.elim
theorem wpOpIn_of (l n : Nat) {P : Program} {ops : Array Oper} (hd : ∀ (i : Nat) (o : Oper),ops[i]? = some o → ∀ c,o.op ≠ .defer c) {i : Nat} {a : Act} {w : World} {K : Act → World → Prop} {Q : Exit → Act → World → Prop} (hq : ¬ LetsOut Q) (h : wpOp P ops Q i K a w) : wpOpIn (Fence.wide.inRound l) n P ops Q i K a w:=by
 unfold wpOpIn
 unfold wpOp at h
 cases ho : ops[i]? with
 | none => rw [ho] at h;exact h
 | some o =>
  rw [ho] at h
  simp only at h ⊢
  split
  ·rename_i hw
   rw [if_pos hw] at h
   exact wpIn_of_wp_op l n (hd i o ho) (h.resolve_right fun x => hq x.2)
  ·rename_i hw
   rw [if_neg hw] at h
   exact ⟨fun _ _ => trivial,h⟩
theorem wpAnyIn_of (l n : Nat) {P : Program} {md : Region.Mode} {ops : Array Oper} (hd : ∀ (i : Nat) (o : Oper),ops[i]? = some o → ∀ c,o.op ≠ .defer c) {Q : Exit → Act → World → Prop} (hq : ¬ LetsOut Q) : ∀ (fuel : Nat) (listed : Array Bool) (a : Act) (w : World),wpAny P md ops Q fuel listed a w → wpAnyIn (Fence.wide.inRound l) n P md ops Q fuel listed a w
 | 0,_,_,_,h => h
 | fuel + 1,listed,a,w,h => ⟨h.1,fun i hi => wpOpIn_of l n hd hq (wpOp_mono (fun a' w' h' => wpAnyIn_of l n hd hq fuel _ a' w' h') (h.2 i hi))⟩
/-- No operation here defers a call. -/
def noDefer (ops : Array Oper) : Bool:=ops.all fun o => match o.op with|.defer _ => false|_ => true
theorem noDefer_spec {ops : Array Oper} (h : noDefer ops = true) : ∀ (i : Nat) (o : Oper),ops[i]? = some o → ∀ c,o.op ≠ .defer c:=by
 intro i o ho c hc
 have hm:=Array.mem_of_getElem? ho
 have:=Array.all_eq_true_iff_forall_mem.1 h o hm
 rw [hc] at this
 cases this
/-- The start of such a region. -/
theorem startR_ {P : Program} {ops : Array Oper} {Q : Exit → Act → World → Prop} {S : World → Prop} {ds : List Nat} {lp m id n : Nat} {a : Act} {w : World} (l : Array Bool) (hm : P.follows .mixedOrders = true) (hn : ops.size = n) (hl : Array.replicate n false = l) (hd : noDefer ops = true) (hq : ¬ LetsOut Q) (hS : S w.drew)
  (h : S w.drew → wpAnyLast P .any ops Q S ds n l a w.drew) : (Code.region id ops true).wpIn (Fence.wide.inRound lp) m P Q a w:=by
 subst hn
 subst hl
 exact wpIn_region_any hm (wpAnyIn_of lp m (noDefer_spec hd) hq _ _ _ _ (wpAny_of_last _ _ _ _ (h hS)))
end Go.Proofs.YtgbdnbbfgcogjaaGreatDoor.Sq

namespace Go.Proofs.YtgbdnbbfgcogjaaGreatDoor.Sq
open Go Go.RowKit Go.Shelf Go.Proofs.YtgbdnbbfgcogjaaGreatDoor.Q Go.Proofs.YtgbdnbbfgcogjaaGreatDoorW.PrintWords Go.Proofs.YtgbdnbbfgcogjaaGreatDoorW.PrintLast Go.Proofs.YtgbdnbbfgcogjaaGreatDoorW.PrintMore
set_option linter.unusedVariables false
set_option linter.unusedSimpArgs false
/-- A line without its end; its words; the rule that they make. -/
def trimL (x : ByteArray) : List UInt8:=Lib.trimSuffix x.data.toList [10]
def wordsL (x : ByteArray) : List ByteArray:=(parts 32 (trimL x)).map tx
def ruleV (ws : List ByteArray) : S39 :=
 match impl_ruleGet.f 400 ws with
 | some (a,b,c,d,e,f,g,h) => ⟨a,b,⟨c,d⟩,⟨e,f⟩,g,h⟩
 | none => z39
/-- One line more. -/
def stepG (l : List S39) (x : ByteArray) : Option (List S39):=if (wordsL x).length = 4 then some (l ++ [ruleV (wordsL x)]) else none
def foldG : List S39 → List ByteArray → Option (List S39)
 | l,[] => some l
 | l,x :: r => (stepG l x).bind fun m => foldG m r
theorem foldG_append : ∀ (r s : List ByteArray) (l : List S39),foldG l (r ++ s) = (foldG l r).bind fun m => foldG m s
 | [],s,l => rfl
 | x :: r,s,l => by
  rw [List.cons_append]
  show ((stepG l x).bind fun m => foldG m (r ++ s)) = ((stepG l x).bind fun m => foldG m r).bind fun m => foldG m s
  rcases stepG l x with _|m
  ·rfl
  ·exact foldG_append r s m
theorem foldG_snoc (r : List ByteArray) (x : ByteArray) (l : List S39) : foldG l (r ++ [x]) = (foldG l r).bind fun m => stepG m x:=by
 rw [foldG_append]
 congr 1
 funext m
 unfold foldG
 rcases stepG m x with _|z <;> rfl
theorem foldG_prefix {pre xs : List ByteArray} (h : pre <+: xs) {l : List S39} (hn : foldG l pre = none) : foldG l xs = none:=by
 obtain ⟨s,rfl⟩:=h
 rw [foldG_append,hn]
 rfl
theorem foldG_len : ∀ (r : List ByteArray) (l m : List S39),foldG l r = some m → m.length = l.length + r.length
 | [],l,m,h => by
  obtain rfl:=Option.some.inj h
  rfl
 | x :: r,l,m,h => by
  obtain ⟨q,hq,h⟩:=Option.bind_eq_some_iff.1 (show ((stepG l x).bind fun m => foldG m r) = some m from h)
  have e:=foldG_len r q m h
  unfold stepG at hq
  split at hq
  ·obtain rfl:=Option.some.inj hq
   rw [e,List.length_append,List.length_singleton,List.length_cons]
   omega
  ·cases hq
/-- What has been made of the lines so far. -/
def listG (pre : List ByteArray) : List S39:=(foldG [] pre).getD []
/-- What RulesGet answers. -/
def rulesGetF (k : Nat) (s : ByteArray) : Option (List S39 × Bool) :=
 if s.size ≤ 1048576 then
  match foldG [] ((lns 10 s.data.toList).map tx) with
  | none => some ([],false)
  | some l => (impl_RulesPut.f k l).bind fun t => if t = s then some (l,true) else some ([],false)
 else none
theorem types22 : ∀ q,q ∈ 39 :: k39.E → q ≠ 22:=by decide
theorem types9 : ∀ q,q ∈ 39 :: k39.E → q ≠ 9:=by decide
theorem types4 : ∀ q,q ∈ 39 :: k39.E → q ≠ 4:=by decide
abbrev Lst (W : World) (base : Nat) (v : Value) (l : List S39) : Prop:=k39.R 39 W base (fun _ => True) v l
theorem Lst.far {W W' : World} {base : Nat} {v : Value} {l : List S39} {row : Option Nat} (h : Lst W base v l) (hg : W.grownBy W' row) (hr : ∀ r,row = some r → ∃ o : Obj,W.heap[r]? = some o ∧ o.isCells = false) : Lst W' base v l :=
 Kd.c9z (Kd.R_grown (Kd.R_bound h) hg (fun k hk e => by
  obtain ⟨_,_,_,q,_,cells,hc⟩:=hk
  obtain ⟨o,ho,hi⟩:=hr k e.symm
  rw [hc] at ho
  cases Option.some.inj ho
  cases hi)) (fun _ hk => hk.1)
theorem Lst.drew {W : World} {base : Nat} {v : Value} {l : List S39} (h : Lst W base v l) : Lst W.drew base v l:=Kd.b9z h
theorem boxed_drew {W : World} {b : Nat} {t : TypeId} {v : Value} (h : Boxed W b t v) : Boxed W.drew b t v:=h
/-- The facts between two rounds. -/
def IG (w : World) (pre : List ByteArray) (W : World) : Prop :=
 (foldG [] pre = some (listG pre) ∧ w.heap.size + 4 ≤ W.heap.size) ∧ (∃ v,Boxed W (w.heap.size + 2) 22 v ∧ Lst W w.heap.size v (listG pre)) ∧ (∃ u,Boxed W (w.heap.size + 3) 9 u) ∧ (Boxed W w.heap.size 22 (.slice none 0 0) ∧ Boxed W (w.heap.size + 1) 4 (.bool false)) ∧ Below w.heap.size w W
/-- The facts behind a round that has left. -/
def IGX (w : World) (pre : List ByteArray) (W : World) : Prop :=
 foldG [] pre = none ∧ (Boxed W w.heap.size 22 (.slice none 0 0) ∧ Boxed W (w.heap.size + 1) 4 (.bool false)) ∧ Below w.heap.size w W
theorem boxed_ne {W : World} {row : Option Nat} (hr : ∀ r,row = some r → ∃ o : Obj,W.heap[r]? = some o ∧ o.isCells = false) {b : Nat} {t : TypeId} {v : Value} (hb : Boxed W b t v) : some b ≠ row:=fun e => by
 obtain ⟨o,ho,hc⟩:=hr b e.symm
 rw [show W.heap[b]? = _ from hb] at ho
 cases Option.some.inj ho
 cases hc
theorem IG_own (w : World) {B : Nat} (hB : w.heap.size ≤ B) : OwnFrom B (IG w):=by
 intro s W W' row ⟨⟨h1,h2⟩,⟨v,h3,hL⟩,⟨u,hu⟩,⟨h4,h5⟩,h6⟩ hg hr
 have hr':=fun r e => (hr r e).2
 exact ⟨⟨h1,Nat.le_trans h2 hg.size⟩,⟨v,h3.kept hg (boxed_ne hr' h3),Lst.far hL hg hr'⟩,⟨u,hu.kept hg (boxed_ne hr' hu)⟩,⟨h4.kept hg (boxed_ne hr' h4),h5.kept hg (boxed_ne hr' h5)⟩,ownFrom_below (Nat.le_refl _) hB s W W' row h6 hg hr⟩
theorem IGX_own (w : World) {B : Nat} (hB : w.heap.size ≤ B) : OwnFrom B (IGX w):=by
 intro s W W' row ⟨h1,⟨h4,h5⟩,h6⟩ hg hr
 have hr':=fun r e => (hr r e).2
 exact ⟨h1,⟨h4.kept hg (boxed_ne hr' h4),h5.kept hg (boxed_ne hr' h5)⟩,ownFrom_below (Nat.le_refl _) hB s W W' row h6 hg hr⟩
theorem IG_turn (w : World) : ∀ s A B,IG w s A → Tn2 (w.heap.size + 3) A B → IG w s B:=by
 rintro s A B ⟨⟨h1,h2⟩,⟨v,h3,hL⟩,⟨u,hu⟩,⟨h4,h5⟩,h6⟩ ⟨z,rfl|rfl⟩
 ·exact ⟨⟨h1,by simpa using h2⟩,⟨v,h3.other (by omega) _,Kd.R_set hL hu types9 _ _⟩,⟨_,hu.set _⟩,⟨h4.other (by omega) _,h5.other (by omega) _⟩,h6.setCell (p:=⟨w.heap.size + 3,0,none⟩) (by show w.heap.size ≤ w.heap.size + 3;omega) _⟩
 ·exact ⟨⟨h1,by simpa using h2⟩,⟨v,boxed_drew (h3.other (by omega) _),Lst.drew (Kd.R_set hL hu types9 _ _)⟩,⟨_,boxed_drew (hu.set _)⟩,⟨boxed_drew (h4.other (by omega) _),boxed_drew (h5.other (by omega) _)⟩,(h6.setCell (p:=⟨w.heap.size + 3,0,none⟩) (by show w.heap.size ≤ w.heap.size + 3;omega) _).drew⟩
/-- A round that adds a rule. -/
theorem bodyG_ok {w W V W3 : World} {B : Nat} {pre : List ByteArray} {x : ByteArray} {v v1 : Value} (hI : IG w pre W) (hv : Boxed W (w.heap.size + 2) 22 v) (hL : Lst W w.heap.size v (listG pre)) (hV : Below W.heap.size W V) (hB : w.heap.size + 4 ≤ B)
  (h4 : (wordsL x).length = 4) (hg : V.grownBy W3 v.ownBlock) (hL3 : Lst W3 w.heap.size v1 (listG pre ++ [ruleV (wordsL x)])) (hb3 : Below w.heap.size w W3) :
  KeepsFrom B W (W3.setCell ⟨w.heap.size + 2,0,none⟩ v1) ∧ (W3.setCell ⟨w.heap.size + 2,0,none⟩ v1).heap[w.heap.size + 3]? = W.heap[w.heap.size + 3]? ∧ IG w (pre ++ [x]) (W3.setCell ⟨w.heap.size + 2,0,none⟩ v1):=by
 obtain ⟨⟨hf,hw4⟩,-,⟨u,hu⟩,⟨g0,g1⟩,hbel⟩:=hI
 have hLV : Lst V w.heap.size v (listG pre):=Kd.d3z hL hV
 have step : ∀ {b : Nat} {t : TypeId} {z : Value},Boxed W b t z → 39 ≠ t → Boxed W3 b t z:=fun {b t z} hb ht => by
  have hbV : Boxed V b t z:=(hV.block _ hb.lt).trans hb
  exact hbV.kept hg (Kd.R_ne hLV hbV ht)
 have e2:=step hv (by decide)
 have e0:=step g0 (by decide)
 have e1:=step g1 (by decide)
 have eu:=step hu (by decide)
 have hfo : foldG [] (pre ++ [x]) = some (listG pre ++ [ruleV (wordsL x)]):=by
  rw [foldG_snoc,hf]
  exact if_pos h4
 have hva : listG (pre ++ [x]) = listG pre ++ [ruleV (wordsL x)]:=by unfold listG;rw [hfo];rfl
 refine ⟨?_,?_,⟨by rw [hfo,hva],?_⟩,⟨v1,e2.set _,?_⟩,⟨u,eu.other (by omega) _⟩,⟨e0.other (by omega) _,e1.other (by omega) _⟩,hb3.setCell (p:=⟨w.heap.size + 2,0,none⟩) (by show w.heap.size ≤ w.heap.size + 2;omega) _⟩
 ·refine KeepsFrom.trans ⟨Nat.le_trans hV.size hg.size,fun k o hk ho hc => ?_⟩ ((KeepsOthers.setCell _ _ _).from _)
  have hkl:=(Array.getElem?_eq_some_iff.1 ho).1
  have hkV : V.heap[k]? = some o:=(hV.block _ hkl).trans ho
  refine (hg.block k (Nat.lt_of_lt_of_le hkl hV.size) (fun e => ?_)).trans hkV
  obtain ⟨_,_,ho',_⟩:=hLV
  obtain ⟨cells,hcells⟩:=own_typed ho' k e.symm
  rw [hcells] at hkV
  cases Option.some.inj hkV
  cases hc
 ·rw [show (W3.setCell ⟨w.heap.size + 2,0,none⟩ v1).heap[w.heap.size + 3]? = some (.cells #[u] 9 (0,0)) from eu.other (by omega) _]
  exact hu.symm
 ·have:=hV.size
  have:=hg.size
  simp
  omega
 ·rw [hva]
  exact Kd.R_set hL3 e2 types22 _ _
/-- A round that leaves. -/
theorem bodyG_no {w W V : World} {B : Nat} {pre : List ByteArray} {x : ByteArray} (hI : IG w pre W) (hV : Below W.heap.size W V) (h4 : ¬ (wordsL x).length = 4) :
  KeepsFrom B W ((V.setCell ⟨w.heap.size,0,none⟩ (.slice none 0 0)).setCell ⟨w.heap.size + 1,0,none⟩ (.bool false)) ∧ IGX w (pre ++ [x]) ((V.setCell ⟨w.heap.size,0,none⟩ (.slice none 0 0)).setCell ⟨w.heap.size + 1,0,none⟩ (.bool false)):=by
 obtain ⟨⟨hf,hw4⟩,-,-,⟨g0,g1⟩,hbel⟩:=hI
 have e0 : Boxed V w.heap.size 22 (.slice none 0 0):=(hV.block _ g0.lt).trans g0
 have e1 : Boxed V (w.heap.size + 1) 4 (.bool false):=(hV.block _ g1.lt).trans g1
 refine ⟨((keepsFrom_below hV).trans ((KeepsOthers.setCell _ _ _).from _)).trans ((KeepsOthers.setCell _ _ _).from _),by rw [foldG_snoc,hf];exact if_neg h4,⟨(e0.set _).other (by omega) _,(e1.other (by omega) _).set _⟩,?_⟩
 exact ((hbel.trans (hV.mono (by omega))).setCell (p:=⟨w.heap.size,0,none⟩) (Nat.le_refl _) _).setCell (p:=⟨w.heap.size + 1,0,none⟩) (by show w.heap.size ≤ w.heap.size + 1;omega) _
/-- A new row of strings is read. -/
theorem row_reads (l : List ByteArray) (hl : l.length ≤ 9223372036854775807) (W : World) : Kd.C Kd.string (W.alloc (.cells (l.map Value.string).toArray 9)) (some ⟨W.heap.size,0,none⟩) l.length l :=
 (Kd.c2z (Kd.R_of_own (h1:=fun _ => rfl) (e:=9) (base:=W.heap.size) (ok:=fun _ => True) (own_lit_of (enc:=Value.string) W W.heap.size 9 l (Nat.le_refl _) hl) (fun _ _ => trivial))).2.2
theorem four (w : World) (o0 o1 o2 o3 : Obj) (W0 : World) (h : (((w.alloc o0).alloc o1).alloc o2).alloc o3 = W0) :
  W0.heap.size = w.heap.size + 4 ∧ W0.heap[w.heap.size]? = some o0 ∧ W0.heap[w.heap.size + 1]? = some o1 ∧ W0.heap[w.heap.size + 2]? = some o2 ∧ W0.heap[w.heap.size + 3]? = some o3 ∧ Below w.heap.size w W0:=by
 subst h
 have a : ∀ (V : World) (o : Obj) (m : Nat),V.heap.size = m → (V.alloc o).heap[m]? = some o:=fun V o m e => by rw [← e];exact World.alloc_heap_new V o
 have b : ∀ (V : World) (o : Obj) (m : Nat),m < V.heap.size → (V.alloc o).heap[m]? = V.heap[m]?:=fun V o m e => Below.heap_alloc _ _ _ e
 have s1 : (w.alloc o0).heap.size = w.heap.size + 1:=by simp
 have s2 : ((w.alloc o0).alloc o1).heap.size = w.heap.size + 2:=by simp
 have s3 : (((w.alloc o0).alloc o1).alloc o2).heap.size = w.heap.size + 3:=by simp
 refine ⟨by simp,?_,?_,?_,a _ _ _ s3,?_⟩
 ·rw [b _ _ _ (by omega),b _ _ _ (by omega),b _ _ _ (by omega)];exact a _ _ _ rfl
 ·rw [b _ _ _ (by omega),b _ _ _ (by omega)];exact a _ _ _ s1
 ·rw [b _ _ _ (by omega)];exact a _ _ _ s2
 ·exact ((((Below.refl _ w).alloc (Nat.le_refl _) _).alloc (by omega) _).alloc (by omega) _).alloc (by omega) _
end Go.Proofs.YtgbdnbbfgcogjaaGreatDoor.Sq

namespace Go.Proofs.YtgbdnbbfgcogjaaGreatDoor.Pure
open Go.RowKit
theorem w64 {x : Int} (h : -9223372036854775808 ≤ x) (h' : x ≤ 9223372036854775807) : wrap64 x = x:=by
 unfold wrap64
 omega
/-- A loop that goes on at each place. -/
theorem true_loop {β : Type} (l0 : Nat → Int → Option β) (n K : Nat) (r : β) (hstep : ∀ k i : Nat,i < n → K ≤ k → l0 (k + 1) (i : Int) = l0 k ((i + 1 : Nat) : Int)) (hend : ∀ k : Nat,K ≤ k → l0 (k + 1) (n : Int) = some r) :
  ∀ k,n + K < k → l0 k 0 = some r:=by
 have key : ∀ (e k i : Nat),n - i = e → e + K < k → i ≤ n → l0 k (i : Int) = some r:=by
  intro e
  induction e with
  | zero =>
   intro k i he hk hi
   obtain ⟨k,rfl⟩ : ∃ m,k = m + 1:=⟨k - 1,by omega⟩
   obtain rfl : i = n:=by omega
   exact hend k (by omega)
  | succ e ih =>
   intro k i he hk hi
   obtain ⟨k,rfl⟩ : ∃ m,k = m + 1:=⟨k - 1,by omega⟩
   rw [hstep k i (by omega) (by omega)]
   exact ih k (i + 1) (by omega) (by omega) (by omega)
 intro k hk
 exact key n k 0 (by omega) (by omega) (by omega)
/-- A loop that leaves at the first place that isn't good. -/
theorem scan_loop {β : Type} (l0 : Nat → Int → Option β) (n K : Nat) (good : Nat → Bool) (bad fin : β)
  (hgood : ∀ k i : Nat,i < n → K ≤ k → (∀ j,j < i → good j = true) → good i = true → l0 (k + 1) (i : Int) = l0 k ((i + 1 : Nat) : Int))
  (hbad : ∀ k i : Nat,i < n → K ≤ k → (∀ j,j < i → good j = true) → good i = false → l0 (k + 1) (i : Int) = some bad)
  (hend : ∀ k : Nat,K ≤ k → l0 (k + 1) (n : Int) = some fin) :
  ∀ k,n + K < k → l0 k 0 = some (if (List.range n).all good then fin else bad):=by
 have key : ∀ (e k i : Nat),n - i = e → e + K < k → i ≤ n → (∀ j,j < i → good j = true) → l0 k (i : Int) = some (if (List.range n).all good then fin else bad):=by
  intro e
  induction e with
  | zero =>
   intro k i he hk hi hg
   obtain ⟨k,rfl⟩ : ∃ m,k = m + 1:=⟨k - 1,by omega⟩
   obtain rfl : i = n:=by omega
   rw [hend k (by omega),if_pos]
   rw [List.all_eq_true]
   exact fun x hx => hg x (List.mem_range.1 hx)
  | succ e ih =>
   intro k i he hk hi hg
   obtain ⟨k,rfl⟩ : ∃ m,k = m + 1:=⟨k - 1,by omega⟩
   cases hc : good i with
   | true =>
    rw [hgood k i (by omega) (by omega) hg hc]
    refine ih k (i + 1) (by omega) (by omega) (by omega) (fun j hj => ?_)
    by_cases h : j = i
    ·rw [h];exact hc
    ·exact hg j (by omega)
   | false =>
    rw [hbad k i (by omega) (by omega) hg hc,if_neg]
    rw [List.all_eq_true]
    intro h
    have:=h i (List.mem_range.2 (by omega))
    rw [hc] at this
    exact absurd this (by simp)
 intro k hk
 exact key n k 0 (by omega) (by omega) (by omega) (fun j hj => by omega)
end Go.Proofs.YtgbdnbbfgcogjaaGreatDoor.Pure

namespace Go.Proofs.YtgbdnbbfgcogjaaGreatDoor.Pure
open Go.RowKit Go.Proofs.YtgbdnbbfgcogjaaGreatDoor.Q Go.Proofs.YtgbdnbbfgcogjaaGreatDoorW.PrintWords Go.Proofs.YtgbdnbbfgcogjaaGreatDoorW.PrintLast Go.Proofs.YtgbdnbbfgcogjaaGreatDoorW.PrintMore
/-- How many addresses a block of b bits has. -/
def sz (b : Int) : Int:=2 ^ (32 - b).toNat
theorem sz_pos (b : Int) : 0 < sz b:=Int.pow_pos (by omega)
theorem sz_le {b : Int} (h : 0 ≤ b) : sz b ≤ 4294967296:=by
 have h1 : (32 - b).toNat ≤ 32:=by omega
 have h2 : (2 : Nat) ^ (32 - b).toNat ≤ 2 ^ 32:=Nat.pow_le_pow_right (by omega) h1
 have h3 : ((2 : Nat) ^ (32 - b).toNat : Nat) ≤ 4294967296:=by simpa using h2
 unfold sz
 have h4 : ((2 ^ (32 - b).toNat : Nat) : Int) = (2 : Int) ^ (32 - b).toNat:=by norm_cast
 omega
theorem in_spec (a lo hi : Int) : spec_l1In.f a lo hi = some (decide (lo ≤ a ∧ a ≤ hi)):=by
 unfold spec_l1In.f
 by_cases h : a ≥ lo
 ·rw [if_pos h];simp [show lo ≤ a from h]
 ·rw [if_neg h];simp [show ¬ lo ≤ a from h]
theorem in_impl (a lo hi : Int) : impl_in.f a lo hi = some (decide (lo ≤ a ∧ a ≤ hi)):=by
 unfold impl_in.f
 by_cases h : a ≥ lo
 ·rw [if_pos h];simp [show lo ≤ a from h]
 ·rw [if_neg h];simp [show ¬ lo ≤ a from h]
theorem addr_spec (a : Int) : spec_l1Addr.f a = some (decide (0 ≤ a ∧ a ≤ 4294967295)):=by
 unfold spec_l1Addr.f
 rw [in_spec]
 rfl
theorem addr_impl (a : Int) : impl_isAddr.f a = some (decide (0 ≤ a ∧ a ≤ 4294967295)):=by
 unfold impl_isAddr.f
 rw [in_impl]
 rfl
theorem two_ev : ∀ (m k : Nat) (x : Int),m < k → 0 ≤ x → x * 2 ^ m ≤ 9223372036854775807 → m ≤ 62 → spec_l1Two.l0 k m x = some (x * 2 ^ m):=by
 intro m
 induction m with
 | zero =>
  intro k x hk h0 h1 _
  obtain ⟨k,rfl⟩ : ∃ j,k = j + 1:=⟨k - 1,by omega⟩
  simp only [spec_l1Two.l0]
  rw [if_neg (by omega)]
  simp
 | succ m ih =>
  intro k x hk h0 h1 hm
  obtain ⟨k,rfl⟩ : ∃ j,k = j + 1:=⟨k - 1,by omega⟩
  simp only [spec_l1Two.l0]
  rw [if_pos (by omega)]
  have e : x * 2 ^ (m + 1) = x * 2 * 2 ^ m:=by rw [Int.pow_succ];rw [Int.mul_comm (2 ^ m) 2,Int.mul_assoc]
  have p : (1 : Int) ≤ 2 ^ m:=Int.pow_pos (by omega)
  have h2 : x * 2 ≤ x * 2 * 2 ^ m:=by
   have:=Int.mul_le_mul_of_nonneg_left p (show 0 ≤ x * 2 by omega)
   omega
  rw [w64 (by omega) (by omega),w64 (by omega) (by omega),show (((m + 1 : Nat) : Int) - 1) = (m : Int) by omega,ih k (x * 2) (by omega) (by omega) (by rw [← e];exact h1) (by omega),e]
theorem size_spec {b : Int} {k : Nat} (h0 : 0 ≤ b) (h1 : b ≤ 32) (hk : 40 ≤ k) : spec_l1Size.f k b = some (sz b):=by
 unfold spec_l1Size.f spec_l1Two.f
 rw [w64 (by omega) (by omega)]
 have e : (32 - b) = (((32 - b).toNat : Nat) : Int):=by omega
 have hs:=sz_le h0
 rw [e,two_ev _ k 1 (by omega) (by omega) (by unfold sz at hs;omega) (by omega)]
 simp [sz]
theorem size_impl {a b : Int} (h0 : 0 ≤ b) (h1 : b ≤ 32) : impl_Block_size.f a b = some (sz b):=by
 unfold impl_Block_size.f
 have hs:=sz_le h0
 have hp:=sz_pos b
 rw [w64 (by omega) (by omega),if_pos (by omega)]
 unfold shl
 rw [show min (32 - b).toNat IntKind.i64.bits = (32 - b).toNat from Nat.min_eq_left (by show (32 - b).toNat ≤ 64;omega)]
 congr 1
 rw [Int.one_mul]
 show IntKind.i64.wrap (sz b) = sz b
 rw [IntKind.wrap_i64]
 omega
/-- A block is valid. -/
def bok (a b : Int) : Bool:=decide (0 ≤ a ∧ a ≤ 4294967295 ∧ 0 ≤ b ∧ b ≤ 32 ∧ a % sz b = 0)
theorem bok_iff {a b : Int} : bok a b = true ↔ 0 ≤ a ∧ a ≤ 4294967295 ∧ 0 ≤ b ∧ b ≤ 32 ∧ a % sz b = 0:=by
 unfold bok
 rw [decide_eq_true_iff]
theorem tmod_of {a b : Int} (h : 0 ≤ a) : Int.tmod a (sz b) = a % sz b:=Int.tmod_eq_emod_of_nonneg h
theorem ok_spec {k : Nat} (a b : Int) (hk : 40 ≤ k) : spec_BlockOk.f k a b = some (bok a b):=by
 unfold spec_BlockOk.f
 rw [addr_spec,Option.bind_some]
 by_cases h : 0 ≤ a ∧ a ≤ 4294967295
 ·rw [if_pos (by simpa using h),in_spec,Option.bind_some]
  by_cases h2 : 0 ≤ b ∧ b ≤ 32
  ·rw [if_pos (by simpa using h2),size_spec h2.1 h2.2 hk,Option.bind_some,if_neg (by have:=sz_pos b;omega),tmod_of h.1]
   congr 1
   unfold bok
   rw [Bool.eq_iff_iff]
   simp [h,h2]
  ·rw [if_neg (by simpa using h2)]
   congr 1
   symm
   unfold bok
   rw [decide_eq_false_iff_not]
   omega
 ·rw [if_neg (by simpa using h)]
  congr 1
  symm
  unfold bok
  rw [decide_eq_false_iff_not]
  omega
theorem ok_impl (a b : Int) : impl_BlockOk.f a b = some (bok a b):=by
 unfold impl_BlockOk.f
 rw [addr_impl,Option.bind_some]
 by_cases h : 0 ≤ a ∧ a ≤ 4294967295
 ·rw [if_pos (by simpa using h),in_impl,Option.bind_some]
  by_cases h2 : 0 ≤ b ∧ b ≤ 32
  ·rw [if_pos (by simpa using h2),size_impl h2.1 h2.2,Option.bind_some,if_neg (by have:=sz_pos b;omega),tmod_of h.1]
   congr 1
   unfold bok
   rw [Bool.eq_iff_iff]
   simp [h,h2]
  ·rw [if_neg (by simpa using h2)]
   congr 1
   symm
   unfold bok
   rw [decide_eq_false_iff_not]
   omega
 ·rw [if_neg (by simpa using h)]
  congr 1
  symm
  unfold bok
  rw [decide_eq_false_iff_not]
  omega
end Go.Proofs.YtgbdnbbfgcogjaaGreatDoor.Pure

namespace Go.Proofs.YtgbdnbbfgcogjaaGreatDoor.Tx
set_option linter.unusedSimpArgs false
set_option linter.unusedVariables false
open Go.RowKit Go.Proofs.YtgbdnbbfgcogjaaGreatDoor.Q Go.Proofs.YtgbdnbbfgcogjaaGreatDoor.Pure Go.Proofs.YtgbdnbbfgcogjaaGreatDoorW.PrintWords Go.Proofs.YtgbdnbbfgcogjaaGreatDoorW.PrintLast Go.Proofs.YtgbdnbbfgcogjaaGreatDoorW.PrintMore
/-- A text of some bytes. -/
def bs (l : List UInt8) : ByteArray:=⟨l.toArray⟩
theorem h3z (l : List UInt8) : (bs l).size = l.length:=by simp [bs,ByteArray.size]
theorem h0z (a b : List UInt8) : bs a ++ bs b = bs (a ++ b):=by
 apply ByteArray.ext
 simp [bs]
/-- The figures of a number. -/
abbrev dec (n : Nat) : List UInt8:=Lib.decDigits n
theorem g5z {n : Nat} (h : n < 10) : dec n = [UInt8.ofNat (48 + n)]:=by
 unfold dec;rw [Lib.decDigits,dif_pos h]
theorem dec_big {n : Nat} (h : ¬ n < 10) : dec n = dec (n / 10) ++ [UInt8.ofNat (48 + n % 10)]:=by
 unfold dec;rw [Lib.decDigits,dif_neg h]
theorem h1z : ∀ (d n : Nat),n < 10 ^ (d + 1) → (dec n).length ≤ d + 1
 | 0,n,h => by rw [g5z (by simpa using h)];simp
 | d + 1,n,h => by
  by_cases hc : n < 10
  ·rw [g5z hc];simp
  ·rw [dec_big hc,List.length_append,List.length_singleton]
   have:=h1z d (n / 10) (by rw [Nat.pow_succ] at h;omega)
   omega
theorem dec_pos (n : Nat) : 1 ≤ (dec n).length:=by
 by_cases hc : n < 10
 ·rw [g5z hc];simp
 ·rw [dec_big hc,List.length_append,List.length_singleton];omega
theorem nums_one (n : Nat) (h : n < 256) : strOfNums [(n : Int)] = bs [UInt8.ofNat n]:=by
 apply ByteArray.ext
 simp [strOfNums,bs]
theorem l1Dec_ev : ∀ (d n : Nat),n < 10 ^ (d + 1) → d ≤ 17 → ∀ k,d < k → spec_l1Dec.f k (n : Int) = some (bs (dec n)):=by
 have p18 : (10 : Nat) ^ 18 = 1000000000000000000:=by decide
 intro d
 induction d with
 | zero =>
  intro n h _ k hk
  obtain ⟨k,rfl⟩ : ∃ j,k = j + 1:=⟨k - 1,by omega⟩
  have hn : n < 10:=by simpa using h
  simp only [spec_l1Dec.f]
  rw [if_neg (by omega),if_neg (by omega),if_pos (by omega),w64 (by omega) (by omega),show ((48 + (n : Int)) % 256) = ((48 + n : Nat) : Int) by omega,nums_one _ (by omega),g5z hn]
 | succ d ih =>
  intro n h hd k hk
  obtain ⟨k,rfl⟩ : ∃ j,k = j + 1:=⟨k - 1,by omega⟩
  have hle : 10 ^ (d + 1 + 1) ≤ (10 : Nat) ^ 18 + 10 ^ 18 * 9:=by
   have:=Nat.pow_le_pow_right (show 0 < 10 by decide) (show d + 1 + 1 ≤ 19 by omega)
   rw [show (10 : Nat) ^ 19 = 10 ^ 18 * 10 from Nat.pow_succ ..] at this
   omega
  have hb : n < 9223372036854775807 ∨ 9223372036854775807 ≤ n:=Nat.lt_or_ge _ _
  by_cases hs : n < 10
  ·simp only [spec_l1Dec.f]
   rw [if_neg (by omega),if_neg (by omega),if_pos (by omega),w64 (by omega) (by omega),show ((48 + (n : Int)) % 256) = ((48 + n : Nat) : Int) by omega,nums_one _ (by omega),g5z hs]
  ·have hdiv : n / 10 < 10 ^ (d + 1):=by rw [Nat.pow_succ] at h;omega
   have e:=ih (n / 10) hdiv (by omega) k (by omega)
   have hlen:=h1z d (n / 10) hdiv
   have hlt : n < 1000000000000000000:=by
    have:=Nat.pow_le_pow_right (show 0 < 10 by decide) (show d + 1 + 1 ≤ 18 by omega)
    omega
   simp only [spec_l1Dec.f]
   rw [if_neg (by omega),if_neg (by omega),if_neg (by omega),Int.tdiv_eq_ediv_of_nonneg (by omega),Int.tmod_eq_emod_of_nonneg (by omega),w64 (x:=(n : Int) / 10) (by omega) (by omega),show ((n : Int) / 10) = ((n / 10 : Nat) : Int) by omega,e,Option.bind_some,Option.bind_some,w64 (by omega) (by omega),show ((48 + (n : Int) % 10) % 256) = ((48 + n % 10 : Nat) : Int) by omega,nums_one _ (by omega),h3z,h3z,if_pos (by simp;omega),h0z,← dec_big hs]
theorem l1Dec_3 {n : Nat} (h : n < 1000) {k : Nat} (hk : 3 ≤ k) : spec_l1Dec.f k (n : Int) = some (bs (dec n)):=l1Dec_ev 2 n (by simpa using h) (by omega) k (by omega)
/-- An address in four numbers. -/
def addrT (a : Nat) : List UInt8:=dec (a / 16777216) ++ [46] ++ dec (a / 65536 % 256) ++ [46] ++ dec (a / 256 % 256) ++ [46] ++ dec (a % 256)
theorem h9z {n : Nat} (h : n < 256) : (dec n).length ≤ 3:=h1z 2 n (by simp;omega)
theorem addrT_len {a : Nat} (h : a < 4294967296) : (addrT a).length ≤ 15:=by
 have h1:=h9z (show a / 16777216 < 256 by omega)
 have h2:=h9z (show a / 65536 % 256 < 256 by omega)
 have h3:=h9z (show a / 256 % 256 < 256 by omega)
 have h4:=h9z (show a % 256 < 256 by omega)
 simp only [addrT,List.length_append,List.length_singleton]
 omega
theorem dot_eq : (⟨#[46]⟩ : ByteArray) = bs [46]:=rfl
theorem l1Text_ev {a : Nat} (h : a < 4294967296) {k : Nat} (hk : 3 ≤ k) : spec_l1Text.f k (a : Int) = some (bs (addrT a)):=by
 have h1:=h9z (show a / 16777216 < 256 by omega)
 have h2:=h9z (show a / 65536 % 256 < 256 by omega)
 have h3:=h9z (show a / 256 % 256 < 256 by omega)
 have h4:=h9z (show a % 256 < 256 by omega)
 unfold spec_l1Text.f
 rw [Int.tdiv_eq_ediv_of_nonneg (by omega),Int.tdiv_eq_ediv_of_nonneg (by omega),Int.tdiv_eq_ediv_of_nonneg (by omega),w64 (x:=(a : Int) / 16777216) (by omega) (by omega),w64 (x:=(a : Int) / 65536) (by omega) (by omega),w64 (x:=(a : Int) / 256) (by omega) (by omega),Int.tmod_eq_emod_of_nonneg (by omega),Int.tmod_eq_emod_of_nonneg (by omega),Int.tmod_eq_emod_of_nonneg (by omega)]
 rw [show ((a : Int) / 16777216) = ((a / 16777216 : Nat) : Int) by omega,show ((a : Int) / 65536 % 256) = ((a / 65536 % 256 : Nat) : Int) by omega,show ((a : Int) / 256 % 256) = ((a / 256 % 256 : Nat) : Int) by omega,show ((a : Int) % 256) = ((a % 256 : Nat) : Int) by omega]
 rw [l1Dec_3 (by omega) hk,l1Dec_3 (n:=a / 65536 % 256) (by omega) hk,l1Dec_3 (n:=a / 256 % 256) (by omega) hk,l1Dec_3 (n:=a % 256) (by omega) hk]
 simp only [Option.bind_some,dot_eq,h0z,h3z,List.length_append,List.length_singleton]
 rw [if_pos (by omega),if_pos (by omega),if_pos (by omega),if_pos (by omega),if_pos (by omega),if_pos (by omega)]
 rfl
theorem and255 {a : Nat} (h : a < 4611686018427387904) : Go.bits .and .i64 (a : Int) 255 = ((a % 256 : Nat) : Int):=by
 simp only [Go.bits,BitVec.ofInt_natCast,BitVec.toNat_and,BitVec.toNat_ofNat]
 rw [show (BitVec.ofInt IntKind.i64.bits 255).toNat = 255 by decide,Nat.mod_eq_of_lt (show a < 2 ^ IntKind.i64.bits by show a < 2 ^ 64;omega)]
 rw [show a &&& 255 = a % 256 from Nat.and_two_pow_sub_one_eq_mod a 8,IntKind.wrap_i64]
 omega
theorem itoa_ev {n : Nat} (h : n < 256) : strconv_Itoa.f (n : Int) = some (bs (dec n)):=by
 unfold strconv_Itoa.f
 rw [if_pos (by omega)]
 unfold Lib.itoa
 rw [if_neg (by omega),Int.toNat_natCast]
 rfl
theorem byte_at (a : Nat) (h : a < 4294967296) (c m : Nat) (hm : 2 ^ c = m) (hc : c ≤ 24) : Go.bits .and .i64 (shr .i64 (a : Int) (c : Int)) 255 = ((a / m % 256 : Nat) : Int):=by
 have hp : 0 < m:=by rw [← hm];exact Nat.pow_pos (by decide)
 have e : shr .i64 (a : Int) (c : Int) = ((a / m : Nat) : Int):=by
  unfold shr
  rw [Int.toNat_natCast,show min c IntKind.i64.bits = c from Nat.min_eq_left (by show c ≤ 64;omega)]
  rw [← hm]
  push_cast
  rfl
 rw [e,and255]
 exact Nat.lt_of_le_of_lt (Nat.div_le_self _ _) (by omega)
theorem join_four (x y z t : List UInt8) (h : (x ++ [46] ++ y ++ [46] ++ z ++ [46] ++ t).length ≤ 100) : strings_Join.f [bs x,bs y,bs z,bs t] ⟨#[46]⟩ = some (bs (x ++ [46] ++ y ++ [46] ++ z ++ [46] ++ t)):=by
 have e : Lib.join ([bs x,bs y,bs z,bs t].map (·.data.toList)) (ByteArray.mk #[46]).data.toList = x ++ [46] ++ y ++ [46] ++ z ++ [46] ++ t:=by
  simp [Lib.join,List.intercalate,bs]
 unfold strings_Join.f
 rw [e,if_pos ⟨by simp,by omega⟩]
 rfl
theorem addrText_in {a : Nat} (h : a < 4294967296) {k : Nat} (hk : 10 ≤ k) : impl_AddrText.f k (a : Int) = some (bs (addrT a)):=by
 obtain ⟨k,rfl⟩ : ∃ j,k = j + 5:=⟨k - 5,by omega⟩
 have hl:=addrT_len h
 unfold impl_AddrText.f
 rw [addr_impl,Option.bind_some,if_pos (decide_eq_true (by omega))]
 have b3:=byte_at a h 24 16777216 (by decide) (by decide)
 have b2:=byte_at a h 16 65536 (by decide) (by decide)
 have b1:=byte_at a h 8 256 (by decide) (by decide)
 have b0:=byte_at a h 0 1 (by decide) (by decide)
 have i3:=itoa_ev (n:=a / 16777216 % 256) (by omega)
 have i2:=itoa_ev (n:=a / 65536 % 256) (by omega)
 have i1:=itoa_ev (n:=a / 256 % 256) (by omega)
 have i0:=itoa_ev (n:=a / 1 % 256) (by omega)
 rw [← b3] at i3
 rw [← b2] at i2
 rw [← b1] at i1
 rw [← b0] at i0
 have w3 : wrap64 (24 - 8) = 16:=by rw [w64 (by omega) (by omega)];rfl
 have w2 : wrap64 (16 - 8) = 8:=by rw [w64 (by omega) (by omega)];rfl
 have w1 : wrap64 (8 - 8) = 0:=by rw [w64 (by omega) (by omega)];rfl
 have w0 : wrap64 (0 - 8) = -8:=by rw [w64 (by omega) (by omega)];rfl
 have s3 : impl_AddrText.l0 (k + 4 + 1) (a : Int) [] 24 = impl_AddrText.l0 (k + 4) (a : Int) [bs (dec (a / 16777216 % 256))] 16:=by
  rw [impl_AddrText.l0,if_pos (by decide),if_pos (by decide)]
  refine Eq.trans (congrArg (fun x => Option.bind x _) i3) ?_
  rw [Option.bind_some,if_pos (by simp),w3]
  rfl
 have s2 : ∀ x,impl_AddrText.l0 (k + 3 + 1) (a : Int) [x] 16 = impl_AddrText.l0 (k + 3) (a : Int) [x,bs (dec (a / 65536 % 256))] 8:=by
  intro x
  rw [impl_AddrText.l0,if_pos (by decide),if_pos (by decide)]
  refine Eq.trans (congrArg (fun x => Option.bind x _) i2) ?_
  rw [Option.bind_some,if_pos (by simp),w2]
  rfl
 have s1 : ∀ x y,impl_AddrText.l0 (k + 2 + 1) (a : Int) [x,y] 8 = impl_AddrText.l0 (k + 2) (a : Int) [x,y,bs (dec (a / 256 % 256))] 0:=by
  intro x y
  rw [impl_AddrText.l0,if_pos (by decide),if_pos (by decide)]
  refine Eq.trans (congrArg (fun x => Option.bind x _) i1) ?_
  rw [Option.bind_some,if_pos (by simp),w1]
  rfl
 have s0 : ∀ x y z,impl_AddrText.l0 (k + 1 + 1) (a : Int) [x,y,z] 0 = impl_AddrText.l0 (k + 1) (a : Int) [x,y,z,bs (dec (a / 1 % 256))] (-8):=by
  intro x y z
  rw [impl_AddrText.l0,if_pos (by decide),if_pos (by decide)]
  refine Eq.trans (congrArg (fun x => Option.bind x _) i0) ?_
  rw [Option.bind_some,if_pos (by simp),w0]
  rfl
 show impl_AddrText.l0 (k + 4 + 1) (a : Int) [] 24 = _
 rw [s3,s2,s1,s0,impl_AddrText.l0,if_neg (by decide)]
 have ha : addrT a = dec (a / 16777216 % 256) ++ [46] ++ dec (a / 65536 % 256) ++ [46] ++ dec (a / 256 % 256) ++ [46] ++ dec (a / 1 % 256):=by
  unfold addrT
  rw [Nat.mod_eq_of_lt (show a / 16777216 < 256 by omega),Nat.div_one]
 rw [ha] at hl ⊢
 rw [join_four _ _ _ _ (by omega),Option.bind_some]
theorem addrText_impl (a : Int) {k : Nat} (hk : 10 ≤ k) : impl_AddrText.f k a = some (if 0 ≤ a ∧ a ≤ 4294967295 then bs (addrT a.toNat) else bs []):=by
 by_cases h : 0 ≤ a ∧ a ≤ 4294967295
 ·rw [if_pos h]
  have e:=addrText_in (a:=a.toNat) (by omega) hk
  rwa [show ((a.toNat : Nat) : Int) = a by omega] at e
 ·unfold impl_AddrText.f
  rw [addr_impl,Option.bind_some,if_neg (by simpa using h),if_neg h]
  rfl
/-- A block as a text. -/
def blockT (a b : Nat) : List UInt8:=addrT a ++ [47] ++ dec b
theorem l1Block_ev {a b : Nat} (h : a < 4294967296) (hb : b < 1000) {k : Nat} (hk : 3 ≤ k) : spec_l1Block.f k (a : Int) (b : Int) = some (bs (blockT a b)):=by
 have h1:=addrT_len h
 have h2:=h1z 2 b (by simpa using hb)
 unfold spec_l1Block.f
 rw [l1Text_ev h hk,Option.bind_some,l1Dec_3 hb hk,Option.bind_some,show (⟨#[47]⟩ : ByteArray) = bs [47] from rfl]
 simp only [h0z,h3z,List.length_append,List.length_singleton]
 rw [if_pos (by omega),if_pos (by omega)]
 rfl
/-- A block's text, where it is valid. -/
def blockText (a b : Int) : ByteArray:=if bok a b = true then bs (blockT a.toNat b.toNat) else bs []
theorem blockText_impl (a b : Int) {k : Nat} (hk : 40 ≤ k) : impl_BlockText.f k a b = some (blockText a b):=by
 unfold impl_BlockText.f blockText
 rw [ok_impl a b,Option.bind_some]
 by_cases h : bok a b = true
 ·obtain ⟨h0,h1,h2,h3,_⟩:=bok_iff.1 h
  have e:=addrText_in (a:=a.toNat) (by omega) (show 10 ≤ k by omega)
  have i:=itoa_ev (n:=b.toNat) (by omega)
  rw [show ((a.toNat : Nat) : Int) = a by omega] at e
  rw [show ((b.toNat : Nat) : Int) = b by omega] at i
  have l1:=addrT_len (a:=a.toNat) (by omega)
  have l2:=h9z (n:=b.toNat) (by omega)
  rw [if_pos h,if_pos h,e,Option.bind_some,i,Option.bind_some,show (⟨#[47]⟩ : ByteArray) = bs [47] from rfl]
  simp only [h0z,h3z,List.length_append,List.length_singleton]
  rw [if_pos (by omega),if_pos (by omega)]
  rfl
 ·rw [if_neg h,if_neg h]
  rfl
end Go.Proofs.YtgbdnbbfgcogjaaGreatDoor.Tx

namespace Go.Proofs.YtgbdnbbfgcogjaaGreatDoor.Tx
set_option linter.unusedSimpArgs false
set_option linter.unusedVariables false
open Go.RowKit Go.Proofs.YtgbdnbbfgcogjaaGreatDoor.Q Go.Proofs.YtgbdnbbfgcogjaaGreatDoor.Pure Go.Proofs.YtgbdnbbfgcogjaaGreatDoorW.PrintWords Go.Proofs.YtgbdnbbfgcogjaaGreatDoorW.PrintLast Go.Proofs.YtgbdnbbfgcogjaaGreatDoorW.PrintMore
open Go.Proofs.YtgbdnbbfgcogjaaGreatDoor.Sq (tx parts e9z f9z e4z f4z e6z stepA foldA addrGetF)
theorem fig_nat {d : Nat} (h : d < 10) : (UInt8.ofNat (48 + d)).toNat = 48 + d:=by
 rw [UInt8.toNat_ofNat',Nat.mod_eq_of_lt (by omega)]
theorem dec_figs : ∀ n : Nat,∀ b ∈ dec n,48 ≤ b.toNat ∧ b.toNat ≤ 57:=by
 intro n
 induction n using Nat.strongRecOn with
 | _ n ih =>
  intro b hb
  by_cases h : n < 10
  ·rw [g5z h,List.mem_singleton] at hb
   rw [hb,fig_nat h]
   omega
  ·rw [dec_big h] at hb
   rcases List.mem_append.1 hb with hb|hb
   ·exact ih (n / 10) (by omega) b hb
   ·rw [List.mem_singleton] at hb
    rw [hb,fig_nat (by omega)]
    omega
theorem dec_no {c : UInt8} (hc : c.toNat < 48) (n : Nat) : c ∉ dec n:=fun h => by
 have:=(dec_figs n c h).1
 omega
theorem parse_snoc : ∀ (x : List UInt8) (acc u d : Nat),d < 10 → Lib.parseUint10 acc x = .ok u → u < 100000000000000000 → Lib.parseUint10 acc (x ++ [UInt8.ofNat (48 + d)]) = .ok (u * 10 + d)
 | [],acc,u,d,hd,h,hu => by
  have e : acc = u:=by simp only [Lib.parseUint10] at h;injection h
  subst e
  have hf:=fig_nat hd
  simp only [List.nil_append,Lib.parseUint10]
  rw [hf,if_pos (by omega),if_neg (by omega),if_neg (by omega)]
  congr 1
  omega
 | c :: r,acc,u,d,hd,h,hu => by
  rw [List.cons_append]
  simp only [Lib.parseUint10] at h ⊢
  split at h
  ·rename_i h1
   rw [if_pos h1]
   split at h
   ·cases h
   ·rename_i h2
    rw [if_neg h2]
    split at h
    ·cases h
    ·rename_i h3
     rw [if_neg h3]
     exact parse_snoc r _ u d hd h hu
  ·cases h
theorem parse_dec : ∀ n : Nat,n < 1000000000000000000 → Lib.parseUint10 0 (dec n) = .ok n:=by
 intro n
 induction n using Nat.strongRecOn with
 | _ n ih =>
  intro hn
  by_cases h : n < 10
  ·have:=parse_snoc [] 0 0 n h rfl (by omega)
   rw [g5z h]
   rwa [List.nil_append,Nat.zero_mul,Nat.zero_add] at this
  ·have:=parse_snoc (dec (n / 10)) 0 (n / 10) (n % 10) (by omega) (ih (n / 10) (by omega) (by omega)) (by omega)
   rw [dec_big h,this]
   congr 1
   omega
theorem atoi_dec {n : Nat} (hn : n < 1000000000000000000) : Lib.atoiAll (dec n) = .ok (n : Int):=by
 have hp:=parse_dec n hn
 have hl:=dec_pos n
 have hf:=dec_figs n
 cases hd : dec n with
 | nil => rw [hd] at hl;simp at hl
 | cons c r =>
  rw [hd] at hp hf
  have hc:=hf c List.mem_cons_self
  simp only [Lib.atoiAll]
  rw [if_neg (by omega)]
  unfold Lib.parseMag
  rw [if_neg (by simp),hp]
  simp only
  rw [if_neg (by omega),if_neg (by omega),if_neg (by omega)]
/-- The figures' number. -/
def digv (b : UInt8) : Nat:=b.toNat - 48
def isd (b : UInt8) : Bool:=decide (48 ≤ b.toNat ∧ b.toNat ≤ 57)
def valF : Nat → List UInt8 → Nat
 | acc,[] => acc
 | acc,b :: r => valF (acc * 10 + digv b) r
theorem val_snoc (d : UInt8) : ∀ (y : List UInt8) (acc : Nat),valF acc (y ++ [d]) = valF acc y * 10 + digv d
 | [],acc => rfl
 | b :: y,acc => val_snoc d y _
theorem val_ge : ∀ (y : List UInt8) (acc : Nat),acc ≤ valF acc y
 | [],acc => Nat.le_refl _
 | b :: y,acc => by
  have:=val_ge y (acc * 10 + digv b)
  show acc ≤ valF (acc * 10 + digv b) y
  omega
theorem fig_back {b : UInt8} (h : isd b = true) : UInt8.ofNat (48 + digv b) = b ∧ digv b < 10:=by
 have h':=of_decide_eq_true h
 unfold digv
 refine ⟨?_,by omega⟩
 apply UInt8.toNat_inj.1
 rw [UInt8.toNat_ofNat',Nat.mod_eq_of_lt (by have:=b.toNat_lt;omega)]
 omega
theorem back : ∀ (m : Nat) (x : List UInt8),x.length = m + 1 → x.all isd = true → (1 < x.length → x.head? ≠ some 48) → dec (valF 0 x) = x
 | 0,x,hl,ha,_ => by
  obtain ⟨d,rfl⟩:=List.length_eq_one_iff.1 hl
  have hd : isd d = true:=by simpa using ha
  obtain ⟨h1,h2⟩:=fig_back hd
  show dec (0 * 10 + digv d) = [d]
  rw [Nat.zero_mul,Nat.zero_add,g5z h2,h1]
 | m + 1,x,hl,ha,hh => by
  have hne : x ≠ []:=fun e => by rw [e] at hl;simp at hl
  have hx:=List.dropLast_concat_getLast hne
  generalize hy : x.dropLast = y at hx
  generalize hz : x.getLast hne = d at hx
  subst hx
  have hyl : y.length = m + 1:=by rw [List.length_append,List.length_singleton] at hl;omega
  rw [List.all_append,Bool.and_eq_true] at ha
  have hd : isd d = true:=by simpa using ha.2
  obtain ⟨h1,h2⟩:=fig_back hd
  cases hyc : y with
  | nil => rw [hyc] at hyl;simp at hyl
  | cons c r =>
   have hc : c ≠ 48:=fun e => by
    refine hh (by rw [hl];omega) ?_
    rw [hyc,e]
    rfl
   have hcd : isd c = true:=by
    have:=ha.1
    rw [hyc,List.all_cons,Bool.and_eq_true] at this
    exact this.1
   have hb:=back m y hyl ha.1 (fun _ => by rw [hyc];intro e;exact hc (Option.some.inj e))
   rw [← hyc]
   have hv : 1 ≤ valF 0 y:=by
    rw [hyc]
    have:=val_ge r (0 * 10 + digv c)
    have hcn:=of_decide_eq_true hcd
    have : 49 ≤ c.toNat:=by
     rcases Nat.lt_or_ge c.toNat 49 with h|h
     ·exact absurd (UInt8.toNat_inj.1 (show c.toNat = (48 : UInt8).toNat by show c.toNat = 48;omega)) hc
     ·exact h
    show 1 ≤ valF (0 * 10 + digv c) r
    unfold digv at *
    omega
   rw [val_snoc,dec_big (by omega),show (valF 0 y * 10 + digv d) / 10 = valF 0 y by omega,show (valF 0 y * 10 + digv d) % 10 = digv d by omega,hb,h1]
theorem val_dec : ∀ n : Nat,valF 0 (dec n) = n:=by
 intro n
 induction n using Nat.strongRecOn with
 | _ n ih =>
  by_cases h : n < 10
  ·rw [g5z h]
   show 0 * 10 + digv _ = n
   unfold digv
   rw [fig_nat h]
   omega
  ·rw [dec_big h,val_snoc,ih (n / 10) (by omega)]
   unfold digv
   rw [fig_nat (by omega)]
   omega
theorem dec_head : ∀ n : Nat,1 ≤ n → (dec n).head? ≠ some 48:=by
 intro n
 induction n using Nat.strongRecOn with
 | _ n ih =>
  intro hn
  by_cases h : n < 10
  ·rw [g5z h]
   intro e
   have:=congrArg UInt8.toNat (Option.some.inj e)
   rw [fig_nat h] at this
   change 48 + n = 48 at this
   omega
  ·have h1:=ih (n / 10) (by omega) (by omega)
   rw [dec_big h]
   cases hd : dec (n / 10) with
   | nil => have:=dec_pos (n / 10);rw [hd] at this;simp at this
   | cons c r => rw [hd] at h1;exact h1
/-- What the reference makes of a text that should be a number. -/
def numE (x : List UInt8) : Int:=if x.length = 0 ∨ 9 < x.length ∨ (1 < x.length ∧ x.head? = some 48) then -1 else if x.all isd = true then (valF 0 x : Int) else -1
theorem num_back {x : List UInt8} {n : Nat} (h : numE x = n) : x = dec n:=by
 unfold numE at h
 split at h
 ·omega
 ·rename_i hc
  split at h
  ·rename_i ha
   have e : valF 0 x = n:=by omega
   obtain ⟨m,hm⟩ : ∃ m,x.length = m + 1:=⟨x.length - 1,by omega⟩
   have:=back m x hm ha (fun h1 h2 => hc (.inr (.inr ⟨h1,h2⟩)))
   rw [← this,e]
  ·omega
theorem num_dec {n : Nat} (hn : n < 1000000000) : numE (dec n) = n:=by
 have h1:=dec_pos n
 have h2:=h1z 8 n (by simpa using hn)
 unfold numE
 rw [if_neg,if_pos,val_dec]
 ·rw [List.all_eq_true]
  exact fun b hb => decide_eq_true (dec_figs n b hb)
 ·rintro (h|h|⟨h,h'⟩)
  ·omega
  ·omega
  ·by_cases hs : n < 10
   ·rw [g5z hs] at h;simp at h
   ·exact dec_head n (by omega) h'
theorem bt_tx (l : List UInt8) (i : Nat) : bt (tx l) (i : Int) = ((l.getD i 0).toNat : Int):=by
 rw [← rd_bytesOf]
 show (bytesOf (tx l)).getD i 0 = _
 unfold bytesOf
 rw [List.getD_eq_getElem?_getD,List.getElem?_map,List.getD_eq_getElem?_getD,f4z]
 cases l[i]? with
 | none => rfl
 | some b => rfl
theorem bt_mid (p : List UInt8) (b : UInt8) (r : List UInt8) : bt (tx (p ++ b :: r)) ((p.length : Nat) : Int) = (b.toNat : Int):=by
 rw [bt_tx,List.getD_eq_getElem?_getD,List.getElem?_append_right (Nat.le_refl _),Nat.sub_self]
 rfl
theorem num_loop : ∀ (r p : List UInt8) (acc : Nat),p.length + r.length ≤ 9 → acc < 10 ^ p.length → ∀ k,r.length < k → spec_l1Num.l0 k (tx (p ++ r)) (acc : Int) (p.length : Int) = some (if r.all isd = true then (valF acc r : Int) else -1):=by
 intro r
 induction r with
 | nil =>
  intro p acc hl ha k hk
  obtain ⟨k,rfl⟩ : ∃ j,k = j + 1:=⟨k - 1,by omega⟩
  simp only [spec_l1Num.l0]
  rw [List.append_nil,e4z,if_neg (by omega)]
  rfl
 | cons b r ih =>
  intro p acc hl ha k hk
  rw [List.length_cons] at hl hk
  obtain ⟨k,rfl⟩ : ∃ j,k = j + 1:=⟨k - 1,by omega⟩
  have hm : acc < 1000000000:=by
   have:=Nat.pow_le_pow_right (show 0 < 10 by decide) (show p.length ≤ 9 by omega)
   have e : (10 : Nat) ^ 9 = 1000000000:=by decide
   omega
  have hb:=b.toNat_lt
  simp only [spec_l1Num.l0]
  rw [e4z,List.length_append,List.length_cons,if_pos (by omega),if_pos (by omega),bt_mid]
  by_cases h1 : b.toNat < 48
  ·rw [if_pos (by omega),if_neg]
   rw [List.all_cons,Bool.and_eq_true]
   exact fun h => by have:=of_decide_eq_true h.1;omega
  ·by_cases h2 : 57 < b.toNat
   ·rw [if_neg (by omega),if_pos (by omega),if_neg]
    rw [List.all_cons,Bool.and_eq_true]
    exact fun h => by have:=of_decide_eq_true h.1;omega
   ·have hd : isd b = true:=decide_eq_true (by omega)
    rw [if_neg (by omega),if_neg (by omega),w64 (x:=(acc : Int) * 10) (by omega) (by omega),w64 (x:=(p.length : Int) + 1) (by omega) (by omega),w64 (by omega) (by omega),show (acc : Int) * 10 + ((b.toNat : Int) - 48) % 256 = ((acc * 10 + digv b : Nat) : Int) by unfold digv;omega]
    have h:=ih (p ++ [b]) (acc * 10 + digv b) (by rw [List.length_append,List.length_singleton];omega) (by rw [List.length_append,List.length_singleton,Nat.pow_succ];unfold digv;omega) k (by omega)
    rw [List.append_assoc,List.singleton_append,List.length_append,List.length_singleton] at h
    rw [show (p.length : Int) + 1 = ((p.length + 1 : Nat) : Int) by omega,h,List.all_cons,hd,Bool.true_and]
    rfl
theorem num_ev (x : List UInt8) {k : Nat} (hk : 20 ≤ k) : spec_l1Num.f k (tx x) = some (numE x):=by
 obtain ⟨k,rfl⟩ : ∃ j,k = j + 1:=⟨k - 1,by omega⟩
 unfold spec_l1Num.f numE
 simp only [spec_l1Num.j0]
 rw [e4z]
 by_cases h0 : x.length = 0
 ·rw [if_pos (by omega),if_pos trivial,if_pos (.inl h0)]
 ·rw [if_neg (by omega)]
  by_cases h1 : 9 < x.length
  ·rw [if_pos (by omega),if_pos trivial,if_pos (.inr (.inl h1))]
  ·rw [if_neg (by omega)]
   have hl:=num_loop x [] 0 (by simp;omega) (by decide) k (by omega)
   rw [List.nil_append] at hl
   have hl' : spec_l1Num.l0 k (tx x) 0 0 = some (if x.all isd = true then (valF 0 x : Int) else -1):=hl
   cases x with
   | nil => simp at h0
   | cons c r =>
    have hb : bt (tx (c :: r)) 0 = (c.toNat : Int):=bt_mid [] c r
    by_cases h2 : 1 < (c :: r).length
    ·rw [if_pos (by omega),if_pos (by omega),hb]
     by_cases h3 : c = 48
     ·rw [if_pos (by rw [h3];rfl),if_pos (.inr (.inr ⟨h2,by rw [h3];rfl⟩))]
     ·have hc : ((c.toNat : Int) == 48) = false:=by
       rw [beq_eq_false_iff_ne]
       intro e
       exact h3 (UInt8.toNat_inj.1 (show c.toNat = (48 : UInt8).toNat by show c.toNat = 48;omega))
      have hcd : ¬ ((c :: r).length = 0 ∨ 9 < (c :: r).length ∨ (1 < (c :: r).length ∧ (c :: r).head? = some 48)):=by
       rintro (h|h|⟨_,h⟩)
       ·exact h0 h
       ·exact h1 h
       ·exact h3 (Option.some.inj h)
      rw [hc,if_neg (by simp),hl',if_neg hcd]
    ·have hcd : ¬ ((c :: r).length = 0 ∨ 9 < (c :: r).length ∨ (1 < (c :: r).length ∧ (c :: r).head? = some 48)):=by
      rintro (h|h|⟨h,_⟩)
      ·exact h0 h
      ·exact h1 h
      ·exact h2 h
     rw [if_neg (by omega),if_neg (by simp),hl',if_neg hcd]
theorem cut_loop (c : UInt8) : ∀ (r a cur : List UInt8) (acc : List ByteArray),c ∉ cur → a.length + cur.length + r.length ≤ 1000000000 → acc.length + r.length ≤ 1000000000 → ∀ k,r.length < k →
  spec_l1Cut.l0 k (tx (a ++ cur ++ r)) (c.toNat : Int) acc (a.length : Int) ((a.length + cur.length : Nat) : Int) = some (acc ++ (parts c (cur ++ r)).map tx):=by
 intro r
 induction r with
 | nil =>
  intro a cur acc hc hl ha k hk
  rw [List.length_nil] at hl ha
  obtain ⟨k,rfl⟩ : ∃ j,k = j + 1:=⟨k - 1,by omega⟩
  simp only [spec_l1Cut.l0]
  rw [List.append_nil,List.append_nil,e4z,List.length_append,if_neg (by omega),if_pos (by omega),if_pos (by omega),if_pos (by omega),f9z hc,Int.toNat_natCast,e6z,List.take_of_length_le (by rw [List.length_append];exact Nat.le_refl _),List.drop_left]
  rfl
 | cons b r ih =>
  intro a cur acc hc hl ha k hk
  rw [List.length_cons] at hl ha hk
  obtain ⟨k,rfl⟩ : ∃ j,k = j + 1:=⟨k - 1,by omega⟩
  have hbt : bt (tx (a ++ cur ++ b :: r)) ((a.length + cur.length : Nat) : Int) = (b.toNat : Int):=by
   have:=bt_mid (a ++ cur) b r
   rwa [List.length_append] at this
  simp only [spec_l1Cut.l0]
  rw [e4z,hbt,List.length_append,List.length_append,List.length_cons,if_pos (by omega),if_pos (by omega),w64 (by omega) (by omega)]
  by_cases h : b = c
  ·subst h
   rw [if_pos rfl,if_pos (by omega),if_pos (by omega),if_pos (by omega),if_pos (by omega),Int.toNat_natCast,Int.toNat_natCast,e6z]
   have e : ((a ++ cur ++ b :: r).take (a.length + cur.length)).drop a.length = cur:=by
    rw [List.take_left' (List.length_append ..),List.drop_left]
   have hi:=ih (a ++ cur ++ [b]) [] (acc ++ [tx cur]) (by simp) (by simp;omega) (by simp;omega) k (by omega)
   rw [e,e9z r hc]
   rw [List.append_nil,List.append_assoc (a ++ cur),List.singleton_append,List.length_nil,Nat.add_zero,List.length_append,List.length_append,List.length_singleton,List.nil_append,List.append_assoc acc] at hi
   rw [show ((a.length + cur.length : Nat) : Int) + 1 = ((a.length + cur.length + 1 : Nat) : Int) by omega]
   exact hi
  ·have hne : ¬ (b.toNat : Int) = (c.toNat : Int):=fun e => h (UInt8.toNat_inj.1 (by omega))
   have hi:=ih a (cur ++ [b]) acc (fun hm => by
    rcases List.mem_append.1 hm with hm|hm
    ·exact hc hm
    ·exact h (List.mem_singleton.1 hm).symm) (by simp;omega) (by omega) k (by omega)
   rw [if_neg hne]
   rw [← List.append_assoc a,List.append_assoc (a ++ cur),List.append_assoc cur,List.singleton_append,List.length_append,List.length_singleton] at hi
   rw [show ((a.length + cur.length : Nat) : Int) + 1 = ((a.length + (cur.length + 1) : Nat) : Int) by omega]
   exact hi
theorem cut_ev (c : UInt8) (l : List UInt8) (hl : l.length ≤ 1000000000) {k : Nat} (hk : l.length < k) : spec_l1Cut.f k (tx l) (c.toNat : Int) = some ((parts c l).map tx):=by
 unfold spec_l1Cut.f
 have h:=cut_loop c l [] [] [] (by simp) (by simpa using hl) (by simpa using hl) k hk
 exact h
end Go.Proofs.YtgbdnbbfgcogjaaGreatDoor.Tx

namespace Go.Proofs.YtgbdnbbfgcogjaaGreatDoor.Tx
set_option linter.unusedSimpArgs false
set_option linter.unusedVariables false
open Go.RowKit Go.Proofs.YtgbdnbbfgcogjaaGreatDoor.Q Go.Proofs.YtgbdnbbfgcogjaaGreatDoor.Pure Go.Proofs.YtgbdnbbfgcogjaaGreatDoorW.PrintWords Go.Proofs.YtgbdnbbfgcogjaaGreatDoorW.PrintLast Go.Proofs.YtgbdnbbfgcogjaaGreatDoorW.PrintMore
open Go.Proofs.YtgbdnbbfgcogjaaGreatDoor.Sq (tx parts e9z f9z parts_len e4z f4z e6z stepA foldA addrGetF)
def glue (c : UInt8) : List (List UInt8) → List UInt8
 | [] => []
 | [p] => p
 | p :: q :: r => p ++ c :: glue c (q :: r)
theorem glue_parts (c : UInt8) : ∀ l : List UInt8,glue c (parts c l) = l
 | [] => rfl
 | b :: r => by
  have ih:=glue_parts c r
  have hn:=(parts_len c r).1
  cases hp : parts c r with
  | nil => rw [hp] at hn;simp at hn
  | cons p ps =>
   rw [hp] at ih
   by_cases h : b = c
   ·have e : parts c (b :: r) = [] :: p :: ps:=by simp [parts,h,hp]
    rw [e,h]
    show [] ++ c :: glue c (p :: ps) = c :: r
    rw [ih]
    rfl
   ·have e : parts c (b :: r) = (b :: p) :: ps:=by simp [parts,h,hp]
    rw [e]
    cases ps with
    | nil =>
     have : p = r:=ih
     rw [this]
     rfl
    | cons q qs =>
     have : p ++ c :: glue c (q :: qs) = r:=ih
     show b :: (p ++ c :: glue c (q :: qs)) = b :: r
     rw [this]
theorem no46 (n : Nat) : (46 : UInt8) ∉ dec n:=dec_no (by decide) n
theorem parts_addr (a : Nat) : parts 46 (addrT a) = [dec (a / 16777216),dec (a / 65536 % 256),dec (a / 256 % 256),dec (a % 256)]:=by
 have e : addrT a = dec (a / 16777216) ++ 46 :: (dec (a / 65536 % 256) ++ 46 :: (dec (a / 256 % 256) ++ 46 :: dec (a % 256))):=by simp [addrT]
 rw [e,e9z _ (no46 _),e9z _ (no46 _),e9z _ (no46 _),f9z (no46 _)]
theorem four_addr {n0 n1 n2 n3 : Nat} (h0 : n0 ≤ 255) (h1 : n1 ≤ 255) (h2 : n2 ≤ 255) (h3 : n3 ≤ 255) : glue 46 [dec n0,dec n1,dec n2,dec n3] = addrT (((n0 * 256 + n1) * 256 + n2) * 256 + n3):=by
 have e0 : (((n0 * 256 + n1) * 256 + n2) * 256 + n3) / 16777216 = n0:=by omega
 have e1 : (((n0 * 256 + n1) * 256 + n2) * 256 + n3) / 65536 % 256 = n1:=by omega
 have e2 : (((n0 * 256 + n1) * 256 + n2) * 256 + n3) / 256 % 256 = n2:=by omega
 have e3 : (((n0 * 256 + n1) * 256 + n2) * 256 + n3) % 256 = n3:=by omega
 unfold addrT
 rw [e0,e1,e2,e3]
 simp [glue]
theorem addrT_pos (a : Nat) : addrT a ≠ []:=by
 intro h
 have:=congrArg List.length h
 simp [addrT] at this
theorem get_step (xs : List (List UInt8)) (acc : Int) (i : Nat) (x : List UInt8) (hx : xs[i]? = some x) (hi : i < 4) (h0 : 0 ≤ acc) (h1 : acc ≤ 4294967296) {k : Nat} (hk : 30 ≤ k) :
  spec_AddrGet.l0 (k + 1) (xs.map tx) acc (i : Int) = if 0 ≤ numE x ∧ numE x ≤ 255 then spec_AddrGet.l0 k (xs.map tx) (acc * 256 + numE x) ((i + 1 : Nat) : Int) else some (0,false):=by
 have hlt : i < xs.length:=by
  rcases Nat.lt_or_ge i xs.length with h|h
  ·exact h
  ·rw [List.getElem?_eq_none h] at hx;cases hx
 have hr : rdOf ByteArray.empty (xs.map tx) (i : Int) = tx x:=by
  show (xs.map tx).getD ((i : Int)).toNat _ = _
  rw [Int.toNat_natCast,List.getD_eq_getElem?_getD,List.getElem?_map,hx]
  rfl
 simp only [spec_AddrGet.l0]
 rw [if_pos (by omega),if_pos (by omega),if_pos (by rw [List.length_map];omega),hr,num_ev x (by omega),Option.bind_some,in_spec,Option.bind_some]
 by_cases h : 0 ≤ numE x ∧ numE x ≤ 255
 ·rw [if_pos (decide_eq_true h),if_pos h,w64 (x:=acc * 256) (by omega) (by omega),w64 (by omega) (by omega),w64 (by omega) (by omega)]
  rfl
 ·rw [if_neg (by simpa using h),if_neg h]
theorem get_end (xs : List (List UInt8)) (acc : Int) {k : Nat} : spec_AddrGet.l0 (k + 1) (xs.map tx) acc ((3 + 1 : Nat) : Int) = some (acc,true):=by
 simp only [spec_AddrGet.l0]
 rw [if_neg (by omega)]
theorem spec_get (l : List UInt8) (hl : l.length ≤ 1000000000) {k : Nat} (hk : l.length + 100 ≤ k) : spec_AddrGet.f k (tx l) = (match parts 46 l with
  | [A,B,C,D] => if (0 ≤ numE A ∧ numE A ≤ 255) ∧ (0 ≤ numE B ∧ numE B ≤ 255) ∧ (0 ≤ numE C ∧ numE C ≤ 255) ∧ (0 ≤ numE D ∧ numE D ≤ 255) then some (((numE A * 256 + numE B) * 256 + numE C) * 256 + numE D,true) else some (0,false)
  | _ => some (0,false)):=by
 obtain ⟨k,rfl⟩ : ∃ j,k = j + 5:=⟨k - 5,by omega⟩
 have hc:=cut_ev 46 l hl (k:=k + 5) (by omega)
 have hc' : spec_l1Cut.f (k + 5) (tx l) 46 = some ((parts 46 l).map tx):=hc
 unfold spec_AddrGet.f
 rw [hc',Option.bind_some,List.length_map]
 generalize parts 46 l = xs
 by_cases h4 : xs.length = 4
 ·obtain ⟨A,B,C,D,rfl⟩ : ∃ A B C D,xs = [A,B,C,D]:=by
   match xs,h4 with
   | [A,B,C,D],_ => exact ⟨A,B,C,D,rfl⟩
  rw [if_pos (by rw [h4];rfl)]
  dsimp only
  have s0:=get_step [A,B,C,D] 0 0 A rfl (by omega) (by omega) (by omega) (k:=k + 4) (by omega)
  rw [Int.zero_mul,Int.zero_add] at s0
  refine Eq.trans s0 ?_
  by_cases hA : 0 ≤ numE A ∧ numE A ≤ 255
  ·rw [if_pos hA,get_step [A,B,C,D] (numE A) (0 + 1) B rfl (by omega) (by omega) (by omega) (k:=k + 3) (by omega)]
   by_cases hB : 0 ≤ numE B ∧ numE B ≤ 255
   ·rw [if_pos hB,get_step [A,B,C,D] (numE A * 256 + numE B) (0 + 1 + 1) C rfl (by omega) (by omega) (by omega) (k:=k + 2) (by omega)]
    by_cases hC : 0 ≤ numE C ∧ numE C ≤ 255
    ·rw [if_pos hC,get_step [A,B,C,D] ((numE A * 256 + numE B) * 256 + numE C) (0 + 1 + 1 + 1) D rfl (by omega) (by omega) (by omega) (k:=k + 1) (by omega)]
     by_cases hD : 0 ≤ numE D ∧ numE D ≤ 255
     ·rw [if_pos hD,if_pos ⟨hA,hB,hC,hD⟩]
      exact get_end _ _
     ·rw [if_neg hD,if_neg fun h => hD h.2.2.2]
    ·rw [if_neg hC,if_neg fun h => hC h.2.2.1]
   ·rw [if_neg hB,if_neg fun h => hB h.2.1]
  ·rw [if_neg hA,if_neg fun h => hA h.1]
 ·rw [if_neg (by omega)]
  split
  ·simp at h4
  ·rfl
theorem spec_yes {a : Nat} (ha : a < 4294967296) {k : Nat} (hk : 200 ≤ k) : spec_AddrGet.f k (tx (addrT a)) = some ((a : Int),true):=by
 have hl:=addrT_len ha
 rw [spec_get _ (by omega) (by omega),parts_addr]
 simp only
 rw [num_dec (by omega),num_dec (n:=a / 65536 % 256) (by omega),num_dec (n:=a / 256 % 256) (by omega),num_dec (n:=a % 256) (by omega),if_pos (by omega)]
 congr 2
 omega
theorem spec_no {l : List UInt8} (hl : l.length ≤ 1000000000) (hn : ∀ a < 4294967296,l ≠ addrT a) {k : Nat} (hk : l.length + 100 ≤ k) : spec_AddrGet.f k (tx l) = some (0,false):=by
 have hg:=glue_parts 46 l
 rw [spec_get l hl hk]
 split
 ·rename_i A B C D hp
  rw [if_neg]
  rintro ⟨⟨a0,a1⟩,⟨b0,b1⟩,⟨c0,c1⟩,d0,d1⟩
  obtain ⟨n0,e0⟩:=Int.eq_ofNat_of_zero_le a0
  obtain ⟨n1,e1⟩:=Int.eq_ofNat_of_zero_le b0
  obtain ⟨n2,e2⟩:=Int.eq_ofNat_of_zero_le c0
  obtain ⟨n3,e3⟩:=Int.eq_ofNat_of_zero_le d0
  rw [hp,num_back e0,num_back e1,num_back e2,num_back e3,four_addr (by omega) (by omega) (by omega) (by omega)] at hg
  exact hn _ (by omega) hg.symm
 ·rfl
theorem or_b {x b : Int} (h0 : 0 ≤ x) (h1 : x < 1152921504606846976) (hx : x % 256 = 0) (b0 : 0 ≤ b) (b1 : b ≤ 255) : Go.bits .or .i64 x b = x + b :=
 bits_join .i64 60 (by decide) (fun n g0 g1 => by rw [IntKind.wrap_i64];omega) 8 x b h0 (by omega) (by omega) b0 (by omega) (by omega)
theorem step_dec {acc n : Nat} (ha : acc ≤ 16777215) (hn : n ≤ 255) : stepA (acc : Int) (tx (dec n)) = some ((acc * 256 + n : Nat) : Int):=by
 unfold stepA
 rw [f4z,atoi_dec (by omega)]
 simp only
 rw [if_pos (by omega),or_b (by omega) (by omega) (by omega) (by omega) (by omega)]
 congr 1
theorem fold_addr {a : Nat} (ha : a < 4294967296) : foldA 0 ((parts 46 (addrT a)).map tx) = some (a : Int):=by
 rw [parts_addr]
 have s0:=step_dec (acc:=0) (n:=a / 16777216) (by omega) (by omega)
 have s1:=step_dec (acc:=0 * 256 + a / 16777216) (n:=a / 65536 % 256) (by omega) (by omega)
 have s2:=step_dec (acc:=(0 * 256 + a / 16777216) * 256 + a / 65536 % 256) (n:=a / 256 % 256) (by omega) (by omega)
 have s3:=step_dec (acc:=((0 * 256 + a / 16777216) * 256 + a / 65536 % 256) * 256 + a / 256 % 256) (n:=a % 256) (by omega) (by omega)
 show ((stepA ((0 : Nat) : Int) (tx (dec (a / 16777216)))).bind fun b => (stepA b (tx (dec (a / 65536 % 256)))).bind fun b => (stepA b (tx (dec (a / 256 % 256)))).bind fun b => (stepA b (tx (dec (a % 256)))).bind fun b => some b) = _
 rw [s0,Option.bind_some,s1,Option.bind_some,s2,Option.bind_some,s3,Option.bind_some]
 congr 1
 omega
theorem impl_yes {a : Nat} (ha : a < 4294967296) {k : Nat} (hk : 10 ≤ k) : impl_AddrGet.f k (tx (addrT a)) = some ((a : Int),true):=by
 have hl:=addrT_len ha
 unfold impl_AddrGet.f addrGetF
 rw [e4z,if_pos (by omega),f4z,fold_addr ha]
 simp only
 rw [addrText_in ha hk,Option.bind_some]
 exact if_pos rfl
theorem tx_inj {x y : List UInt8} (h : tx x = tx y) : x = y:=by rw [← f4z x,h,f4z]
theorem impl_no {l : List UInt8} (hl : l.length ≤ 1000000000) (hn : ∀ a < 4294967296,l ≠ addrT a) {k : Nat} (hk : 10 ≤ k) : impl_AddrGet.f k (tx l) = some (0,false):=by
 unfold impl_AddrGet.f addrGetF
 rw [e4z,if_pos hl,f4z]
 rcases hf : foldA 0 ((parts 46 l).map tx) with _|a
 ·rfl
 ·simp only
  rw [addrText_impl a hk,Option.bind_some,if_neg]
  intro e
  by_cases h : 0 ≤ a ∧ a ≤ 4294967295
  ·rw [if_pos h] at e
   exact hn a.toNat (by omega) (tx_inj e).symm
  ·rw [if_neg h] at e
   have hnil : l = []:=(tx_inj e).symm
   rw [hnil] at hf
   have : stepA 0 (tx []) = none:=by
    unfold stepA
    rw [f4z]
    rfl
   change ((stepA 0 (tx [])).bind fun b => some b) = some a at hf
   rw [this] at hf
   cases hf
/-- A text is an address's, or it is none. -/
theorem addr_or (l : List UInt8) : (∃ a < 4294967296,l = addrT a) ∨ ∀ a < 4294967296,l ≠ addrT a:=by
 by_cases h : ∃ a < 4294967296,l = addrT a
 ·exact .inl h
 ·exact .inr fun a ha e => h ⟨a,ha,e⟩
end Go.Proofs.YtgbdnbbfgcogjaaGreatDoor.Tx

namespace Go.Proofs.YtgbdnbbfgcogjaaGreatDoor.Tx
set_option linter.unusedSimpArgs false
set_option linter.unusedVariables false
open Go.RowKit Go.Proofs.YtgbdnbbfgcogjaaGreatDoor.Q Go.Proofs.YtgbdnbbfgcogjaaGreatDoor.Pure Go.Proofs.YtgbdnbbfgcogjaaGreatDoorW.PrintWords Go.Proofs.YtgbdnbbfgcogjaaGreatDoorW.PrintLast Go.Proofs.YtgbdnbbfgcogjaaGreatDoorW.PrintMore
open Go.Proofs.YtgbdnbbfgcogjaaGreatDoor.Sq (tx parts e9z f9z parts_len e4z f4z e6z cut1 blockGetF h5z)
theorem no47_dec (n : Nat) : (47 : UInt8) ∉ dec n:=dec_no (by decide) n
theorem no47_addr (a : Nat) : (47 : UInt8) ∉ addrT a:=by
 unfold addrT
 simp only [List.mem_append,List.mem_singleton]
 rintro ((((((h|h)|h)|h)|h)|h)|h)
 ·exact no47_dec _ h
 ·exact absurd h (by decide)
 ·exact no47_dec _ h
 ·exact absurd h (by decide)
 ·exact no47_dec _ h
 ·exact absurd h (by decide)
 ·exact no47_dec _ h
theorem blockT_eq (a b : Nat) : blockT a b = addrT a ++ 47 :: dec b:=by simp [blockT]
theorem parts_block (a b : Nat) : parts 47 (blockT a b) = [addrT a,dec b]:=by
 rw [blockT_eq,e9z _ (no47_addr a),f9z (no47_dec b)]
theorem split_unique {c : UInt8} {y y' : List UInt8} : ∀ {x x' : List UInt8},c ∉ x → c ∉ x' → x ++ c :: y = x' ++ c :: y' → x = x' ∧ y = y'
 | [],[],_,_,h => ⟨rfl,(List.cons.inj h).2⟩
 | [],d :: x',_,h2,h => absurd (List.cons.inj h).1 (fun e => h2 (by rw [e];exact List.mem_cons_self))
 | d :: x,[],h1,_,h => absurd (List.cons.inj h).1 (fun e => h1 (by rw [← e];exact List.mem_cons_self))
 | d :: x,d' :: x',h1,h2,h => by
  obtain ⟨e1,e2⟩:=List.cons.inj h
  obtain ⟨e3,e4⟩:=split_unique (fun hm => h1 (List.mem_cons_of_mem _ hm)) (fun hm => h2 (List.mem_cons_of_mem _ hm)) e2
  exact ⟨by rw [e1,e3],e4⟩
theorem cut_of {c : UInt8} {x y : List UInt8} (hx : c ∉ x) : cut1 c (x ++ c :: y) = (x,y,true):=by
 unfold cut1
 rcases h5z c (x ++ c :: y) with ⟨_,hn⟩|⟨o,hi,ho,hs,hn⟩
 ·exact absurd (List.mem_append.2 (.inr List.mem_cons_self)) hn
 ·obtain ⟨e1,e2⟩:=split_unique hx hn hs
  rw [hi,if_pos (by omega),Int.toNat_natCast,← e1,← e2]
theorem blockT_len {a b : Nat} (ha : a < 4294967296) (hb : b < 1000) : (blockT a b).length ≤ 20:=by
 have h1:=addrT_len ha
 have h2:=h1z 2 b (by simpa using hb)
 simp only [blockT,List.length_append,List.length_singleton]
 omega
/-- A valid block, in natural numbers. -/
def okN (a b : Nat) : Prop:=bok (a : Int) (b : Int) = true
theorem okN_le {a b : Nat} (h : okN a b) : a < 4294967296 ∧ b ≤ 32:=by
 obtain ⟨_,h1,_,h3,_⟩:=bok_iff.1 h
 omega
theorem bspec_yes {a b : Nat} (h : okN a b) {k : Nat} (hk : 300 ≤ k) : spec_BlockGet.f k (tx (blockT a b)) = some ((a : Int),(b : Int),true):=by
 obtain ⟨ha,hb⟩:=okN_le h
 have hl:=blockT_len ha (show b < 1000 by omega)
 have hc : spec_l1Cut.f k (tx (blockT a b)) 47 = some ((parts 47 (blockT a b)).map tx):=cut_ev 47 _ (by omega) (by omega)
 unfold spec_BlockGet.f
 rw [hc,Option.bind_some,parts_block,if_pos (show ((List.map tx [addrT a,dec b]).length : Int) = 2 from rfl),if_pos (show (0 : Int) < ((List.map tx [addrT a,dec b]).length : Int) from by simp),show rdOf ByteArray.empty ([addrT a,dec b].map tx) 0 = tx (addrT a) from rfl,spec_yes ha (by omega),Option.bind_some,if_pos (show (1 : Int) < ((List.map tx [addrT a,dec b]).length : Int) from by simp),show rdOf ByteArray.empty ([addrT a,dec b].map tx) 1 = tx (dec b) from rfl,num_ev _ (by omega),Option.bind_some,num_dec (by omega)]
 simp only
 rw [if_pos trivial,ok_spec _ _ (by omega),Option.bind_some,if_pos (show bok (a : Int) (b : Int) = true from h)]
theorem bspec_no {l : List UInt8} (hl : l.length ≤ 1048576) (hn : ∀ a b,okN a b → l ≠ blockT a b) {k : Nat} (hk : 2000000 ≤ k) : spec_BlockGet.f k (tx l) = some (0,0,false):=by
 have hc : spec_l1Cut.f k (tx l) 47 = some ((parts 47 l).map tx):=cut_ev 47 _ (by omega) (by omega)
 have hg:=glue_parts 47 l
 unfold spec_BlockGet.f
 rw [hc,Option.bind_some,List.length_map]
 generalize hp : parts 47 l = xs at hg
 by_cases h2 : xs.length = 2
 ·obtain ⟨A,B,rfl⟩ : ∃ A B,xs = [A,B]:=by
   match xs,h2 with
   | [A,B],_ => exact ⟨A,B,rfl⟩
  have hgl : l = A ++ 47 :: B:=hg.symm
  have hAl : A.length ≤ 1048576:=by rw [hgl,List.length_append] at hl;omega
  rw [if_pos (by rw [h2];rfl),if_pos (by rw [h2];decide),show rdOf ByteArray.empty ([A,B].map tx) 0 = tx A from rfl]
  rcases addr_or A with ⟨a,ha,rfl⟩|hna
  ·rw [spec_yes ha (by omega),Option.bind_some,if_pos (by rw [h2];decide),show rdOf ByteArray.empty ([addrT a,B].map tx) 1 = tx B from rfl,num_ev _ (by omega),Option.bind_some]
   simp only
   rw [if_pos trivial,ok_spec _ _ (by omega),Option.bind_some,if_neg]
   intro hb
   obtain ⟨_,_,b0,_⟩:=bok_iff.1 hb
   obtain ⟨b,eb⟩:=Int.eq_ofNat_of_zero_le b0
   rw [eb] at hb
   refine hn a b hb ?_
   rw [hgl,blockT_eq,num_back eb]
  ·rw [spec_no (by omega) hna (by omega),Option.bind_some,if_pos (by rw [h2];decide),show rdOf ByteArray.empty ([A,B].map tx) 1 = tx B from rfl,num_ev _ (by omega),Option.bind_some]
   simp only
   rw [if_neg (by simp)]
 ·rw [if_neg (by omega)]
theorem bimpl_yes {a b : Nat} (h : okN a b) {k : Nat} (hk : 300 ≤ k) : impl_BlockGet.f k (tx (blockT a b)) = some ((a : Int),(b : Int),true):=by
 obtain ⟨ha,hb⟩:=okN_le h
 have hl:=blockT_len ha (show b < 1000 by omega)
 unfold impl_BlockGet.f blockGetF
 rw [e4z,if_pos (by omega),f4z,blockT_eq,cut_of (no47_addr a)]
 simp only
 rw [impl_yes ha (by omega),Option.bind_some,atoi_dec (by omega)]
 simp only
 rw [if_pos trivial,blockText_impl _ _ (by omega),Option.bind_some]
 unfold blockText
 rw [if_pos (show bok (a : Int) (b : Int) = true from h),Int.toNat_natCast,Int.toNat_natCast,← blockT_eq]
 exact if_pos rfl
theorem bimpl_no {l : List UInt8} (hl : l.length ≤ 1048576) (hn : ∀ a b,okN a b → l ≠ blockT a b) {k : Nat} (hk : 300 ≤ k) : impl_BlockGet.f k (tx l) = some (0,0,false):=by
 unfold impl_BlockGet.f blockGetF
 rw [e4z,if_pos (by omega),f4z]
 have hc1 : (cut1 47 l).1.length ≤ 1048576:=by
  unfold cut1
  split
  ·rw [lT_];omega
  ·exact hl
 rcases addr_or (cut1 47 l).1 with ⟨a,ha,e⟩|hna
 ·rw [e,impl_yes ha (by omega),Option.bind_some]
  rcases hat : Lib.atoiAll (cut1 47 l).2.1 with n|_|_
  ·simp only
   rw [if_pos trivial,blockText_impl _ _ (by omega),Option.bind_some,if_neg]
   intro ht
   unfold blockText at ht
   by_cases hb : bok (a : Int) n = true
   ·rw [if_pos hb] at ht
    obtain ⟨_,_,b0,_⟩:=bok_iff.1 hb
    obtain ⟨b,rfl⟩:=Int.eq_ofNat_of_zero_le b0
    exact hn a b hb (tx_inj ht).symm
   ·rw [if_neg hb] at ht
    have hnil : l = []:=(tx_inj ht).symm
    rw [hnil] at e
    exact addrT_pos a e.symm
  ·rfl
  ·rfl
 ·rw [impl_no (by omega) hna (by omega),Option.bind_some]
  rcases hat : Lib.atoiAll (cut1 47 l).2.1 with n|_|_ <;> rfl
/-- A text is a valid block's, or it is none. -/
theorem block_or (l : List UInt8) : (∃ a b,okN a b ∧ l = blockT a b) ∨ ∀ a b,okN a b → l ≠ blockT a b:=by
 by_cases h : ∃ a b,okN a b ∧ l = blockT a b
 ·exact .inl h
 ·exact .inr fun a b hab e => h ⟨a,b,hab,e⟩
end Go.Proofs.YtgbdnbbfgcogjaaGreatDoor.Tx

namespace Go.Proofs.YtgbdnbbfgcogjaaGreatDoor.Tx
set_option linter.unusedSimpArgs false
set_option linter.unusedVariables false
open Go.RowKit Go.Proofs.YtgbdnbbfgcogjaaGreatDoor.Q Go.Proofs.YtgbdnbbfgcogjaaGreatDoor.Pure Go.Proofs.YtgbdnbbfgcogjaaGreatDoorW.PrintWords Go.Proofs.YtgbdnbbfgcogjaaGreatDoorW.PrintLast Go.Proofs.YtgbdnbbfgcogjaaGreatDoorW.PrintMore
open Go.Proofs.YtgbdnbbfgcogjaaGreatDoor.Sq (tx e4z f4z tx_of e6z cut1 cut_eval atoiF atoiV)
theorem blockGet_total (x : ByteArray) (hx : x.size ≤ 1048576) {k : Nat} (hk : 300 ≤ k) : ∃ a b c,impl_BlockGet.f k x = some (a,b,c):=by
 have hs:=tx_of x
 have hl : x.data.toList.length = x.size:=Array.length_toList
 generalize x.data.toList = l at hs hl
 subst hs
 rcases block_or l with ⟨a,b,hab,rfl⟩|hn
 ·exact ⟨_,_,_,bimpl_yes hab hk⟩
 ·exact ⟨_,_,_,bimpl_no (by omega) hn hk⟩
theorem atoi_total (x : ByteArray) (hx : x.size ≤ 1048576) : atoiF x = some (atoiV x.data.toList,true):=by
 unfold atoiF
 rw [if_pos (by omega)]
theorem trim_total (x p : ByteArray) : ∃ y,strings_TrimPrefix.f x p = some y ∧ y.size ≤ x.size:=by
 unfold strings_TrimPrefix.f stringslite_TrimPrefix.f stringslite_HasPrefix.f
 by_cases h : (x.size : Int) ≥ (p.size : Int)
 ·rw [if_pos h,if_pos (by omega),if_pos h,Option.bind_some]
  by_cases hc : ((x.extract 0 ((p.size : Int)).toNat).toList == p.toList) = true
  ·rw [if_pos hc,if_pos (by omega),if_pos h,Option.bind_some]
   exact ⟨_,rfl,by rw [ByteArray.size_extract];omega⟩
  ·rw [if_neg hc,Option.bind_some]
   exact ⟨_,rfl,Nat.le_refl _⟩
 ·rw [if_neg h,Option.bind_some,if_neg (by simp),Option.bind_some]
  exact ⟨_,rfl,Nat.le_refl _⟩
theorem cut_total (x : ByteArray) (hx : x.size ≤ 1048576) (c : UInt8) : ∃ a b f,strings_Cut.f x ⟨#[c]⟩ = some (a,b,f) ∧ a.size ≤ x.size ∧ b.size ≤ x.size:=by
 have hl : x.data.toList.length = x.size:=Array.length_toList
 refine ⟨_,_,_,cut_eval c x (by omega),?_,?_⟩
 ·rw [e4z]
  unfold cut1
  split
  ·rw [lT_];omega
  ·exact Nat.le_of_eq hl
 ·rw [e4z]
  unfold cut1
  split
  ·rw [lD_];omega
  ·simp
theorem ruleGet_j0 (w0 w1 w2 w3 : ByteArray) (h1 : w1.size ≤ 1048576) (h2 : w2.size ≤ 1048576) (h3 : w3.size ≤ 1048576) (a b c d e f g h : Int) : ∃ r,impl_ruleGet.j0 400 [w0,w1,w2,w3] a b c d e f g h = some r:=by
 obtain ⟨a1,b1,c1,e1⟩:=blockGet_total w1 h1 (k:=399) (by omega)
 obtain ⟨a2,b2,c2,e2⟩:=blockGet_total w2 h2 (k:=399) (by omega)
 obtain ⟨x,y,z,e3,hx,hy⟩:=cut_total w3 h3 45
 have e4:=atoi_total x (by omega)
 have e5:=atoi_total y (by omega)
 show ∃ r,impl_ruleGet.j0 (399 + 1) [w0,w1,w2,w3] a b c d e f g h = some r
 simp only [impl_ruleGet.j0]
 rw [if_pos (by simp),show rdOf ByteArray.empty [w0,w1,w2,w3] 1 = w1 from rfl,e1,Option.bind_some,if_pos (by simp),show rdOf ByteArray.empty [w0,w1,w2,w3] 2 = w2 from rfl,e2,Option.bind_some,if_pos (by simp),show rdOf ByteArray.empty [w0,w1,w2,w3] 3 = w3 from rfl,e3,Option.bind_some]
 simp only
 rw [e4,Option.bind_some,e5,Option.bind_some]
 exact ⟨_,rfl⟩
theorem ruleGet_total (w0 w1 w2 w3 : ByteArray) (h0 : w0.size ≤ 1048576) (h1 : w1.size ≤ 1048576) (h2 : w2.size ≤ 1048576) (h3 : w3.size ≤ 1048576) : ∃ r,impl_ruleGet.f 400 [w0,w1,w2,w3] = some r:=by
 obtain ⟨t,et,ht⟩:=trim_total w0 ⟨#[103,117,97,114,100]⟩
 have ea:=atoi_total t (by omega)
 unfold impl_ruleGet.f
 rw [if_pos (by simp),show rdOf ByteArray.empty [w0,w1,w2,w3] 0 = w0 from rfl]
 split
 ·exact ruleGet_j0 w0 w1 w2 w3 h1 h2 h3 _ _ _ _ _ _ _ _
 ·split
  ·exact ruleGet_j0 w0 w1 w2 w3 h1 h2 h3 _ _ _ _ _ _ _ _
  ·rw [et,Option.bind_some,ea,Option.bind_some]
   exact ruleGet_j0 w0 w1 w2 w3 h1 h2 h3 _ _ _ _ _ _ _ _
end Go.Proofs.YtgbdnbbfgcogjaaGreatDoor.Tx

namespace Go.Proofs.YtgbdnbbfgcogjaaGreatDoor.Sq
open Go Go.RowKit Go.Shelf Go.Proofs.YtgbdnbbfgcogjaaGreatDoor.Q Go.Proofs.YtgbdnbbfgcogjaaGreatDoorW.PrintWords Go.Proofs.YtgbdnbbfgcogjaaGreatDoorW.PrintLast Go.Proofs.YtgbdnbbfgcogjaaGreatDoorW.PrintMore
attribute [local go_sem] Oper.semAt_some
set_option linter.unusedVariables false
set_option linter.unusedSimpArgs false
theorem trim_calls (x : ByteArray) (hx : x.size ≤ 1048576) (w : World) : Calls Tryz.prog 21 #[.string x,.string ⟨#[10]⟩] w fun e w' => e = .returned (.string (tx (trimL x))) ∧ w' = w :=
 Tryz.strings_TrimSuffix x ⟨#[10]⟩ w (by omega)
theorem trimL_len (x : ByteArray) : (trimL x).length ≤ x.size:=Nat.le_trans (Lib.trimSuffix_le _ _) (Nat.le_of_eq Array.length_toList)
theorem words_calls (x : ByteArray) (hx : x.size ≤ 1048576) (w : World) (hT : Tb.T3 w) : Calls Tryz.prog 20 #[.string (tx (trimL x)),.string ⟨#[32]⟩] w fun e w' => e = .returned (.slice (some ⟨w.heap.size,0,none⟩) (wordsL x).length (wordsL x).length) ∧ w' = w.alloc (.cells ((wordsL x).map Value.string).toArray 9):=by
 have h:=split_calls 32 (trimL x) (by have:=trimL_len x;omega) w hT
 unfold wordsL
 rw [List.length_map]
 exact h
theorem parts_le (c : UInt8) : ∀ (l : List UInt8),∀ p ∈ parts c l,p.length ≤ l.length
 | [],p,h => by
  simp [parts] at h
  simp [h]
 | b :: r,p,h => by
  have ih:=parts_le c r
  unfold parts at h
  split at h
  ·rcases List.mem_cons.1 h with rfl|h
   ·simp
   ·have:=ih p h;simp;omega
  ·cases hp : parts c r with
   | nil => rw [hp] at h;simp at h;subst h;simp
   | cons q qs =>
    rw [hp] at h ih
    rcases List.mem_cons.1 h with rfl|h
    ·have:=ih q List.mem_cons_self;simp;omega
    ·have:=ih p (List.mem_cons_of_mem _ h);simp;omega
theorem words_le (x : ByteArray) : ∀ p ∈ wordsL x,p.size ≤ x.size:=by
 intro p hp
 obtain ⟨q,hq,rfl⟩:=List.mem_map.1 hp
 rw [e4z]
 exact Nat.le_trans (parts_le 32 _ q hq) (trimL_len x)
/-- A rule as its value. -/
def cellsR (r : S39) : List Value:=[.int .i64 r.f0,.int .i64 r.f1,.int .i64 r.f2.f0,.int .i64 r.f2.f1,.int .i64 r.f3.f0,.int .i64 r.f3.f1,.int .i64 r.f4,.int .i64 r.f5]
theorem rule_calls (x : ByteArray) (hx : x.size ≤ 1048576) (h4 : (wordsL x).length = 4) (A : Option Addr) (w : World) (hT : Tb.T2 w) (hC : Kd.C Kd.string w A (wordsL x).length (wordsL x)) :
  Calls Tryz.prog 22 #[.slice A 4 4] w fun e w' => e = .returned (.agg (cellsR (ruleV (wordsL x))).toArray) ∧ Below w.heap.size w w':=by
 have hle:=words_le x
 obtain ⟨w0,w1,w2,w3,e⟩ : ∃ w0 w1 w2 w3,wordsL x = [w0,w1,w2,w3]:=by
  match wordsL x,h4 with
  | [w0,w1,w2,w3],_ => exact ⟨w0,w1,w2,w3,rfl⟩
 have hm : ∀ p ∈ [w0,w1,w2,w3],p.size ≤ 1048576:=fun p hp => Nat.le_trans (hle p (by rw [e];exact hp)) hx
 obtain ⟨⟨a,b,c,d,f,g,i,j⟩,hr⟩:=Tx.ruleGet_total w0 w1 w2 w3 (hm _ (by simp)) (hm _ (by simp)) (hm _ (by simp)) (hm _ (by simp))
 rw [e] at hC ⊢
 have h:=impl_ruleGet.calls 400 A 4 [w0,w1,w2,w3] a b c d f g i j w hT hC (by simp) hr
 have hv : ruleV [w0,w1,w2,w3] = ⟨a,b,⟨c,d⟩,⟨f,g⟩,i,j⟩:=by unfold ruleV;rw [hr]
 rw [hv]
 exact h
set_option maxRecDepth 100000 in
set_option maxHeartbeats 4000000 in
theorem rulesGet_in (n : Nat) (hn : 6 ≤ n) (k : Nat) (s : ByteArray) (l : List S39) (b : Bool) (w : World) (hT : Tb.T3 w) (h : rulesGetF k s = some (l,b)) :
  CallsIn Fence.wide n Tryz.prog 6 #[.string s] w fun e w' => ∃ v0_ : Value,e = .returned (.tuple #[v0_,.bool b]) ∧ k39.R 39 w' w.heap.size (fun _ => True) v0_ l ∧ Below w.heap.size w w':=by
 have h1 : 1 ≤ n:=by omega
 unfold rulesGetF at h
 by_cases hsz : s.size ≤ 1048576
 ·rw [if_pos hsz] at h
  have hsl : s.data.toList.length = s.size:=Array.length_toList
  refine callsIn_of_wp_marks Tryz.func6 rfl trivial ?_ rfl
  simp only [Tryz.ntmps6,List.size_toArray,List.length_cons,List.length_nil,Nat.reduceAdd,Nat.reduceSub,Array.replicate_succ,Array.replicate_zero,List.push_toArray,List.append_toArray,List.nil_append,List.cons_append]
  gi_wp2_with (refine ⟨trivial,?_⟩;refine (callsIn_wide.2 (lines_calls _ _)).mono ?_;rintro e w' ⟨rfl,rfl⟩)
  obtain ⟨W0,hW0⟩ : ∃ W0,(((w.alloc (.cells #[.slice none 0 0] 22)).alloc (.cells #[.bool false] 4)).alloc (.cells #[.slice none 0 0] 22)).alloc (.cells #[.string s] 9) = W0:=⟨_,rfl⟩
  obtain ⟨hsz0,b0,b1,b2,b3,bel0⟩:=four w _ _ _ _ W0 hW0
  simp only [Nat.add_assoc,Nat.reduceAdd]
  rw [hW0]
  clear hW0
  refine wpIn_range_own (w:=W0) (w0:=W0) rfl h1 (gf:=41) (lb:=#[.pointer (some ⟨w.heap.size + 3,0,none⟩)]) rfl trivial (enters_of Tryz.func41 (by kernel_rfl) rfl)
   (lines_seq (n - 1) (by omega) (w.heap.size + 3) s.data.toList (by omega) W0 (by rw [tx_of];exact b3))
   (fun A B ⟨z,e⟩ => by
    rcases e with e|e
    ·exact e ▸ KeepsOthers.setCell _ _ _
    ·exact e ▸ ⟨(KeepsOthers.setCell A _ _).size,(KeepsOthers.setCell A _ _).same⟩) (fun {A B C} h1 h2 => h2.trans h1)
   (fun W l o o' hl ho hc => World.putObj_heap_other (by omega)) (Below.refl _ _) (fun _ => rfl)
   (IG w) (IGX w) (IG_own w (by omega)) (IGX_own w (by omega)) (IG_turn w) ⟨⟨rfl,by omega⟩,⟨_,b2,Kd.R_nil _ _ _ _ _⟩,⟨_,b3⟩,⟨b0,b1⟩,bel0⟩
   (fun x => { tmps:=#[.string s,undef,.pointer (some ⟨w.heap.size,0,none⟩),.pointer (some ⟨w.heap.size + 1,0,none⟩),.pointer (some ⟨w.heap.size + 2,0,none⟩),.string x,undef,.string s,.func (.func 41) #[] #[.pointer (some ⟨w.heap.size + 3,0,none⟩)],.string x,undef,undef,undef,undef,undef,undef,undef,undef,undef,undef,undef,undef,undef,undef,undef,undef],defers:=[] }) ?assign ?body ?done ?stop
  case assign =>
   intro l x W K hK
   gi_wp2
   exact hK
  case body =>
   rintro lp pre x W hl hIG hlen hok
   have hI:=hIG
   obtain ⟨⟨hf,hw4⟩,⟨v,g2,hL⟩,⟨u,gu⟩,⟨g0,g1⟩,hbel⟩:=hI
   have h2 : 1 ≤ n - 1 - 1:=by omega
   have hx : x.size ≤ 1048576:=by omega
   have htr:=fun W => trim_calls x hx W
   have hwd:=words_calls x hx W (hT.below hbel)
   have hbA : Below W.heap.size W (W.alloc (.cells ((wordsL x).map Value.string).toArray 9)):=(Below.refl _ W).alloc (Nat.le_refl _) _
   by_cases h4 : (wordsL x).length = 4
   ·have hll : (listG pre).length ≤ 1048576:=by
     have:=foldG_len _ _ _ hf
     simp only [List.length_nil] at this
     omega
    have hC:=row_reads (wordsL x) (by omega) W
    rw [h4] at hwd
    gi_wp2_with (first|(refine ⟨trivial,?_⟩;refine (CallsIn.inRound lp (callsIn_wide.2 (htr _))).mono ?_;rintro e w' ⟨rfl,hw'⟩;obtain rfl:=hw'.symm)|(refine ⟨trivial,?_⟩;refine (CallsIn.inRound lp (callsIn_wide.2 hwd)).mono ?_;rintro e w' ⟨rfl,hw'⟩;obtain rfl:=hw'.symm))
    obtain ⟨W1,hW1⟩ : ∃ W1,W.alloc (.cells ((wordsL x).map Value.string).toArray 9) = W1:=⟨_,rfl⟩
    rw [hW1] at hbA hC ⊢
    clear hwd htr hW1
    have hgr:=fun V hV hc => rule_calls x hx h4 (some ⟨W.heap.size,0,none⟩) V hV hc
    have g2' : Boxed W1 (w.heap.size + 2) 22 v:=(hbA.block _ g2.lt).trans g2
    refine startR_ (n:=6) (S:=fun w' => w'.cell? ⟨w.heap.size + 2,0,none⟩ = some v) (ds:=[5]) #[false,false,false,false,false,false] (by kernel_rfl) rfl rfl (by kernel_rfl) (fun ⟨_,_,hq⟩ => hq) (boxed_drew g2').cell (fun hHeld => ?_)
    refine pure_ (i:=1) (N:=some 17) (v:=?_) (a':=?_) #[false,true,false,false,false,false] rfl rfl (by kernel_rfl) (fun _ _ _ h => h) (Or.inl ⟨by rfl,?_⟩) ?_ ?_
    rotate_left
    ·intro w'
     go_simp
     with_reducible rfl
    rotate_left
    ·simp only [Act.put,sA_,sZ_,sS_,i64_w,i32_w]
     rfl
    refine take_ (i:=0) (N:=some 16) (v:=?_) (a':=?_) #[true,true,false,false,false,false] rfl rfl (by kernel_rfl) (fun _ _ _ h => h) (Or.inl ⟨by rfl,?_⟩) hHeld ?_ ?_
    rotate_left
    ·intro w' s0
     go_simp
     with_reducible rfl
    rotate_left
    ·simp only [Act.put,sA_,sZ_,sS_,i64_w,i32_w]
     rfl
    refine one_ (i:=2) (N:=some 18) #[true,true,true,false,false,false] rfl rfl (by kernel_rfl) (by decide) (fun K hK => ?_)
    refine goes_ Tryz.func22 (by kernel_rfl) rfl #[.slice (some ⟨W.heap.size,0,none⟩) 4 4] (by rfl) rfl rfl (by simp only [mA_,mC_,mN_];rfl) ?_
    refine (hgr W1.drew (Tb.T2.of (hT.below (hbel.trans ((hbA.mono hbel.size).drew)))) (Kd.e5z hC)).mono ?_
    rintro e W2 ⟨rfl,hb2⟩
    refine ⟨_,rfl,?_⟩
    have hbV : Below W.heap.size W W2:=(hbA.drew).trans (hb2.mono (by have:=hbA.size;simpa using this))
    have g22 : Boxed W2 (w.heap.size + 2) 22 v:=(hbV.block _ g2.lt).trans g2
    have hL2 : Lst W2 w.heap.size v (listG pre):=Kd.d3z hL hbV
    have hbel2 : Below w.heap.size w W2:=hbel.trans (hbV.mono hbel.size)
    refine hK.out _ _ g22.cell (fun hHeld2 => ?_)
    simp only [Act.put,sA_,sZ_,sS_]
    refine one_ (i:=3) (N:=some 19) #[true,true,true,true,false,false] rfl rfl (by kernel_rfl) (by decide) (fun K hK => ?_)
    refine value_ (w1:=W2.alloc (.cells (cellsR (ruleV (wordsL x))).toArray 39)) (v:=.slice (some ⟨W2.heap.size,0,none⟩) 1 1) (by rfl) rfl ?hrun ?_
    case hrun =>
     have hu:=Tryz.underlying22
     have hi:=info39
     clear hK
     generalize ruleV (wordsL x) = rr
     unfold cellsR
     go_simp
    refine hK.out _ _ (g22.alloc _).cell (fun hHeld3 => ?_)
    simp only [Act.put,sA_,sZ_,sS_]
    refine one_ (i:=4) (N:=some 20) #[true,true,true,true,true,false] rfl rfl (by kernel_rfl) (by decide) (fun K hK => ?_)
    refine Kd.R_append_step k39 (w0:=w) w.heap.size (by rfl) (.tmp 16) (.tmp 19) 22 39 (.agg #[(.int .i64 0),(.int .i64 0),(.int .i64 0),(.int .i64 0),(.int .i64 0),(.int .i64 0),(.int .i64 0),(.int .i64 0)]) 64 rfl Tryz.underlying22 info39 rfl (by decide) (by omega) v (listG pre) (ruleV (wordsL x)) (cellsR (ruleV (wordsL x))) (fun _ => True) (fun k_ => k_ ≠ k_) rfl rfl (k39_mkM _ _ _ (ruleV (wordsL x))) (fun k_ h_ => absurd rfl h_) (fun _ _ => trivial) hL2 hbel2 hbel2.size (by omega) ?_
    intro v1 W3 hL3 hb3 hg3 hat3
    clear hat3
    have g23 : Boxed W3 (w.heap.size + 2) 22 v:=g22.kept hg3 (Kd.R_ne hL2 g22 (by decide))
    refine hK.out _ _ g23.cell (fun hHeld4 => ?_)
    simp only [Act.put,sA_,sZ_,sS_]
    refine last_ (i:=5) (N:=none) #[true,true,true,true,true,true] rfl rfl (by kernel_rfl) (by decide) (fun K hK => ?_)
    refine skip_ (w1:=W3.setCell ⟨w.heap.size + 2,0,none⟩ v1) (by rfl) rfl ?hrun ?_
    case hrun =>
     have d0:=g23.frozen
     obtain ⟨A1,c1,rfl⟩:=Kd.e0z hL3
     go_simp
    refine hK.out _ _ ?_
    refine done_ (by kernel_rfl) ?_
    exact bodyG_ok hIG g2 hL hbV (by omega) h4 hg3 hL3 hb3
   ·have q1 : ((((wordsL x).length : Nat) : Int) = 4) = False:=eq_false (by omega)
    have q2 : ((((wordsL x).length : Nat) : Int) != 4) = true:=bne_iff_ne.2 (by omega)
    have e0 : Boxed (W.alloc (.cells ((wordsL x).map Value.string).toArray 9)) w.heap.size 22 (.slice none 0 0):=g0.alloc _
    have e1 : Boxed (W.alloc (.cells ((wordsL x).map Value.string).toArray 9)) (w.heap.size + 1) 4 (.bool false):=g1.alloc _
    have c0:=e0.cell
    have c1:=e1.cell
    have d0:=e0.frozen
    have d1:=(e1.other (B':=w.heap.size) (by omega) (.slice none 0 0)).frozen
    gi_wp2_with (first|(refine ⟨trivial,?_⟩;refine (CallsIn.inRound lp (callsIn_wide.2 (htr _))).mono ?_;rintro e w' ⟨rfl,hw'⟩;obtain rfl:=hw'.symm)|(refine ⟨trivial,?_⟩;refine (CallsIn.inRound lp (callsIn_wide.2 hwd)).mono ?_;rintro e w' ⟨rfl,hw'⟩;obtain rfl:=hw'.symm))
    obtain ⟨k1,k2⟩:=bodyG_no (B:=W0.heap.size) hIG hbA h4
    exact ⟨k1,rfl,k2⟩
  case done =>
   rintro D xs W hD rfl ⟨⟨hf,hw4⟩,⟨v,g2,hL⟩,_,⟨g0,g1⟩,hbel⟩ hK
   rw [hf] at h
   dsimp only at h
   obtain ⟨t,ht,h⟩:=Option.bind_eq_some_iff.1 h
   obtain ⟨A1,c1,rfl⟩:=Kd.e0z hL
   obtain ⟨_,hle,hC⟩:=Kd.c2z hL
   have hRP:=impl_RulesPut.calls k A1 c1 _ t W (Tb.T1.of (Tb.T2.of (hT.below hbel))) hC hle ht
   have hKl : D < W.heap.size:=(Array.getElem?_eq_some_iff.1 hK).1
   generalize listG ((lns 10 s.data.toList).map tx) = L at *
   have c2:=g2.cell
   by_cases hts : t = s
   ·rw [if_pos hts] at h
    cases h
    gi_wp2
    refine ⟨trivial,?_⟩
    refine (callsIn_wide.2 hRP).mono ?_
    rintro e W1 ⟨rfl,hb1⟩
    have f0 : Boxed W1 w.heap.size 22 (.slice none 0 0):=(hb1.block _ g0.lt).trans g0
    have f1 : Boxed W1 (w.heap.size + 1) 4 (.bool false):=(hb1.block _ g1.lt).trans g1
    have f2 : Boxed W1 (w.heap.size + 2) 22 (.slice A1 l.length c1):=(hb1.block _ g2.lt).trans g2
    have hK1 : W1.heap[D]? = some (.deferred (some [])):=(hb1.block _ hKl).trans hK
    have hL1 : Lst W1 w.heap.size (.slice A1 l.length c1) l:=Kd.d3z hL hb1
    have c0:=f0.cell
    have c1':=(f1.other (B':=w.heap.size) (by omega) (.slice A1 l.length c1)).cell
    have c2:=f2.cell
    have d0:=f0.frozen
    have d1:=(f1.other (B':=w.heap.size) (by omega) (.slice A1 l.length c1)).frozen
    have d2:=f2.frozen
    gi_wp2
    have zk:=(KeepsOthers.setCell _ ⟨w.heap.size + 1,0,none⟩ (.bool true)).same D _ ((KeepsOthers.setCell W1 ⟨w.heap.size,0,none⟩ (.slice A1 l.length c1)).same D _ hK1 rfl) rfl
    have zb:=((hbel.trans (hb1.mono hbel.size)).setCell (p:=⟨w.heap.size,0,none⟩) (Nat.le_refl _) (.slice A1 l.length c1)).setCell (p:=⟨w.heap.size + 1,0,none⟩) (by show w.heap.size ≤ w.heap.size + 1;omega) (.bool true)
    have z0 : Boxed _ _ _ _:=((f0.set (.slice A1 l.length c1)).other (B':=w.heap.size + 1) (by omega) (.bool true))
    have z1 : Boxed _ _ _ _:=((f1.other (B':=w.heap.size) (by omega) (.slice A1 l.length c1)).set (.bool true))
    refine ⟨by simp,.inl ⟨_,_,rfl,run_takeDeferred zk,?_⟩⟩
    have y0:=cell_kept z0.cell (grownBy_putObj' _ D (.deferred none)) (fun r e => by cases e;exact ⟨_,zk,rfl⟩)
    have y1:=cell_kept z1.cell (grownBy_putObj' _ D (.deferred none)) (fun r e => by cases e;exact ⟨_,zk,rfl⟩)
    refine ⟨.tuple #[.slice A1 l.length c1,.bool true],?_,_,rfl,Lst.far (Kd.R_set (Kd.R_set hL1 f0 types22 _ _) (f1.other (B':=w.heap.size) (by omega) _) types4 _ _) (grownBy_putObj' _ D (.deferred none)) (fun r e => by cases e;exact ⟨_,zk,rfl⟩),zb.trans (belowK_b (w:=w) (Nat.le_refl _) _ D _ _ (by omega) zk rfl rfl)⟩
    simp [results,Tryz.f6,go_sem,y0,y1]
   ·rw [if_neg hts] at h
    cases h
    have hne : (t.toList == s.toList) = false:=beq_eq_false_iff_ne.2 fun e => hts (by
     rw [ByteArray.toList_eq,ByteArray.toList_eq] at e
     rw [← tx_of t,← tx_of s,e])
    gi_wp2
    refine ⟨trivial,?_⟩
    refine (callsIn_wide.2 hRP).mono ?_
    rintro e W1 ⟨rfl,hb1⟩
    have f0 : Boxed W1 w.heap.size 22 (.slice none 0 0):=(hb1.block _ g0.lt).trans g0
    have f1 : Boxed W1 (w.heap.size + 1) 4 (.bool false):=(hb1.block _ g1.lt).trans g1
    have hK1 : W1.heap[D]? = some (.deferred (some [])):=(hb1.block _ hKl).trans hK
    have c0:=f0.cell
    have c1':=(f1.other (B':=w.heap.size) (by omega) (.slice none 0 0)).cell
    have d0:=f0.frozen
    have d1:=(f1.other (B':=w.heap.size) (by omega) (.slice none 0 0)).frozen
    gi_wp2
    have zk:=(KeepsOthers.setCell _ ⟨w.heap.size + 1,0,none⟩ (.bool false)).same D _ ((KeepsOthers.setCell W1 ⟨w.heap.size,0,none⟩ (.slice none 0 0)).same D _ hK1 rfl) rfl
    have zb:=((hbel.trans (hb1.mono hbel.size)).setCell (p:=⟨w.heap.size,0,none⟩) (Nat.le_refl _) (.slice none 0 0)).setCell (p:=⟨w.heap.size + 1,0,none⟩) (by show w.heap.size ≤ w.heap.size + 1;omega) (.bool false)
    have z0 : Boxed _ _ _ _:=((f0.set (.slice none 0 0)).other (B':=w.heap.size + 1) (by omega) (.bool false))
    have z1 : Boxed _ _ _ _:=((f1.other (B':=w.heap.size) (by omega) (.slice none 0 0)).set (.bool false))
    refine ⟨by simp,.inl ⟨_,_,rfl,run_takeDeferred zk,?_⟩⟩
    have y0:=cell_kept z0.cell (grownBy_putObj' _ D (.deferred none)) (fun r e => by cases e;exact ⟨_,zk,rfl⟩)
    have y1:=cell_kept z1.cell (grownBy_putObj' _ D (.deferred none)) (fun r e => by cases e;exact ⟨_,zk,rfl⟩)
    refine ⟨.tuple #[.slice none 0 0,.bool false],?_,_,rfl,Kd.R_nil _ _ _ _ _,zb.trans (belowK_b (w:=w) (Nat.le_refl _) _ D _ _ (by omega) zk rfl rfl)⟩
    simp [results,Tryz.f6,go_sem,y0,y1]
  case stop =>
   rintro D pre W hD hpre ⟨hf,⟨g0,g1⟩,hbel⟩ hK
   rw [foldG_prefix hpre hf] at h
   cases h
   gi_wp2
   refine ⟨by simp,.inl ⟨_,_,rfl,run_takeDeferred hK,?_⟩⟩
   have y0:=cell_kept g0.cell (grownBy_putObj' _ D (.deferred none)) (fun r e => by cases e;exact ⟨_,hK,rfl⟩)
   have y1:=cell_kept g1.cell (grownBy_putObj' _ D (.deferred none)) (fun r e => by cases e;exact ⟨_,hK,rfl⟩)
   refine ⟨.tuple #[.slice none 0 0,.bool false],?_,_,rfl,Kd.R_nil _ _ _ _ _,hbel.trans (belowK_b (w:=w) (Nat.le_refl _) _ D _ _ (by omega) hK rfl rfl)⟩
   simp [results,Tryz.f6,go_sem,y0,y1]
 ·rw [if_neg hsz] at h
  cases h
end Go.Proofs.YtgbdnbbfgcogjaaGreatDoor.Sq

namespace Go.Proofs.YtgbdnbbfgcogjaaGreatDoor.Q
open Go.RowKit Go.Proofs.YtgbdnbbfgcogjaaGreatDoorW.PrintWords Go.Proofs.YtgbdnbbfgcogjaaGreatDoorW.PrintLast Go.Proofs.YtgbdnbbfgcogjaaGreatDoorW.PrintMore
attribute [local go_sem] d7z d5z d9z d8z c8z c7z d6z d4z
set_option linter.unusedVariables false
set_option linter.unusedSimpArgs false
/-- What RulesGet answers. -/
def impl_RulesGet.f (k : Nat) (a0 : ByteArray) : Option (List (S39) × Bool):=Sq.rulesGetF k a0
theorem impl_RulesGet.calls (k : Nat) (a0 : ByteArray) (r1 : List (S39)) (r2 : Bool) (w : World) (hT : Tb.T3 w) (h : impl_RulesGet.f k a0 = some (r1,r2)) :
  Calls Tryz.prog 6 #[.string a0] w fun e w' => ∃ v0_ : Value,e = .returned (.tuple #[v0_,.bool r2]) ∧ Kd.R k39 39 w' w.heap.size (fun _ => True) v0_ r1 ∧ Below w.heap.size w w' :=
 callsIn_wide.1 (Sq.rulesGet_in 6 (Nat.le_refl _) k a0 r1 r2 w hT h)
/-- A state of type 80 at block g of W; what its slices lead to came in by w0. -/
def IsS80 (w0 W : World) (g : Nat) (f0 : List Int) (f1 : Int) : Prop:=∃ A0 c0,W.heap[g]? = some (.cells #[.slice A0 f0.length c0,.int .i64 f1] 80 (0,0)) ∧ w0.heap.size ≤ g ∧ Kd.C (Kd.int .u8) w0 A0 f0.length f0
theorem IsS80.grown {w0 W : World} {g : Nat} {f0 : List Int} {f1 : Int} {W1 : World} {row : Option Nat} (h : IsS80 w0 W g f0 f1) (hw : W.grownBy W1 row) (hne : some g ≠ row) : IsS80 w0 W1 g f0 f1:=by
 obtain ⟨A0,c0,hb,hg,hr0⟩:=h
 exact ⟨A0,c0,blk_grown hb hw hne,hg,hr0⟩
theorem IsS80.below {w0 W : World} {g : Nat} {f0 : List Int} {f1 : Int} {W1 : World} (h : IsS80 w0 W g f0 f1) (hw : Below W.heap.size W W1) : IsS80 w0 W1 g f0 f1:=h.grown (grown_of_below hw none) (by simp)
theorem IsS80.drewN {w0 W : World} {g : Nat} {f0 : List Int} {f1 : Int} (h : IsS80 w0 W g f0 f1) (m : Nat) : IsS80 w0 (W.drewN m) g f0 f1:=h
theorem IsS80.drew {w0 W : World} {g : Nat} {f0 : List Int} {f1 : Int} (h : IsS80 w0 W g f0 f1) : IsS80 w0 W.drew g f0 f1:=h
theorem IsS80.apart {w0 W : World} {g : Nat} {f0 : List Int} {f1 : Int} {α : Type} {d : Kd α} {e : Nat} {base : Nat} {ok : Nat → Prop} {v : Value} {xs : List α} (h : IsS80 w0 W g f0 f1) (ho : d.R e W base ok v xs) (ht : ∀ q,q ∈ e :: d.E → q ≠ 80) : d.R e W base (fun k => ok k ∧ k ≠ g) v xs:=by
 obtain ⟨A0,c0,hb,hg,hr0⟩:=h
 exact Kd.g9z ho hb ht
theorem IsS80.own_ne {w0 W : World} {g : Nat} {f0 : List Int} {f1 : Int} {α : Type} {d : Kd α} {e : Nat} {base : Nat} {ok : Nat → Prop} {v : Value} {xs : List α} (h : IsS80 w0 W g f0 f1) (ho : d.R e W base ok v xs) (ht : e ≠ 80) : some g ≠ v.ownBlock:=by
 obtain ⟨A0,c0,hb,hg,hr0⟩:=h
 exact Kd.R_ne ho hb ht
theorem IsS80.lt {w0 W : World} {g : Nat} {f0 : List Int} {f1 : Int} (h : IsS80 w0 W g f0 f1) : g < W.heap.size:=by
 obtain ⟨A0,c0,hb,hg,hr0⟩:=h
 exact f6z hb
theorem IsS80.ge {w0 W : World} {g : Nat} {f0 : List Int} {f1 : Int} (h : IsS80 w0 W g f0 f1) : w0.heap.size ≤ g:=by
 obtain ⟨A0,c0,hb,hg,hr0⟩:=h
 exact hg
theorem IsS80.far {w0 W : World} {g : Nat} {f0 : List Int} {f1 : Int} {p : Addr} (h : IsS80 w0 W g f0 f1) (hne : g ≠ p.block) (u : Value) : IsS80 w0 (W.setCell p u) g f0 f1:=by
 obtain ⟨A0,c0,hb,hg,hr0⟩:=h
 exact ⟨A0,c0,f3z hb hne u,hg,hr0⟩
theorem cellS80_0 {W : World} {g : Nat} {A0 : Option Addr} {c0 : Nat} {f0 : List Int} {f1 : Int} (h : W.heap[g]? = some (.cells #[.slice A0 f0.length c0,.int .i64 f1] 80 (0,0))) : W.cell? ⟨g,0,none⟩ = some (.slice A0 f0.length c0):=(b7z h 0).trans rfl
theorem cellS80_1 {W : World} {g : Nat} {A0 : Option Addr} {c0 : Nat} {f0 : List Int} {f1 : Int} (h : W.heap[g]? = some (.cells #[.slice A0 f0.length c0,.int .i64 f1] 80 (0,0))) : W.cell? ⟨g,1,none⟩ = some (.int .i64 f1):=(b7z h 1).trans rfl
theorem IsS80.set_1 {w0 W : World} {g : Nat} {f0 : List Int} {f1 : Int} (h : IsS80 w0 W g f0 f1) (x : Int) : IsS80 w0 (W.setCell ⟨g,1,none⟩ (.int .i64 x)) g f0 x:=by
 obtain ⟨A0,c0,hb,hg,hr0⟩:=h
 exact ⟨A0,c0,by simpa using blk_set hb 1 (.int .i64 x),hg,hr0⟩
def spec_l1Rd_pick.j0 : Nat → Int → Bool → List Int → Int → Option (Int × Int)
 | 0,_,_,_,_ => none
 | k + 1,x1,x24,x1000,x1001 => if x24 = true then (some (0,x1001)) else (if (wrap64 (x1001 - 1)) < (x1000.length : Int) then (if 0 ≤ (wrap64 (x1001 - 1)) then (if x1 = 0 then (none) else (some (Int.tmod (wrap64 (rd x1000 (wrap64 (x1001 - 1)))) x1,x1001))) else (none)) else (if (x1000.length : Int) = 0 then (none) else (if 0 ≤ (Int.tmod (wrap64 (x1001 - 1)) (x1000.length : Int)) then (if (Int.tmod (wrap64 (x1001 - 1)) (x1000.length : Int)) < (x1000.length : Int) then (if 0 ≤ (Int.tmod (wrap64 ((wrap64 ((wrap64 (x1001 - 1)) * 7)) + 3)) (x1000.length : Int)) then (if (Int.tmod (wrap64 ((wrap64 ((wrap64 (x1001 - 1)) * 7)) + 3)) (x1000.length : Int)) < (x1000.length : Int) then (if x1 = 0 then (none) else (some (Int.tmod (Go.bits .xor .i64 (wrap64 ((wrap64 ((wrap64 ((wrap64 ((wrap64 (rd x1000 (Int.tmod (wrap64 (x1001 - 1)) (x1000.length : Int)))) * 131)) + (wrap64 ((wrap64 (rd x1000 (Int.tmod (wrap64 ((wrap64 ((wrap64 (x1001 - 1)) * 7)) + 3)) (x1000.length : Int)))) * 1117)))) + (wrap64 ((wrap64 (x1001 - 1)) * 29)))) + (wrap64 ((wrap64 (Int.tdiv (wrap64 (x1001 - 1)) (x1000.length : Int))) * 53)))) (wrap64 (Int.tdiv (wrap64 ((wrap64 ((wrap64 ((wrap64 ((wrap64 (rd x1000 (Int.tmod (wrap64 (x1001 - 1)) (x1000.length : Int)))) * 131)) + (wrap64 ((wrap64 (rd x1000 (Int.tmod (wrap64 ((wrap64 ((wrap64 (x1001 - 1)) * 7)) + 3)) (x1000.length : Int)))) * 1117)))) + (wrap64 ((wrap64 (x1001 - 1)) * 29)))) + (wrap64 ((wrap64 (Int.tdiv (wrap64 (x1001 - 1)) (x1000.length : Int))) * 53)))) 64))) x1,x1001))) else (none)) else (none)) else (none)) else (none))))
def spec_l1Rd_pick.f (k : Nat) (s0_0 : List Int) (s0_1 : Int) (a1 : Int) : Option (Int × Int):=if a1 < 1 then (spec_l1Rd_pick.j0 k a1 true s0_0 (wrap64 (s0_1 + 1))) else (spec_l1Rd_pick.j0 k a1 ((s0_0.length : Int) == 0) s0_0 (wrap64 (s0_1 + 1)))
set_option maxHeartbeats 8000000 in
set_option maxRecDepth 100000 in
theorem spec_l1Rd_pick.calls (k : Nat) (g : Nat) (s0_0 : List Int) (s0_1 : Int) (a1 : Int) (r1 : Int) (r2 : Int) (w0 w : World) (hI : IsS80 w0 w g s0_0 s0_1) (hB : Below w0.heap.size w0 w) (h : spec_l1Rd_pick.f k s0_0 s0_1 a1 = some (r1,r2)) :
  Calls Tryz.prog 50 #[.pointer (some ⟨g,0,none⟩),.int .i64 a1] w fun e w' => e = .returned (.int .i64 r1) ∧ IsS80 w0 w' g s0_0 r2 ∧ Below w0.heap.size w0 w' ∧ a7z w w' g none:=by
 have HI0:=a1z.mk hI
 have HK:=a1z.mk (a7z.refl w g none)
 have HL:=a1z.mk hB.size
 clear hI
 have HW0:=a1z.mk hB.size
 have HB:=a1z.mk hB
 clear hB
 have H : (if a1 < 1 then (spec_l1Rd_pick.j0 k a1 true s0_0 (wrap64 (s0_1 + 1))) else (spec_l1Rd_pick.j0 k a1 ((s0_0.length : Int) == 0) s0_0 (wrap64 (s0_1 + 1)))) = some (r1,r2):=h
 clear h
 have HC3:=a1z.mk H
 clear H
 obtain ⟨ASz4_0,cSz4_0,HGz4,hgz4,HSz4_0⟩:=HI0.1
 have hcz4_0:=cellS80_0 HGz4
 have hcz4_1:=cellS80_1 HGz4
 have hfz4_1:=a4z HGz4 1
 clear HGz4 hgz4
 go_enter Tryz.func50,Tryz.ntmps50
 go_upto_region 2 with (fail)
 repeat (go_quiet (fail);go_upto_region 2 with (fail))
 go_cut [24] (fun v24 wc => ∃ (kq : Nat) (x24_2 : Bool),v24 = .bool x24_2 ∧ a1z (spec_l1Rd_pick.j0 kq a1 x24_2 s0_0 (wrap64 (s0_1 + 1)) = some (r1,r2)) ∧ a1z (kq ≤ k) ∧ a1z (IsS80 w0 wc g s0_0 (wrap64 (s0_1 + 1))) ∧ a1z (a7z w wc g none) ∧ a1z (Below w0.heap.size w0 wc))
 case first =>
  have H:=HC3.1
  clear HC3
  by_cases c5 : a1 < 1
  ·rw [if_pos c5] at H
   have c5b0 : decide (a1 < 1) = true:=decide_eq_true c5
   clear c5
   (first|rw [c5b0]|(simp only [i64_w,i32_w];rw [c5b0])|skip)
   have H':=a1z.mk H
   clear H
   go_wp2
   repeat (go_quiet (fail);try go_wp2)
   go_meet
   case rel => exact ⟨_,(true),(by first|rfl|(simp;done)|(simp [*];done)),H',⟨by first|omega|exact Nat.le_refl _⟩,⟨by repeat (first|(with_reducible first|exact HI0.1|apply IsS80.alloc|apply IsS80.drewN|apply IsS80.drew|apply IsS80.set_1)|exact HI0.1)⟩,⟨by repeat (first|(with_reducible first|exact HK.1|apply a7z.set_|apply b0z|apply b3z|apply keep_alloc)|exact HK.1)⟩,⟨by repeat (first|(with_reducible first|exact HB.1|apply a3z|apply a0z|apply a2z|refine a5z ?_ (IsS80.ge HI0.1))|exact HB.1)⟩⟩
  ·rw [if_neg c5] at H
   have c5b0 : decide (a1 < 1) = false:=decide_eq_false c5
   clear c5
   (first|rw [c5b0]|(simp only [i64_w,i32_w];rw [c5b0])|skip)
   have H':=a1z.mk H
   clear H
   obtain ⟨ASz6_0,cSz6_0,HGz6,hgz6,HSz6_0⟩:=HI0.1
   have hcz6_0:=cellS80_0 HGz6
   have hcz6_1:=cellS80_1 HGz6
   have hfz6_1:=a4z HGz6 1
   clear HGz6 hgz6
   go_wp2
   repeat (go_quiet (fail);try go_wp2)
   go_meet
   case rel => exact ⟨_,(((s0_0.length : Int) == 0)),(by first|rfl|(simp;done)|(simp [*];done)),H',⟨by first|omega|exact Nat.le_refl _⟩,⟨by repeat (first|(with_reducible first|exact HI0.1|apply IsS80.alloc|apply IsS80.drewN|apply IsS80.drew|apply IsS80.set_1)|exact HI0.1)⟩,⟨by repeat (first|(with_reducible first|exact HK.1|apply a7z.set_|apply b0z|apply b3z|apply keep_alloc)|exact HK.1)⟩,⟨by repeat (first|(with_reducible first|exact HB.1|apply a3z|apply a0z|apply a2z|refine a5z ?_ (IsS80.ge HI0.1))|exact HB.1)⟩⟩
 case rest =>
  clear HC3
  try clear p2
  try clear c5
  try clear c5b0
  try clear p6
  try clear hcz4_0
  try clear hcz4_1
  try clear hcz6_0
  try clear hcz6_1
  try clear hfz4_1
  try clear hfz6_1
  obtain ⟨kq,x24_2,rfl,HA,HJ2,HI0,HK,HB⟩:=hcut
  cases kq with
  | zero => exact absurd HA.1 (by simp [spec_l1Rd_pick.j0])
  | succ kj2 =>
   have H:=HA.1
   clear HA
   simp only [spec_l1Rd_pick.j0] at H
   by_cases c7 : x24_2 = true
   ·subst c7
    have H1 : (some (0,(wrap64 (s0_1 + 1)))) = some (r1,r2):=by rw [if_pos rfl] at H;exact H
    clear H
    have H:=H1
    clear H1
    simp only [Option.some.injEq,Prod.mk.injEq] at H
    obtain ⟨rfl,rfl⟩:=H
    go_wp2
    repeat (go_quiet (fail);try go_wp2)
    go_ret
    exact ⟨by first|rfl|(simp [b5z,b4z] <;> rfl)|(simp [*,b5z,b4z] <;> rfl),by repeat (first|(with_reducible first|exact HI0.1|apply IsS80.alloc|apply IsS80.drewN|apply IsS80.drew|apply IsS80.set_1)|exact HI0.1),by repeat (first|(with_reducible first|exact HB.1|apply a3z|apply a0z|apply a2z|refine a5z ?_ (IsS80.ge HI0.1))|exact HB.1),by repeat (first|(with_reducible first|exact HK.1|apply a7z.set_|apply b0z|apply b3z|apply keep_alloc)|exact HK.1)⟩
   ·replace c7:=Bool.eq_false_iff.mpr c7
    subst c7
    have H1 : (if (wrap64 ((wrap64 (s0_1 + 1)) - 1)) < (s0_0.length : Int) then (if 0 ≤ (wrap64 ((wrap64 (s0_1 + 1)) - 1)) then (if a1 = 0 then (none) else (some (Int.tmod (wrap64 (rd s0_0 (wrap64 ((wrap64 (s0_1 + 1)) - 1)))) a1,(wrap64 (s0_1 + 1))))) else (none)) else (if (s0_0.length : Int) = 0 then (none) else (if 0 ≤ (Int.tmod (wrap64 ((wrap64 (s0_1 + 1)) - 1)) (s0_0.length : Int)) then (if (Int.tmod (wrap64 ((wrap64 (s0_1 + 1)) - 1)) (s0_0.length : Int)) < (s0_0.length : Int) then (if 0 ≤ (Int.tmod (wrap64 ((wrap64 ((wrap64 ((wrap64 (s0_1 + 1)) - 1)) * 7)) + 3)) (s0_0.length : Int)) then (if (Int.tmod (wrap64 ((wrap64 ((wrap64 ((wrap64 (s0_1 + 1)) - 1)) * 7)) + 3)) (s0_0.length : Int)) < (s0_0.length : Int) then (if a1 = 0 then (none) else (some (Int.tmod (Go.bits .xor .i64 (wrap64 ((wrap64 ((wrap64 ((wrap64 ((wrap64 (rd s0_0 (Int.tmod (wrap64 ((wrap64 (s0_1 + 1)) - 1)) (s0_0.length : Int)))) * 131)) + (wrap64 ((wrap64 (rd s0_0 (Int.tmod (wrap64 ((wrap64 ((wrap64 ((wrap64 (s0_1 + 1)) - 1)) * 7)) + 3)) (s0_0.length : Int)))) * 1117)))) + (wrap64 ((wrap64 ((wrap64 (s0_1 + 1)) - 1)) * 29)))) + (wrap64 ((wrap64 (Int.tdiv (wrap64 ((wrap64 (s0_1 + 1)) - 1)) (s0_0.length : Int))) * 53)))) (wrap64 (Int.tdiv (wrap64 ((wrap64 ((wrap64 ((wrap64 ((wrap64 (rd s0_0 (Int.tmod (wrap64 ((wrap64 (s0_1 + 1)) - 1)) (s0_0.length : Int)))) * 131)) + (wrap64 ((wrap64 (rd s0_0 (Int.tmod (wrap64 ((wrap64 ((wrap64 ((wrap64 (s0_1 + 1)) - 1)) * 7)) + 3)) (s0_0.length : Int)))) * 1117)))) + (wrap64 ((wrap64 ((wrap64 (s0_1 + 1)) - 1)) * 29)))) + (wrap64 ((wrap64 (Int.tdiv (wrap64 ((wrap64 (s0_1 + 1)) - 1)) (s0_0.length : Int))) * 53)))) 64))) a1,(wrap64 (s0_1 + 1))))) else (none)) else (none)) else (none)) else (none)))) = some (r1,r2):=by rw [if_neg (show ¬ (false = true) by decide)] at H;exact H
    clear H
    have H:=H1
    clear H1
    by_cases c8 : (wrap64 ((wrap64 (s0_1 + 1)) - 1)) < (s0_0.length : Int)
    ·rw [if_pos c8] at H
     have c8b0 : decide ((wrap64 ((wrap64 (s0_1 + 1)) - 1)) < (s0_0.length : Int)) = true:=decide_eq_true c8
     clear c8
     obtain ⟨ji9,hji9⟩ : ∃ j_ : Int,(wrap64 ((wrap64 (s0_1 + 1)) - 1)) = j_:=⟨_,rfl⟩
     replace H : (if 0 ≤ (ji9) then (if a1 = 0 then (none) else (some (Int.tmod (wrap64 (rd s0_0 (ji9))) a1,(wrap64 (s0_1 + 1))))) else (none)) = some (r1,r2):=by first|(rw [hji9] at H;exact H)|(simp only [hji9] at H ⊢;exact H)
     (try rw [hji9] at c8b0)
     have hji9w : (IntKind.i64.wrap ((wrap64 (s0_1 + 1)) - 1)) = ji9:=(i64_w _).trans hji9
     by_cases c10 : 0 ≤ (ji9)
     ·rw [if_pos c10] at H
      have c10b0 : decide (0 ≤ (ji9)) = true:=decide_eq_true c10
      clear c10
      by_cases c11 : a1 = 0
      ·rw [if_pos c11] at H
       exact absurd H (by simp)
      ·rw [if_neg c11] at H
       have c11b0 : (a1 == 0) = false:=beq_eq_false_iff_ne.mpr c11
       have c11b1 : (a1 != 0) = true:=bne_iff_ne.mpr c11
       simp only [Option.some.injEq,Prod.mk.injEq] at H
       obtain ⟨rfl,rfl⟩:=H
       obtain ⟨ASz12_0,cSz12_0,HGz12,hgz12,HSz12_0⟩:=HI0.1
       have hcz12_0:=cellS80_0 HGz12
       have hcz12_1:=cellS80_1 HGz12
       have hfz12_1:=a4z HGz12 1
       clear HGz12 hgz12
       have p101 : 0 ≤ ((ji9) : Int):=of_decide_eq_true (by first|(with_reducible assumption)|assumption)
       have q101 : (ji9) < (s0_0.length : Int):=of_decide_eq_true (by first|(with_reducible assumption)|assumption)
       obtain ⟨ad101,e101,hx101_0⟩:=Kd.at_int HSz12_0 (ji9) p101 q101
       cases e101
       replace hx101_0:=f7z HB.1 hx101_0
       replace p101:=eq_true p101
       replace q101:=eq_true q101
       go_wp2
       repeat (go_quiet (fail);try go_wp2)
       go_ret
       exact ⟨by first|rfl|(simp [b5z,b4z] <;> rfl)|(simp only [← hji9];first|rfl|(simp [b5z,b4z] <;> rfl))|(simp [*,b5z,b4z] <;> rfl),by repeat (first|(with_reducible first|exact HI0.1|apply IsS80.alloc|apply IsS80.drewN|apply IsS80.drew|apply IsS80.set_1)|exact HI0.1),by repeat (first|(with_reducible first|exact HB.1|apply a3z|apply a0z|apply a2z|refine a5z ?_ (IsS80.ge HI0.1))|exact HB.1),by repeat (first|(with_reducible first|exact HK.1|apply a7z.set_|apply b0z|apply b3z|apply keep_alloc)|exact HK.1)⟩
     ·rw [if_neg c10] at H
      exact absurd H (by simp)
    ·rw [if_neg c8] at H
     have c8b0 : decide ((wrap64 ((wrap64 (s0_1 + 1)) - 1)) < (s0_0.length : Int)) = false:=decide_eq_false c8
     clear c8
     by_cases c13 : (s0_0.length : Int) = 0
     ·rw [if_pos c13] at H
      exact absurd H (by simp)
     ·rw [if_neg c13] at H
      have c13b0 : ((s0_0.length : Int) == 0) = false:=beq_eq_false_iff_ne.mpr c13
      have c13b1 : ((s0_0.length : Int) != 0) = true:=bne_iff_ne.mpr c13
      have c13b2 : ¬ (s0_0 = []):=fun h_ => c13 (by rw [h_];rfl)
      obtain ⟨ji14,hji14⟩ : ∃ j_ : Int,(Int.tmod (wrap64 ((wrap64 (s0_1 + 1)) - 1)) (s0_0.length : Int)) = j_:=⟨_,rfl⟩
      replace H : (if 0 ≤ (ji14) then (if (ji14) < (s0_0.length : Int) then (if 0 ≤ (Int.tmod (wrap64 ((wrap64 ((wrap64 ((wrap64 (s0_1 + 1)) - 1)) * 7)) + 3)) (s0_0.length : Int)) then (if (Int.tmod (wrap64 ((wrap64 ((wrap64 ((wrap64 (s0_1 + 1)) - 1)) * 7)) + 3)) (s0_0.length : Int)) < (s0_0.length : Int) then (if a1 = 0 then (none) else (some (Int.tmod (Go.bits .xor .i64 (wrap64 ((wrap64 ((wrap64 ((wrap64 ((wrap64 (rd s0_0 (ji14))) * 131)) + (wrap64 ((wrap64 (rd s0_0 (Int.tmod (wrap64 ((wrap64 ((wrap64 ((wrap64 (s0_1 + 1)) - 1)) * 7)) + 3)) (s0_0.length : Int)))) * 1117)))) + (wrap64 ((wrap64 ((wrap64 (s0_1 + 1)) - 1)) * 29)))) + (wrap64 ((wrap64 (Int.tdiv (wrap64 ((wrap64 (s0_1 + 1)) - 1)) (s0_0.length : Int))) * 53)))) (wrap64 (Int.tdiv (wrap64 ((wrap64 ((wrap64 ((wrap64 ((wrap64 (rd s0_0 (ji14))) * 131)) + (wrap64 ((wrap64 (rd s0_0 (Int.tmod (wrap64 ((wrap64 ((wrap64 ((wrap64 (s0_1 + 1)) - 1)) * 7)) + 3)) (s0_0.length : Int)))) * 1117)))) + (wrap64 ((wrap64 ((wrap64 (s0_1 + 1)) - 1)) * 29)))) + (wrap64 ((wrap64 (Int.tdiv (wrap64 ((wrap64 (s0_1 + 1)) - 1)) (s0_0.length : Int))) * 53)))) 64))) a1,(wrap64 (s0_1 + 1))))) else (none)) else (none)) else (none)) else (none)) = some (r1,r2):=by first|(rw [hji14] at H;exact H)|(simp only [hji14] at H ⊢;exact H)
      by_cases c15 : 0 ≤ (ji14)
      ·rw [if_pos c15] at H
       have c15b0 : decide (0 ≤ (ji14)) = true:=decide_eq_true c15
       clear c15
       by_cases c16 : (ji14) < (s0_0.length : Int)
       ·rw [if_pos c16] at H
        have c16b0 : decide ((ji14) < (s0_0.length : Int)) = true:=decide_eq_true c16
        clear c16
        obtain ⟨ji17,hji17⟩ : ∃ j_ : Int,(Int.tmod (wrap64 ((wrap64 ((wrap64 ((wrap64 (s0_1 + 1)) - 1)) * 7)) + 3)) (s0_0.length : Int)) = j_:=⟨_,rfl⟩
        replace H : (if 0 ≤ (ji17) then (if (ji17) < (s0_0.length : Int) then (if a1 = 0 then (none) else (some (Int.tmod (Go.bits .xor .i64 (wrap64 ((wrap64 ((wrap64 ((wrap64 ((wrap64 (rd s0_0 (ji14))) * 131)) + (wrap64 ((wrap64 (rd s0_0 (ji17))) * 1117)))) + (wrap64 ((wrap64 ((wrap64 (s0_1 + 1)) - 1)) * 29)))) + (wrap64 ((wrap64 (Int.tdiv (wrap64 ((wrap64 (s0_1 + 1)) - 1)) (s0_0.length : Int))) * 53)))) (wrap64 (Int.tdiv (wrap64 ((wrap64 ((wrap64 ((wrap64 ((wrap64 (rd s0_0 (ji14))) * 131)) + (wrap64 ((wrap64 (rd s0_0 (ji17))) * 1117)))) + (wrap64 ((wrap64 ((wrap64 (s0_1 + 1)) - 1)) * 29)))) + (wrap64 ((wrap64 (Int.tdiv (wrap64 ((wrap64 (s0_1 + 1)) - 1)) (s0_0.length : Int))) * 53)))) 64))) a1,(wrap64 (s0_1 + 1))))) else (none)) else (none)) = some (r1,r2):=by first|(rw [hji17] at H;exact H)|(simp only [hji17] at H ⊢;exact H)
        by_cases c18 : 0 ≤ (ji17)
        ·rw [if_pos c18] at H
         have c18b0 : decide (0 ≤ (ji17)) = true:=decide_eq_true c18
         clear c18
         by_cases c19 : (ji17) < (s0_0.length : Int)
         ·rw [if_pos c19] at H
          have c19b0 : decide ((ji17) < (s0_0.length : Int)) = true:=decide_eq_true c19
          clear c19
          by_cases c20 : a1 = 0
          ·rw [if_pos c20] at H
           exact absurd H (by simp)
          ·rw [if_neg c20] at H
           have c20b0 : (a1 == 0) = false:=beq_eq_false_iff_ne.mpr c20
           have c20b1 : (a1 != 0) = true:=bne_iff_ne.mpr c20
           simp only [Option.some.injEq,Prod.mk.injEq] at H
           obtain ⟨rfl,rfl⟩:=H
           obtain ⟨ASz21_0,cSz21_0,HGz21,hgz21,HSz21_0⟩:=HI0.1
           have hcz21_0:=cellS80_0 HGz21
           have hcz21_1:=cellS80_1 HGz21
           have hfz21_1:=a4z HGz21 1
           clear HGz21 hgz21
           have p102 : 0 ≤ ((ji14) : Int):=of_decide_eq_true (by first|(with_reducible assumption)|assumption)
           have q102 : (ji14) < (s0_0.length : Int):=of_decide_eq_true (by first|(with_reducible assumption)|assumption)
           obtain ⟨ad102,e102,hx102_0⟩:=Kd.at_int HSz21_0 (ji14) p102 q102
           cases e102
           replace hx102_0:=f7z HB.1 hx102_0
           replace p102:=eq_true p102
           replace q102:=eq_true q102
           have p103 : 0 ≤ ((ji17) : Int):=of_decide_eq_true (by first|(with_reducible assumption)|assumption)
           have q103 : (ji17) < (s0_0.length : Int):=of_decide_eq_true (by first|(with_reducible assumption)|assumption)
           obtain ⟨ad103,e103,hx103_0⟩:=Kd.at_int HSz21_0 (ji17) p103 q103
           obtain rfl : ad102 = ad103:=(by injection e103)
           replace hx103_0:=f7z HB.1 hx103_0
           replace p103:=eq_true p103
           replace q103:=eq_true q103
           go_wp2
           repeat (go_quiet (fail);try go_wp2)
           go_ret
           exact ⟨by first|rfl|(simp [b5z,b4z] <;> rfl)|(simp only [← hji14,← hji17];first|rfl|(simp [b5z,b4z] <;> rfl))|(simp [*,b5z,b4z] <;> rfl),by repeat (first|(with_reducible first|exact HI0.1|apply IsS80.alloc|apply IsS80.drewN|apply IsS80.drew|apply IsS80.set_1)|exact HI0.1),by repeat (first|(with_reducible first|exact HB.1|apply a3z|apply a0z|apply a2z|refine a5z ?_ (IsS80.ge HI0.1))|exact HB.1),by repeat (first|(with_reducible first|exact HK.1|apply a7z.set_|apply b0z|apply b3z|apply keep_alloc)|exact HK.1)⟩
         ·rw [if_neg c19] at H
          exact absurd H (by simp)
        ·rw [if_neg c18] at H
         exact absurd H (by simp)
       ·rw [if_neg c16] at H
        exact absurd H (by simp)
      ·rw [if_neg c15] at H
       exact absurd H (by simp)
end Go.Proofs.YtgbdnbbfgcogjaaGreatDoor.Q
