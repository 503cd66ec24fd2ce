/- The law FnSetBoth (part 7 of 8): for every input the call answers true and its arguments read afterwards as before. No condition beyond the row's own. -/
import Derived.Deep.Slices
import Derived.Deep.Fields
import Derived.ChangeSame
import Derived.ProofKit
import Derived.WideShapes
import Derived.RowKit
import Derived.Test.YtmdhedkgpgoneaaCFnSetBoth6
namespace Go.Proofs.Ytmdhedkgpgoneaa.Q
open Go.RowKit Go.Proofs.YtmdhedkgpgoneaaW.PrintWords Go.Proofs.YtmdhedkgpgoneaaW.PrintLast Go.Proofs.YtmdhedkgpgoneaaW.PrintMore
attribute [local go_sem] e4z e2z e7z e6z d8z d7z e3z e1z
set_option linter.unusedVariables false
set_option linter.unusedSimpArgs false
def laws_FnSetBoth.j0 : Nat → List (S44) → List (S44) → List (S44) → Bool → List (S44) → Bool → List (S44) → Bool → Bool → Option (Bool)
 | 0,_,_,_,_,_,_,_,_,_ => none
 | k + 1,x3,x4,x5,x6,x7,x8,x9,x10,x64 => if x64 = true then (if (x6 == x8) = true then ((laws_ovBlocks.f k x5 x7).bind fun t121 => (if t121 = true then (if (x10 == x6) = true then ((laws_ovBlocks.f k x9 x5).bind fun t122 => (some t122)) else (some false)) else (some false))) else (some false)) else ((impl_SetLess.f k x3 x4).bind fun bt123 => (if bt123.2 = true then ((some (([] : List (S44)) : List (S44))).bind fun y128 => (if y128.length + x5.length < 8796093022208 then ((some (y128 ++ x5 : List (S44))).bind fun y131 => (if y131.length + bt123.1.length < 8796093022208 then ((impl_SetOf.f k (y131 ++ bt123.1)).bind fun bt137 => ((impl_SetOk.f k x5).bind fun t141 => (if t141 = true then ((impl_SetOk.f k bt123.1).bind fun t142 => (if t142 = true then (if bt137.2 = true then ((laws_ovBlocks.f k bt137.1 x3).bind fun t143 => (if t143 = true then ((impl_SetSize.f k x5).bind fun t144 => ((impl_SetSize.f k bt123.1).bind fun t145 => ((impl_SetSize.f k x3).bind fun t146 => (some ((wrap64 (t144 + t145)) == t146))))) else (some false))) else ((impl_SetSize.f k x5).bind fun t147 => ((impl_SetSize.f k bt123.1).bind fun t148 => ((impl_SetSize.f k x3).bind fun t149 => (some ((wrap64 (t147 + t148)) == t149)))))) else (some false))) else (some false)))) else (none))) else (none))) else ((impl_SetOk.f k x5).bind fun t127 => (some t127))))
def laws_FnSetBoth.f (k : Nat) (l0 : List Int) : Option (Bool):=if (l0.length : Int) > 1048576 then (some true) else ((spec_DrawSetBoth.f k l0).bind fun bt101 => ((impl_SetBoth.f k bt101.1 bt101.2).bind fun bt107 => ((spec_SetBoth.f k bt101.1 bt101.2).bind fun bt111 => ((impl_SetBoth.f k bt101.2 bt101.1).bind fun bt115 => (if (bt107.2 != bt111.2) = true then (laws_FnSetBoth.j0 k bt101.1 bt101.2 bt107.1 bt107.2 bt111.1 bt111.2 bt115.1 bt115.2 true) else ((laws_ovBlocks.f k bt107.1 bt111.1).bind fun t119 => (if t119 = true then (if (bt115.2 != bt107.2) = true then (laws_FnSetBoth.j0 k bt101.1 bt101.2 bt107.1 bt107.2 bt111.1 bt111.2 bt115.1 bt115.2 true) else ((laws_ovBlocks.f k bt115.1 bt107.1).bind fun t120 => (if t120 = true then (laws_FnSetBoth.j0 k bt101.1 bt101.2 bt107.1 bt107.2 bt111.1 bt111.2 bt115.1 bt115.2 (!bt107.2)) else (laws_FnSetBoth.j0 k bt101.1 bt101.2 bt107.1 bt107.2 bt111.1 bt111.2 bt115.1 bt115.2 true)))) else (laws_FnSetBoth.j0 k bt101.1 bt101.2 bt107.1 bt107.2 bt111.1 bt111.2 bt115.1 bt115.2 true))))))))
set_option maxHeartbeats 8000000 in
set_option maxRecDepth 100000 in
theorem laws_FnSetBoth.calls (k : Nat) (A0 : Option Addr) (c0 : Nat) (l0 : List Int) (r : Bool) (w : World) (hr0 : Kd.C (Kd.int .u8) w A0 l0.length l0) (hc0 : l0.length ≤ c0) (h : laws_FnSetBoth.f k l0 = some r) :
  Calls Try.prog 11 #[.slice A0 l0.length c0] w fun e w' => e = .returned (.bool r) ∧ Below w.heap.size w w':=by
 have HR0:=a0z.mk hr0
 have HC0:=a0z.mk hc0
 clear hr0 hc0
 have HB:=a0z.mk (Below.refl w.heap.size w)
 have H : (if (l0.length : Int) > 1048576 then (some true) else ((spec_DrawSetBoth.f k l0).bind fun bt101 => ((impl_SetBoth.f k bt101.1 bt101.2).bind fun bt107 => ((spec_SetBoth.f k bt101.1 bt101.2).bind fun bt111 => ((impl_SetBoth.f k bt101.2 bt101.1).bind fun bt115 => (if (bt107.2 != bt111.2) = true then (laws_FnSetBoth.j0 k bt101.1 bt101.2 bt107.1 bt107.2 bt111.1 bt111.2 bt115.1 bt115.2 true) else ((laws_ovBlocks.f k bt107.1 bt111.1).bind fun t119 => (if t119 = true then (if (bt115.2 != bt107.2) = true then (laws_FnSetBoth.j0 k bt101.1 bt101.2 bt107.1 bt107.2 bt111.1 bt111.2 bt115.1 bt115.2 true) else ((laws_ovBlocks.f k bt115.1 bt107.1).bind fun t120 => (if t120 = true then (laws_FnSetBoth.j0 k bt101.1 bt101.2 bt107.1 bt107.2 bt111.1 bt111.2 bt115.1 bt115.2 (!bt107.2)) else (laws_FnSetBoth.j0 k bt101.1 bt101.2 bt107.1 bt107.2 bt111.1 bt111.2 bt115.1 bt115.2 true)))) else (laws_FnSetBoth.j0 k bt101.1 bt101.2 bt107.1 bt107.2 bt111.1 bt111.2 bt115.1 bt115.2 true))))))))) = some r:=h
 clear h
 by_cases c2 : (l0.length : Int) > 1048576
 ·rw [if_pos c2] at H
  have c2b0 : decide (1048576 < (l0.length : Int)) = true:=decide_eq_true c2
  have c2b1 : decide (1048576 < l0.length) = true:=decide_eq_true (by omega)
  clear c2
  obtain rfl:=Option.some.inj H
  go_enter Try.func11,Try.ntmps11
  go_wp2
  go_ret
  exact ⟨by first|rfl|(simp [c2z,c1z] <;> rfl)|(simp [*,c2z,c1z] <;> rfl),by repeat (first|(with_reducible first|exact HB.1|apply a3z|apply a1z|apply a2z)|exact HB.1)⟩
 ·rw [if_neg c2] at H
  have c2b0 : decide (1048576 < (l0.length : Int)) = false:=decide_eq_false c2
  have c2b1 : decide (1048576 < l0.length) = false:=decide_eq_false (by omega)
  clear c2
  replace H:=Option.bind_eq_some_iff.mp H
  obtain ⟨⟨t101,t102⟩,A30,H⟩:=H
  replace H : ((impl_SetBoth.f k t101 t102).bind fun bt107 => ((spec_SetBoth.f k t101 t102).bind fun bt111 => ((impl_SetBoth.f k t102 t101).bind fun bt115 => (if (bt107.2 != bt111.2) = true then (laws_FnSetBoth.j0 k t101 t102 bt107.1 bt107.2 bt111.1 bt111.2 bt115.1 bt115.2 true) else ((laws_ovBlocks.f k bt107.1 bt111.1).bind fun t119 => (if t119 = true then (if (bt115.2 != bt107.2) = true then (laws_FnSetBoth.j0 k t101 t102 bt107.1 bt107.2 bt111.1 bt111.2 bt115.1 bt115.2 true) else ((laws_ovBlocks.f k bt115.1 bt107.1).bind fun t120 => (if t120 = true then (laws_FnSetBoth.j0 k t101 t102 bt107.1 bt107.2 bt111.1 bt111.2 bt115.1 bt115.2 (!bt107.2)) else (laws_FnSetBoth.j0 k t101 t102 bt107.1 bt107.2 bt111.1 bt111.2 bt115.1 bt115.2 true)))) else (laws_FnSetBoth.j0 k t101 t102 bt107.1 bt107.2 bt111.1 bt111.2 bt115.1 bt115.2 true))))))) = some r:=H
  have A3:=a0z.mk A30
  clear A30
  replace H:=Option.bind_eq_some_iff.mp H
  obtain ⟨⟨t107,t108⟩,A40,H⟩:=H
  replace H : ((spec_SetBoth.f k t101 t102).bind fun bt111 => ((impl_SetBoth.f k t102 t101).bind fun bt115 => (if (t108 != bt111.2) = true then (laws_FnSetBoth.j0 k t101 t102 t107 t108 bt111.1 bt111.2 bt115.1 bt115.2 true) else ((laws_ovBlocks.f k t107 bt111.1).bind fun t119 => (if t119 = true then (if (bt115.2 != t108) = true then (laws_FnSetBoth.j0 k t101 t102 t107 t108 bt111.1 bt111.2 bt115.1 bt115.2 true) else ((laws_ovBlocks.f k bt115.1 t107).bind fun t120 => (if t120 = true then (laws_FnSetBoth.j0 k t101 t102 t107 t108 bt111.1 bt111.2 bt115.1 bt115.2 (!t108)) else (laws_FnSetBoth.j0 k t101 t102 t107 t108 bt111.1 bt111.2 bt115.1 bt115.2 true)))) else (laws_FnSetBoth.j0 k t101 t102 t107 t108 bt111.1 bt111.2 bt115.1 bt115.2 true)))))) = some r:=H
  have A4:=a0z.mk A40
  clear A40
  replace H:=Option.bind_eq_some_iff.mp H
  obtain ⟨⟨t111,t112⟩,A50,H⟩:=H
  replace H : ((impl_SetBoth.f k t102 t101).bind fun bt115 => (if (t108 != t112) = true then (laws_FnSetBoth.j0 k t101 t102 t107 t108 t111 t112 bt115.1 bt115.2 true) else ((laws_ovBlocks.f k t107 t111).bind fun t119 => (if t119 = true then (if (bt115.2 != t108) = true then (laws_FnSetBoth.j0 k t101 t102 t107 t108 t111 t112 bt115.1 bt115.2 true) else ((laws_ovBlocks.f k bt115.1 t107).bind fun t120 => (if t120 = true then (laws_FnSetBoth.j0 k t101 t102 t107 t108 t111 t112 bt115.1 bt115.2 (!t108)) else (laws_FnSetBoth.j0 k t101 t102 t107 t108 t111 t112 bt115.1 bt115.2 true)))) else (laws_FnSetBoth.j0 k t101 t102 t107 t108 t111 t112 bt115.1 bt115.2 true))))) = some r:=H
  have A5:=a0z.mk A50
  clear A50
  replace H:=Option.bind_eq_some_iff.mp H
  obtain ⟨⟨t115,t116⟩,A60,H⟩:=H
  replace H : (if (t108 != t112) = true then (laws_FnSetBoth.j0 k t101 t102 t107 t108 t111 t112 t115 t116 true) else ((laws_ovBlocks.f k t107 t111).bind fun t119 => (if t119 = true then (if (t116 != t108) = true then (laws_FnSetBoth.j0 k t101 t102 t107 t108 t111 t112 t115 t116 true) else ((laws_ovBlocks.f k t115 t107).bind fun t120 => (if t120 = true then (laws_FnSetBoth.j0 k t101 t102 t107 t108 t111 t112 t115 t116 (!t108)) else (laws_FnSetBoth.j0 k t101 t102 t107 t108 t111 t112 t115 t116 true)))) else (laws_FnSetBoth.j0 k t101 t102 t107 t108 t111 t112 t115 t116 true)))) = some r:=H
  have A6:=a0z.mk A60
  clear A60
  have HC7:=a0z.mk H
  clear H
  go_enter Try.func11,Try.ntmps11
  go_upto_region 7 with (first|((with_reducible refine b8z (f:=30) rfl ?_);refine d2z (some 20) rfl rfl Try.func30 (by kernel_rfl) rfl #[.slice A0 l0.length c0] rfl (by (try simp only [List.map_toArray,List.map_cons,List.map_nil]);first|done|rfl|(simp only [List.length_drop,List.length_take];rfl)) ?_;(with_reducible refine (spec_DrawSetBoth.calls k _ _ l0 t101 t102 _ ?side1 ?side2 A3.1).mono ?_);(case side1 => repeat (first|exact HR0.1|(with_reducible refine Kd.C_alloc ?_ _)|(with_reducible refine Kd.C_drewN ?_ _)|(with_reducible refine Kd.C_drew ?_)));(case side2 => exact HC0.1);rintro e w8 ⟨v103,v105,rfl,ho0,ho1,hb⟩;refine ⟨_,rfl,?_⟩;have n0_:=a0z.mk (Kd.d5z ho0 (b1z (by repeat (first|(with_reducible first|exact HB.1|apply a3z|apply a1z|apply a2z)|exact HB.1))));have n1_:=a0z.mk (Kd.d5z ho1 (b1z (by repeat (first|(with_reducible first|exact HB.1|apply a3z|apply a1z|apply a2z)|exact HB.1))));have n2_:=a0z.mk (b3z (by repeat (first|(with_reducible first|exact HB.1|apply a3z|apply a1z|apply a2z)|exact HB.1)) hb);clear HB;have HO104:=n0_;have HO106:=n1_;have HB:=n2_;clear n0_ n1_ n2_;(try clear hb);(try clear hb2);(try clear hk);(try clear hi);(try clear ho0);(try clear ho1);obtain ⟨Ao9,co9,eo9⟩:=Kd.d3z HO104.1;subst eo9;obtain ⟨Ao10,co10,eo10⟩:=Kd.d3z HO106.1;subst eo10)|((with_reducible refine b8z (f:=25) rfl ?_);refine d2z (some 26) rfl rfl Try.func25 (by kernel_rfl) rfl #[.slice Ao9 t101.length co9,.slice Ao10 t102.length co10] rfl (by (try simp only [List.map_toArray,List.map_cons,List.map_nil]);first|done|rfl|(simp only [List.length_drop,List.length_take];rfl)) ?_;(with_reducible refine (impl_SetBoth.calls k _ _ t101 _ _ t102 t107 t108 _ ?side1 ?side2 ?side3 ?side4 A4.1).mono ?_);(case side1 => repeat (first|exact (Kd.b4z HO104.1).2.2|(with_reducible refine Kd.C_alloc ?_ _)|(with_reducible refine Kd.C_drewN ?_ _)|(with_reducible refine Kd.C_drew ?_)));(case side2 => exact (Kd.b4z HO104.1).2.1);(case side3 => repeat (first|exact (Kd.b4z HO106.1).2.2|(with_reducible refine Kd.C_alloc ?_ _)|(with_reducible refine Kd.C_drewN ?_ _)|(with_reducible refine Kd.C_drew ?_)));(case side4 => exact (Kd.b4z HO106.1).2.1);rintro e w11 ⟨v109,rfl,ho0,hb⟩;refine ⟨_,rfl,?_⟩;have n0_:=a0z.mk (Kd.c4z (by (with_reducible repeat (first|apply Kd.R_alloc|apply Kd.a4z|apply Kd.a5z));exact HO104.1) (Kd.d1z ho0) hb);have n1_:=a0z.mk (Kd.c4z (by (with_reducible repeat (first|apply Kd.R_alloc|apply Kd.a4z|apply Kd.a5z));exact HO106.1) (Kd.d1z ho0) hb);have n2_:=a0z.mk (Kd.d5z (Kd.d0z (Kd.d0z ho0 (Kd.R_lt (by (with_reducible repeat (first|apply Kd.R_alloc|apply Kd.a4z|apply Kd.a5z));exact HO104.1))) (Kd.R_lt (by (with_reducible repeat (first|apply Kd.R_alloc|apply Kd.a4z|apply Kd.a5z));exact HO106.1))) (b1z (by repeat (first|(with_reducible first|exact HB.1|apply a3z|apply a1z|apply a2z)|exact HB.1))));have n3_:=a0z.mk (b3z (by repeat (first|(with_reducible first|exact HB.1|apply a3z|apply a1z|apply a2z)|exact HB.1)) hb);clear HO104;clear HO106;clear HB;have HO104:=n0_;have HO106:=n1_;have HO110:=n2_;have HB:=n3_;clear n0_ n1_ n2_ n3_;(try clear hb);(try clear hb2);(try clear hk);(try clear hi);(try clear ho0))|((with_reducible refine b8z (f:=24) rfl ?_);refine d2z (some 32) rfl rfl Try.func24 (by kernel_rfl) rfl #[.slice Ao9 t101.length co9,.slice Ao10 t102.length co10] rfl (by (try simp only [List.map_toArray,List.map_cons,List.map_nil]);first|done|rfl|(simp only [List.length_drop,List.length_take];rfl)) ?_;(with_reducible refine (spec_SetBoth.calls k _ _ t101 _ _ t102 t111 t112 _ ?side1 ?side2 ?side3 ?side4 A5.1).mono ?_);(case side1 => repeat (first|exact (Kd.b4z HO104.1).2.2|(with_reducible refine Kd.C_alloc ?_ _)|(with_reducible refine Kd.C_drewN ?_ _)|(with_reducible refine Kd.C_drew ?_)));(case side2 => exact (Kd.b4z HO104.1).2.1);(case side3 => repeat (first|exact (Kd.b4z HO106.1).2.2|(with_reducible refine Kd.C_alloc ?_ _)|(with_reducible refine Kd.C_drewN ?_ _)|(with_reducible refine Kd.C_drew ?_)));(case side4 => exact (Kd.b4z HO106.1).2.1);rintro e w12 ⟨v113,rfl,ho0,hb⟩;refine ⟨_,rfl,?_⟩;have n0_:=a0z.mk (Kd.c4z (by (with_reducible repeat (first|apply Kd.R_alloc|apply Kd.a4z|apply Kd.a5z));exact HO104.1) (Kd.d1z ho0) hb);have n1_:=a0z.mk (Kd.c4z (by (with_reducible repeat (first|apply Kd.R_alloc|apply Kd.a4z|apply Kd.a5z));exact HO106.1) (Kd.d1z ho0) hb);have n2_:=a0z.mk (Kd.c4z (by (with_reducible repeat (first|apply Kd.R_alloc|apply Kd.a4z|apply Kd.a5z));exact HO110.1) (Kd.d1z ho0) hb);have n3_:=a0z.mk (Kd.d5z (Kd.d0z (Kd.d0z (Kd.d0z ho0 (Kd.R_lt (by (with_reducible repeat (first|apply Kd.R_alloc|apply Kd.a4z|apply Kd.a5z));exact HO104.1))) (Kd.R_lt (by (with_reducible repeat (first|apply Kd.R_alloc|apply Kd.a4z|apply Kd.a5z));exact HO106.1))) (Kd.R_lt (by (with_reducible repeat (first|apply Kd.R_alloc|apply Kd.a4z|apply Kd.a5z));exact HO110.1))) (b1z (by repeat (first|(with_reducible first|exact HB.1|apply a3z|apply a1z|apply a2z)|exact HB.1))));have n4_:=a0z.mk (b3z (by repeat (first|(with_reducible first|exact HB.1|apply a3z|apply a1z|apply a2z)|exact HB.1)) hb);clear HO104;clear HO106;clear HO110;clear HB;have HO104:=n0_;have HO106:=n1_;have HO110:=n2_;have HO114:=n3_;have HB:=n4_;clear n0_ n1_ n2_ n3_ n4_;(try clear hb);(try clear hb2);(try clear hk);(try clear hi);(try clear ho0))|((with_reducible refine b8z (f:=25) rfl ?_);refine d2z (some 38) rfl rfl Try.func25 (by kernel_rfl) rfl #[.slice Ao10 t102.length co10,.slice Ao9 t101.length co9] rfl (by (try simp only [List.map_toArray,List.map_cons,List.map_nil]);first|done|rfl|(simp only [List.length_drop,List.length_take];rfl)) ?_;(with_reducible refine (impl_SetBoth.calls k _ _ t102 _ _ t101 t115 t116 _ ?side1 ?side2 ?side3 ?side4 A6.1).mono ?_);(case side1 => repeat (first|exact (Kd.b4z HO106.1).2.2|(with_reducible refine Kd.C_alloc ?_ _)|(with_reducible refine Kd.C_drewN ?_ _)|(with_reducible refine Kd.C_drew ?_)));(case side2 => exact (Kd.b4z HO106.1).2.1);(case side3 => repeat (first|exact (Kd.b4z HO104.1).2.2|(with_reducible refine Kd.C_alloc ?_ _)|(with_reducible refine Kd.C_drewN ?_ _)|(with_reducible refine Kd.C_drew ?_)));(case side4 => exact (Kd.b4z HO104.1).2.1);rintro e w13 ⟨v117,rfl,ho0,hb⟩;refine ⟨_,rfl,?_⟩;have n0_:=a0z.mk (Kd.c4z (by (with_reducible repeat (first|apply Kd.R_alloc|apply Kd.a4z|apply Kd.a5z));exact HO104.1) (Kd.d1z ho0) hb);have n1_:=a0z.mk (Kd.c4z (by (with_reducible repeat (first|apply Kd.R_alloc|apply Kd.a4z|apply Kd.a5z));exact HO106.1) (Kd.d1z ho0) hb);have n2_:=a0z.mk (Kd.c4z (by (with_reducible repeat (first|apply Kd.R_alloc|apply Kd.a4z|apply Kd.a5z));exact HO110.1) (Kd.d1z ho0) hb);have n3_:=a0z.mk (Kd.c4z (by (with_reducible repeat (first|apply Kd.R_alloc|apply Kd.a4z|apply Kd.a5z));exact HO114.1) (Kd.d1z ho0) hb);have n4_:=a0z.mk (Kd.d5z (Kd.d0z (Kd.d0z (Kd.d0z (Kd.d0z ho0 (Kd.R_lt (by (with_reducible repeat (first|apply Kd.R_alloc|apply Kd.a4z|apply Kd.a5z));exact HO104.1))) (Kd.R_lt (by (with_reducible repeat (first|apply Kd.R_alloc|apply Kd.a4z|apply Kd.a5z));exact HO106.1))) (Kd.R_lt (by (with_reducible repeat (first|apply Kd.R_alloc|apply Kd.a4z|apply Kd.a5z));exact HO110.1))) (Kd.R_lt (by (with_reducible repeat (first|apply Kd.R_alloc|apply Kd.a4z|apply Kd.a5z));exact HO114.1))) (b1z (by repeat (first|(with_reducible first|exact HB.1|apply a3z|apply a1z|apply a2z)|exact HB.1))));have n5_:=a0z.mk (b3z (by repeat (first|(with_reducible first|exact HB.1|apply a3z|apply a1z|apply a2z)|exact HB.1)) hb);clear HO104;clear HO106;clear HO110;clear HO114;clear HB;have HO104:=n0_;have HO106:=n1_;have HO110:=n2_;have HO114:=n3_;have HO118:=n4_;have HB:=n5_;clear n0_ n1_ n2_ n3_ n4_ n5_;(try clear hb);(try clear hb2);(try clear hk);(try clear hi);(try clear ho0)))
  (try simp only [Act.put,sA_,sZ_,sS_])
  go_cut [64] (fun v64 wc => ∃ (kq : Nat) (x64_6 : Bool),v64 = .bool x64_6 ∧ a0z (laws_FnSetBoth.j0 kq t101 t102 t107 t108 t111 t112 t115 t116 x64_6 = some r) ∧ a0z (kq ≤ k) ∧ a0z (Kd.R k44 44 wc w.heap.size (fun k_ => some k_ ≠ ((.slice Ao10 t102.length co10) : Value).ownBlock ∧ some k_ ≠ (v109 : Value).ownBlock ∧ some k_ ≠ (v113 : Value).ownBlock ∧ some k_ ≠ (v117 : Value).ownBlock) (.slice Ao9 t101.length co9) t101) ∧ a0z (Kd.R k44 44 wc w.heap.size (fun k_ => some k_ ≠ ((.slice Ao9 t101.length co9) : Value).ownBlock ∧ some k_ ≠ (v109 : Value).ownBlock ∧ some k_ ≠ (v113 : Value).ownBlock ∧ some k_ ≠ (v117 : Value).ownBlock) (.slice Ao10 t102.length co10) t102) ∧ a0z (Kd.R k44 44 wc w.heap.size (fun k_ => some k_ ≠ ((.slice Ao9 t101.length co9) : Value).ownBlock ∧ some k_ ≠ ((.slice Ao10 t102.length co10) : Value).ownBlock ∧ some k_ ≠ (v113 : Value).ownBlock ∧ some k_ ≠ (v117 : Value).ownBlock) v109 t107) ∧ a0z (Kd.R k44 44 wc w.heap.size (fun k_ => some k_ ≠ ((.slice Ao9 t101.length co9) : Value).ownBlock ∧ some k_ ≠ ((.slice Ao10 t102.length co10) : Value).ownBlock ∧ some k_ ≠ (v109 : Value).ownBlock ∧ some k_ ≠ (v117 : Value).ownBlock) v113 t111) ∧ a0z (Kd.R k44 44 wc w.heap.size (fun k_ => some k_ ≠ ((.slice Ao9 t101.length co9) : Value).ownBlock ∧ some k_ ≠ ((.slice Ao10 t102.length co10) : Value).ownBlock ∧ some k_ ≠ (v109 : Value).ownBlock ∧ some k_ ≠ (v113 : Value).ownBlock) v117 t115) ∧ a0z (Below w.heap.size w wc))
  case first =>
   have H:=HC7.1
   clear HC7
   by_cases c14 : (t108 != t112) = true
   ·rw [if_pos c14] at H
    have c14b0 : (t108 != t112) = true:=c14
    (try (have c14b1 : decide (t108 = t112) = false:=by simpa using c14))
    (try (have c14b2 : (t108 == t112) = false:=by simpa using c14))
    (try (have c14b3 : ¬ (t108 = t112):=by simpa using c14))
    clear c14
    (first|rw [c14b0]|(simp only [i64_w,i32_w];rw [c14b0])|skip)
    have H':=a0z.mk H
    clear H
    go_wp2
    go_meet
    case rel => exact ⟨_,(true),(by first|rfl|(simp;done)|(simp [*];done)),H',⟨by first|omega|exact Nat.le_refl _⟩,⟨by (with_reducible repeat (first|apply Kd.R_alloc|apply Kd.a4z|apply Kd.a5z));exact Kd.b5z HO104.1 (fun _ hk => ⟨hk.1.1.1,⟨hk.1.1.2,⟨hk.1.2,hk.2⟩⟩⟩)⟩,⟨by (with_reducible repeat (first|apply Kd.R_alloc|apply Kd.a4z|apply Kd.a5z));exact Kd.b5z HO106.1 (fun _ hk => ⟨hk.1.1.1,⟨hk.1.1.2,⟨hk.1.2,hk.2⟩⟩⟩)⟩,⟨by (with_reducible repeat (first|apply Kd.R_alloc|apply Kd.a4z|apply Kd.a5z));exact Kd.b5z HO110.1 (fun _ hk => ⟨hk.1.1.1.2,⟨hk.1.1.2,⟨hk.1.2,hk.2⟩⟩⟩)⟩,⟨by (with_reducible repeat (first|apply Kd.R_alloc|apply Kd.a4z|apply Kd.a5z));exact Kd.b5z HO114.1 (fun _ hk => ⟨hk.1.1.1.2,⟨hk.1.1.2,⟨hk.1.2,hk.2⟩⟩⟩)⟩,⟨by (with_reducible repeat (first|apply Kd.R_alloc|apply Kd.a4z|apply Kd.a5z));exact Kd.b5z HO118.1 (fun _ hk => ⟨hk.1.1.1.2,⟨hk.1.1.2,⟨hk.1.2,hk.2⟩⟩⟩)⟩,⟨by repeat (first|(with_reducible first|exact HB.1|apply a3z|apply a1z|apply a2z)|exact HB.1)⟩⟩
   ·rw [if_neg c14] at H
    have c14b0 : (t108 != t112) = false:=by simpa using c14
    (try (have c14b1 : decide (t108 = t112) = true:=by simpa using c14))
    (try (have c14b2 : (t108 == t112) = true:=by simpa using c14))
    clear c14
    (first|rw [c14b0]|(simp only [i64_w,i32_w];rw [c14b0])|skip)
    replace H:=Option.bind_eq_some_iff.mp H
    obtain ⟨t119,A150,H⟩:=H
    replace H : (if t119 = true then (if (t116 != t108) = true then (laws_FnSetBoth.j0 k t101 t102 t107 t108 t111 t112 t115 t116 true) else ((laws_ovBlocks.f k t115 t107).bind fun t120 => (if t120 = true then (laws_FnSetBoth.j0 k t101 t102 t107 t108 t111 t112 t115 t116 (!t108)) else (laws_FnSetBoth.j0 k t101 t102 t107 t108 t111 t112 t115 t116 true)))) else (laws_FnSetBoth.j0 k t101 t102 t107 t108 t111 t112 t115 t116 true)) = some r:=H
    have A15:=a0z.mk A150
    clear A150
    by_cases c16 : t119 = true
    ·subst c16
     have H1 : (if (t116 != t108) = true then (laws_FnSetBoth.j0 k t101 t102 t107 t108 t111 t112 t115 t116 true) else ((laws_ovBlocks.f k t115 t107).bind fun t120 => (if t120 = true then (laws_FnSetBoth.j0 k t101 t102 t107 t108 t111 t112 t115 t116 (!t108)) else (laws_FnSetBoth.j0 k t101 t102 t107 t108 t111 t112 t115 t116 true)))) = some r:=by rw [if_pos rfl] at H;exact H
     clear H
     have H:=H1
     clear H1
     by_cases c17 : (t116 != t108) = true
     ·rw [if_pos c17] at H
      have c17b0 : (t116 != t108) = true:=c17
      (try (have c17b1 : decide (t116 = t108) = false:=by simpa using c17))
      (try (have c17b2 : (t116 == t108) = false:=by simpa using c17))
      (try (have c17b3 : ¬ (t116 = t108):=by simpa using c17))
      clear c17
      have H':=a0z.mk H
      clear H
      obtain ⟨Ao18,co18,eo18⟩:=Kd.d3z HO110.1
      subst eo18
      obtain ⟨Ao19,co19,eo19⟩:=Kd.d3z HO114.1
      subst eo19
      go_wp2_with (first|(go_at_call 29;(with_reducible refine (laws_ovBlocks.calls k _ _ t107 _ _ t111 true _ ?side1 ?side2 ?side3 ?side4 A15.1).mono ?_);(case side1 => repeat (first|exact (Kd.b4z HO110.1).2.2|(with_reducible refine Kd.C_alloc ?_ _)|(with_reducible refine Kd.C_drewN ?_ _)|(with_reducible refine Kd.C_drew ?_)));(case side2 => exact (Kd.b4z HO110.1).2.1);(case side3 => repeat (first|exact (Kd.b4z HO114.1).2.2|(with_reducible refine Kd.C_alloc ?_ _)|(with_reducible refine Kd.C_drewN ?_ _)|(with_reducible refine Kd.C_drew ?_)));(case side4 => exact (Kd.b4z HO114.1).2.1);rintro e w' ⟨rfl,⟨nd,rfl⟩⟩))
      go_meet
      case rel => exact ⟨_,(true),(by first|rfl|(simp;done)|(simp [*];done)),H',⟨by first|omega|exact Nat.le_refl _⟩,⟨by (with_reducible repeat (first|apply Kd.R_alloc|apply Kd.a4z|apply Kd.a5z));exact Kd.b5z HO104.1 (fun _ hk => ⟨hk.1.1.1,⟨hk.1.1.2,⟨hk.1.2,hk.2⟩⟩⟩)⟩,⟨by (with_reducible repeat (first|apply Kd.R_alloc|apply Kd.a4z|apply Kd.a5z));exact Kd.b5z HO106.1 (fun _ hk => ⟨hk.1.1.1,⟨hk.1.1.2,⟨hk.1.2,hk.2⟩⟩⟩)⟩,⟨by (with_reducible repeat (first|apply Kd.R_alloc|apply Kd.a4z|apply Kd.a5z));exact Kd.b5z HO110.1 (fun _ hk => ⟨hk.1.1.1.2,⟨hk.1.1.2,⟨hk.1.2,hk.2⟩⟩⟩)⟩,⟨by (with_reducible repeat (first|apply Kd.R_alloc|apply Kd.a4z|apply Kd.a5z));exact Kd.b5z HO114.1 (fun _ hk => ⟨hk.1.1.1.2,⟨hk.1.1.2,⟨hk.1.2,hk.2⟩⟩⟩)⟩,⟨by (with_reducible repeat (first|apply Kd.R_alloc|apply Kd.a4z|apply Kd.a5z));exact Kd.b5z HO118.1 (fun _ hk => ⟨hk.1.1.1.2,⟨hk.1.1.2,⟨hk.1.2,hk.2⟩⟩⟩)⟩,⟨by repeat (first|(with_reducible first|exact HB.1|apply a3z|apply a1z|apply a2z)|exact HB.1)⟩⟩
     ·rw [if_neg c17] at H
      have c17b0 : (t116 != t108) = false:=by simpa using c17
      (try (have c17b1 : decide (t116 = t108) = true:=by simpa using c17))
      (try (have c17b2 : (t116 == t108) = true:=by simpa using c17))
      clear c17
      replace H:=Option.bind_eq_some_iff.mp H
      obtain ⟨t120,A200,H⟩:=H
      replace H : (if t120 = true then (laws_FnSetBoth.j0 k t101 t102 t107 t108 t111 t112 t115 t116 (!t108)) else (laws_FnSetBoth.j0 k t101 t102 t107 t108 t111 t112 t115 t116 true)) = some r:=H
      have A20:=a0z.mk A200
      clear A200
      by_cases c21 : t120 = true
      ·subst c21
       have H1 : (laws_FnSetBoth.j0 k t101 t102 t107 t108 t111 t112 t115 t116 (!t108)) = some r:=by rw [if_pos rfl] at H;exact H
       clear H
       have H:=H1
       clear H1
       have H':=a0z.mk H
       clear H
       obtain ⟨Ao22,co22,eo22⟩:=Kd.d3z HO110.1
       subst eo22
       obtain ⟨Ao23,co23,eo23⟩:=Kd.d3z HO114.1
       subst eo23
       go_wp2_with (first|(go_at_call 29;(with_reducible refine (laws_ovBlocks.calls k _ _ t107 _ _ t111 true _ ?side1 ?side2 ?side3 ?side4 A15.1).mono ?_);(case side1 => repeat (first|exact (Kd.b4z HO110.1).2.2|(with_reducible refine Kd.C_alloc ?_ _)|(with_reducible refine Kd.C_drewN ?_ _)|(with_reducible refine Kd.C_drew ?_)));(case side2 => exact (Kd.b4z HO110.1).2.1);(case side3 => repeat (first|exact (Kd.b4z HO114.1).2.2|(with_reducible refine Kd.C_alloc ?_ _)|(with_reducible refine Kd.C_drewN ?_ _)|(with_reducible refine Kd.C_drew ?_)));(case side4 => exact (Kd.b4z HO114.1).2.1);rintro e w' ⟨rfl,⟨nd,rfl⟩⟩;obtain ⟨Ao24,co24,eo24⟩:=Kd.d3z HO118.1;subst eo24)|(go_at_call 29;(with_reducible refine (laws_ovBlocks.calls k _ _ t115 _ _ t107 true _ ?side1 ?side2 ?side3 ?side4 A20.1).mono ?_);(case side1 => repeat (first|exact (Kd.b4z HO118.1).2.2|(with_reducible refine Kd.C_alloc ?_ _)|(with_reducible refine Kd.C_drewN ?_ _)|(with_reducible refine Kd.C_drew ?_)));(case side2 => exact (Kd.b4z HO118.1).2.1);(case side3 => repeat (first|exact (Kd.b4z HO110.1).2.2|(with_reducible refine Kd.C_alloc ?_ _)|(with_reducible refine Kd.C_drewN ?_ _)|(with_reducible refine Kd.C_drew ?_)));(case side4 => exact (Kd.b4z HO110.1).2.1);rintro e w' ⟨rfl,⟨nd,rfl⟩⟩))
       go_meet
       case rel => exact ⟨_,(!t108),(by first|rfl|(simp;done)|(simp [*];done)),H',⟨by first|omega|exact Nat.le_refl _⟩,⟨by (with_reducible repeat (first|apply Kd.R_alloc|apply Kd.a4z|apply Kd.a5z));exact Kd.b5z HO104.1 (fun _ hk => ⟨hk.1.1.1,⟨hk.1.1.2,⟨hk.1.2,hk.2⟩⟩⟩)⟩,⟨by (with_reducible repeat (first|apply Kd.R_alloc|apply Kd.a4z|apply Kd.a5z));exact Kd.b5z HO106.1 (fun _ hk => ⟨hk.1.1.1,⟨hk.1.1.2,⟨hk.1.2,hk.2⟩⟩⟩)⟩,⟨by (with_reducible repeat (first|apply Kd.R_alloc|apply Kd.a4z|apply Kd.a5z));exact Kd.b5z HO110.1 (fun _ hk => ⟨hk.1.1.1.2,⟨hk.1.1.2,⟨hk.1.2,hk.2⟩⟩⟩)⟩,⟨by (with_reducible repeat (first|apply Kd.R_alloc|apply Kd.a4z|apply Kd.a5z));exact Kd.b5z HO114.1 (fun _ hk => ⟨hk.1.1.1.2,⟨hk.1.1.2,⟨hk.1.2,hk.2⟩⟩⟩)⟩,⟨by (with_reducible repeat (first|apply Kd.R_alloc|apply Kd.a4z|apply Kd.a5z));exact Kd.b5z HO118.1 (fun _ hk => ⟨hk.1.1.1.2,⟨hk.1.1.2,⟨hk.1.2,hk.2⟩⟩⟩)⟩,⟨by repeat (first|(with_reducible first|exact HB.1|apply a3z|apply a1z|apply a2z)|exact HB.1)⟩⟩
      ·replace c21:=Bool.eq_false_iff.mpr c21
       subst c21
       have H1 : (laws_FnSetBoth.j0 k t101 t102 t107 t108 t111 t112 t115 t116 true) = some r:=by rw [if_neg (show ¬ (false = true) by decide)] at H;exact H
       clear H
       have H:=H1
       clear H1
       have H':=a0z.mk H
       clear H
       obtain ⟨Ao25,co25,eo25⟩:=Kd.d3z HO110.1
       subst eo25
       obtain ⟨Ao26,co26,eo26⟩:=Kd.d3z HO114.1
       subst eo26
       go_wp2_with (first|(go_at_call 29;(with_reducible refine (laws_ovBlocks.calls k _ _ t107 _ _ t111 true _ ?side1 ?side2 ?side3 ?side4 A15.1).mono ?_);(case side1 => repeat (first|exact (Kd.b4z HO110.1).2.2|(with_reducible refine Kd.C_alloc ?_ _)|(with_reducible refine Kd.C_drewN ?_ _)|(with_reducible refine Kd.C_drew ?_)));(case side2 => exact (Kd.b4z HO110.1).2.1);(case side3 => repeat (first|exact (Kd.b4z HO114.1).2.2|(with_reducible refine Kd.C_alloc ?_ _)|(with_reducible refine Kd.C_drewN ?_ _)|(with_reducible refine Kd.C_drew ?_)));(case side4 => exact (Kd.b4z HO114.1).2.1);rintro e w' ⟨rfl,⟨nd,rfl⟩⟩;obtain ⟨Ao27,co27,eo27⟩:=Kd.d3z HO118.1;subst eo27)|(go_at_call 29;(with_reducible refine (laws_ovBlocks.calls k _ _ t115 _ _ t107 false _ ?side1 ?side2 ?side3 ?side4 A20.1).mono ?_);(case side1 => repeat (first|exact (Kd.b4z HO118.1).2.2|(with_reducible refine Kd.C_alloc ?_ _)|(with_reducible refine Kd.C_drewN ?_ _)|(with_reducible refine Kd.C_drew ?_)));(case side2 => exact (Kd.b4z HO118.1).2.1);(case side3 => repeat (first|exact (Kd.b4z HO110.1).2.2|(with_reducible refine Kd.C_alloc ?_ _)|(with_reducible refine Kd.C_drewN ?_ _)|(with_reducible refine Kd.C_drew ?_)));(case side4 => exact (Kd.b4z HO110.1).2.1);rintro e w' ⟨rfl,⟨nd,rfl⟩⟩))
       go_meet
       case rel => exact ⟨_,(true),(by first|rfl|(simp;done)|(simp [*];done)),H',⟨by first|omega|exact Nat.le_refl _⟩,⟨by (with_reducible repeat (first|apply Kd.R_alloc|apply Kd.a4z|apply Kd.a5z));exact Kd.b5z HO104.1 (fun _ hk => ⟨hk.1.1.1,⟨hk.1.1.2,⟨hk.1.2,hk.2⟩⟩⟩)⟩,⟨by (with_reducible repeat (first|apply Kd.R_alloc|apply Kd.a4z|apply Kd.a5z));exact Kd.b5z HO106.1 (fun _ hk => ⟨hk.1.1.1,⟨hk.1.1.2,⟨hk.1.2,hk.2⟩⟩⟩)⟩,⟨by (with_reducible repeat (first|apply Kd.R_alloc|apply Kd.a4z|apply Kd.a5z));exact Kd.b5z HO110.1 (fun _ hk => ⟨hk.1.1.1.2,⟨hk.1.1.2,⟨hk.1.2,hk.2⟩⟩⟩)⟩,⟨by (with_reducible repeat (first|apply Kd.R_alloc|apply Kd.a4z|apply Kd.a5z));exact Kd.b5z HO114.1 (fun _ hk => ⟨hk.1.1.1.2,⟨hk.1.1.2,⟨hk.1.2,hk.2⟩⟩⟩)⟩,⟨by (with_reducible repeat (first|apply Kd.R_alloc|apply Kd.a4z|apply Kd.a5z));exact Kd.b5z HO118.1 (fun _ hk => ⟨hk.1.1.1.2,⟨hk.1.1.2,⟨hk.1.2,hk.2⟩⟩⟩)⟩,⟨by repeat (first|(with_reducible first|exact HB.1|apply a3z|apply a1z|apply a2z)|exact HB.1)⟩⟩
    ·replace c16:=Bool.eq_false_iff.mpr c16
     subst c16
     have H1 : (laws_FnSetBoth.j0 k t101 t102 t107 t108 t111 t112 t115 t116 true) = some r:=by rw [if_neg (show ¬ (false = true) by decide)] at H;exact H
     clear H
     have H:=H1
     clear H1
     have H':=a0z.mk H
     clear H
     obtain ⟨Ao28,co28,eo28⟩:=Kd.d3z HO110.1
     subst eo28
     obtain ⟨Ao29,co29,eo29⟩:=Kd.d3z HO114.1
     subst eo29
     go_wp2_with (first|(go_at_call 29;(with_reducible refine (laws_ovBlocks.calls k _ _ t107 _ _ t111 false _ ?side1 ?side2 ?side3 ?side4 A15.1).mono ?_);(case side1 => repeat (first|exact (Kd.b4z HO110.1).2.2|(with_reducible refine Kd.C_alloc ?_ _)|(with_reducible refine Kd.C_drewN ?_ _)|(with_reducible refine Kd.C_drew ?_)));(case side2 => exact (Kd.b4z HO110.1).2.1);(case side3 => repeat (first|exact (Kd.b4z HO114.1).2.2|(with_reducible refine Kd.C_alloc ?_ _)|(with_reducible refine Kd.C_drewN ?_ _)|(with_reducible refine Kd.C_drew ?_)));(case side4 => exact (Kd.b4z HO114.1).2.1);rintro e w' ⟨rfl,⟨nd,rfl⟩⟩))
     go_meet
     case rel => exact ⟨_,(true),(by first|rfl|(simp;done)|(simp [*];done)),H',⟨by first|omega|exact Nat.le_refl _⟩,⟨by (with_reducible repeat (first|apply Kd.R_alloc|apply Kd.a4z|apply Kd.a5z));exact Kd.b5z HO104.1 (fun _ hk => ⟨hk.1.1.1,⟨hk.1.1.2,⟨hk.1.2,hk.2⟩⟩⟩)⟩,⟨by (with_reducible repeat (first|apply Kd.R_alloc|apply Kd.a4z|apply Kd.a5z));exact Kd.b5z HO106.1 (fun _ hk => ⟨hk.1.1.1,⟨hk.1.1.2,⟨hk.1.2,hk.2⟩⟩⟩)⟩,⟨by (with_reducible repeat (first|apply Kd.R_alloc|apply Kd.a4z|apply Kd.a5z));exact Kd.b5z HO110.1 (fun _ hk => ⟨hk.1.1.1.2,⟨hk.1.1.2,⟨hk.1.2,hk.2⟩⟩⟩)⟩,⟨by (with_reducible repeat (first|apply Kd.R_alloc|apply Kd.a4z|apply Kd.a5z));exact Kd.b5z HO114.1 (fun _ hk => ⟨hk.1.1.1.2,⟨hk.1.1.2,⟨hk.1.2,hk.2⟩⟩⟩)⟩,⟨by (with_reducible repeat (first|apply Kd.R_alloc|apply Kd.a4z|apply Kd.a5z));exact Kd.b5z HO118.1 (fun _ hk => ⟨hk.1.1.1.2,⟨hk.1.1.2,⟨hk.1.2,hk.2⟩⟩⟩)⟩,⟨by repeat (first|(with_reducible first|exact HB.1|apply a3z|apply a1z|apply a2z)|exact HB.1)⟩⟩
  case rest =>
   clear HC7
   try clear c1
   try clear c2
   try clear c2b0
   try clear c2b1
   try clear p2
   try clear c3
   try clear c11
   try clear c14
   try clear c14b0
   try clear c14b1
   try clear c14b2
   try clear c16
   try clear c17
   try clear c17b0
   try clear c17b1
   try clear c17b2
   try clear c21
   try clear c24
   try clear c25
   obtain ⟨kq,x64_6,rfl,HA,HJ6,HO_3,HO_4,HO_5,HO_7,HO_9,HB⟩:=hcut
   cases kq with
   | zero => exact absurd HA.1 (by simp [laws_FnSetBoth.j0])
   | succ kj6 =>
    have H:=HA.1
    clear HA
    simp only [laws_FnSetBoth.j0] at H
    by_cases c30 : x64_6 = true
    ·subst c30
     have H1 : (if (t108 == t112) = true then ((laws_ovBlocks.f kj6 t107 t111).bind fun t121 => (if t121 = true then (if (t116 == t108) = true then ((laws_ovBlocks.f kj6 t115 t107).bind fun t122 => (some t122)) else (some false)) else (some false))) else (some false)) = some r:=by rw [if_pos rfl] at H;exact H
     clear H
     have H:=H1
     clear H1
     by_cases c31 : (t108 == t112) = true
     ·rw [if_pos c31] at H
      have c31b0 : (t108 == t112) = true:=c31
      (try (have c31b1 : decide (t108 = t112) = true:=by simpa using c31))
      (try (have c31b2 : (t108 == t112) = true:=by simpa using c31))
      clear c31
      replace H:=Option.bind_eq_some_iff.mp H
      obtain ⟨t121,A320,H⟩:=H
      replace H : (if t121 = true then (if (t116 == t108) = true then ((laws_ovBlocks.f kj6 t115 t107).bind fun t122 => (some t122)) else (some false)) else (some false)) = some r:=H
      have A32:=a0z.mk A320
      clear A320
      by_cases c33 : t121 = true
      ·subst c33
       have H1 : (if (t116 == t108) = true then ((laws_ovBlocks.f kj6 t115 t107).bind fun t122 => (some t122)) else (some false)) = some r:=by rw [if_pos rfl] at H;exact H
       clear H
       have H:=H1
       clear H1
       by_cases c34 : (t116 == t108) = true
       ·rw [if_pos c34] at H
        have c34b0 : (t116 == t108) = true:=c34
        (try (have c34b1 : decide (t116 = t108) = true:=by simpa using c34))
        (try (have c34b2 : (t116 == t108) = true:=by simpa using c34))
        clear c34
        replace H:=Option.bind_eq_some_iff.mp H
        obtain ⟨t122,A350,H⟩:=H
        replace H : (some t122) = some r:=H
        have A35:=a0z.mk A350
        clear A350
        obtain rfl:=Option.some.inj H
        obtain ⟨Ao36,co36,eo36⟩:=Kd.d3z HO_5.1
        subst eo36
        obtain ⟨Ao37,co37,eo37⟩:=Kd.d3z HO_7.1
        subst eo37
        go_wp2_with (first|(go_at_call 29;(with_reducible refine (laws_ovBlocks.calls kj6 _ _ t107 _ _ t111 true _ ?side1 ?side2 ?side3 ?side4 A32.1).mono ?_);(case side1 => repeat (first|exact (Kd.b4z HO_5.1).2.2|(with_reducible refine Kd.C_alloc ?_ _)|(with_reducible refine Kd.C_drewN ?_ _)|(with_reducible refine Kd.C_drew ?_)));(case side2 => exact (Kd.b4z HO_5.1).2.1);(case side3 => repeat (first|exact (Kd.b4z HO_7.1).2.2|(with_reducible refine Kd.C_alloc ?_ _)|(with_reducible refine Kd.C_drewN ?_ _)|(with_reducible refine Kd.C_drew ?_)));(case side4 => exact (Kd.b4z HO_7.1).2.1);rintro e w' ⟨rfl,⟨nd,rfl⟩⟩;obtain ⟨Ao38,co38,eo38⟩:=Kd.d3z HO_9.1;subst eo38)|(go_at_call 29;(with_reducible refine (laws_ovBlocks.calls kj6 _ _ t115 _ _ t107 t122 _ ?side1 ?side2 ?side3 ?side4 A35.1).mono ?_);(case side1 => repeat (first|exact (Kd.b4z HO_9.1).2.2|(with_reducible refine Kd.C_alloc ?_ _)|(with_reducible refine Kd.C_drewN ?_ _)|(with_reducible refine Kd.C_drew ?_)));(case side2 => exact (Kd.b4z HO_9.1).2.1);(case side3 => repeat (first|exact (Kd.b4z HO_5.1).2.2|(with_reducible refine Kd.C_alloc ?_ _)|(with_reducible refine Kd.C_drewN ?_ _)|(with_reducible refine Kd.C_drew ?_)));(case side4 => exact (Kd.b4z HO_5.1).2.1);rintro e w' ⟨rfl,⟨nd,rfl⟩⟩))
        go_ret
        exact ⟨by first|rfl|(simp [c2z,c1z] <;> rfl)|(simp [*,c2z,c1z] <;> rfl),by repeat (first|(with_reducible first|exact HB.1|apply a3z|apply a1z|apply a2z)|exact HB.1)⟩
       ·rw [if_neg c34] at H
        have c34b0 : (t116 == t108) = false:=by simpa using c34
        (try (have c34b1 : decide (t116 = t108) = false:=by simpa using c34))
        (try (have c34b2 : (t116 == t108) = false:=by simpa using c34))
        (try (have c34b3 : ¬ (t116 = t108):=by simpa using c34))
        clear c34
        obtain rfl:=Option.some.inj H
        obtain ⟨Ao39,co39,eo39⟩:=Kd.d3z HO_5.1
        subst eo39
        obtain ⟨Ao40,co40,eo40⟩:=Kd.d3z HO_7.1
        subst eo40
        go_wp2_with (first|(go_at_call 29;(with_reducible refine (laws_ovBlocks.calls kj6 _ _ t107 _ _ t111 true _ ?side1 ?side2 ?side3 ?side4 A32.1).mono ?_);(case side1 => repeat (first|exact (Kd.b4z HO_5.1).2.2|(with_reducible refine Kd.C_alloc ?_ _)|(with_reducible refine Kd.C_drewN ?_ _)|(with_reducible refine Kd.C_drew ?_)));(case side2 => exact (Kd.b4z HO_5.1).2.1);(case side3 => repeat (first|exact (Kd.b4z HO_7.1).2.2|(with_reducible refine Kd.C_alloc ?_ _)|(with_reducible refine Kd.C_drewN ?_ _)|(with_reducible refine Kd.C_drew ?_)));(case side4 => exact (Kd.b4z HO_7.1).2.1);rintro e w' ⟨rfl,⟨nd,rfl⟩⟩))
        go_ret
        exact ⟨by first|rfl|(simp [c2z,c1z] <;> rfl)|(simp [*,c2z,c1z] <;> rfl),by repeat (first|(with_reducible first|exact HB.1|apply a3z|apply a1z|apply a2z)|exact HB.1)⟩
      ·replace c33:=Bool.eq_false_iff.mpr c33
       subst c33
       have H1 : (some false) = some r:=by rw [if_neg (show ¬ (false = true) by decide)] at H;exact H
       clear H
       have H:=H1
       clear H1
       obtain rfl:=Option.some.inj H
       obtain ⟨Ao41,co41,eo41⟩:=Kd.d3z HO_5.1
       subst eo41
       obtain ⟨Ao42,co42,eo42⟩:=Kd.d3z HO_7.1
       subst eo42
       go_wp2_with (first|(go_at_call 29;(with_reducible refine (laws_ovBlocks.calls kj6 _ _ t107 _ _ t111 false _ ?side1 ?side2 ?side3 ?side4 A32.1).mono ?_);(case side1 => repeat (first|exact (Kd.b4z HO_5.1).2.2|(with_reducible refine Kd.C_alloc ?_ _)|(with_reducible refine Kd.C_drewN ?_ _)|(with_reducible refine Kd.C_drew ?_)));(case side2 => exact (Kd.b4z HO_5.1).2.1);(case side3 => repeat (first|exact (Kd.b4z HO_7.1).2.2|(with_reducible refine Kd.C_alloc ?_ _)|(with_reducible refine Kd.C_drewN ?_ _)|(with_reducible refine Kd.C_drew ?_)));(case side4 => exact (Kd.b4z HO_7.1).2.1);rintro e w' ⟨rfl,⟨nd,rfl⟩⟩))
       go_ret
       exact ⟨by first|rfl|(simp [c2z,c1z] <;> rfl)|(simp [*,c2z,c1z] <;> rfl),by repeat (first|(with_reducible first|exact HB.1|apply a3z|apply a1z|apply a2z)|exact HB.1)⟩
     ·rw [if_neg c31] at H
      have c31b0 : (t108 == t112) = false:=by simpa using c31
      (try (have c31b1 : decide (t108 = t112) = false:=by simpa using c31))
      (try (have c31b2 : (t108 == t112) = false:=by simpa using c31))
      (try (have c31b3 : ¬ (t108 = t112):=by simpa using c31))
      clear c31
      obtain rfl:=Option.some.inj H
      go_wp2
      go_ret
      exact ⟨by first|rfl|(simp [c2z,c1z] <;> rfl)|(simp [*,c2z,c1z] <;> rfl),by repeat (first|(with_reducible first|exact HB.1|apply a3z|apply a1z|apply a2z)|exact HB.1)⟩
    ·replace c30:=Bool.eq_false_iff.mpr c30
     subst c30
     have H1 : ((impl_SetLess.f kj6 t101 t102).bind fun bt123 => (if bt123.2 = true then ((some (([] : List (S44)) : List (S44))).bind fun y128 => (if y128.length + t107.length < 8796093022208 then ((some (y128 ++ t107 : List (S44))).bind fun y131 => (if y131.length + bt123.1.length < 8796093022208 then ((impl_SetOf.f kj6 (y131 ++ bt123.1)).bind fun bt137 => ((impl_SetOk.f kj6 t107).bind fun t141 => (if t141 = true then ((impl_SetOk.f kj6 bt123.1).bind fun t142 => (if t142 = true then (if bt137.2 = true then ((laws_ovBlocks.f kj6 bt137.1 t101).bind fun t143 => (if t143 = true then ((impl_SetSize.f kj6 t107).bind fun t144 => ((impl_SetSize.f kj6 bt123.1).bind fun t145 => ((impl_SetSize.f kj6 t101).bind fun t146 => (some ((wrap64 (t144 + t145)) == t146))))) else (some false))) else ((impl_SetSize.f kj6 t107).bind fun t147 => ((impl_SetSize.f kj6 bt123.1).bind fun t148 => ((impl_SetSize.f kj6 t101).bind fun t149 => (some ((wrap64 (t147 + t148)) == t149)))))) else (some false))) else (some false)))) else (none))) else (none))) else ((impl_SetOk.f kj6 t107).bind fun t127 => (some t127)))) = some r:=by rw [if_neg (show ¬ (false = true) by decide)] at H;exact H
     clear H
     have H:=H1
     clear H1
     replace H:=Option.bind_eq_some_iff.mp H
     obtain ⟨⟨t123,t124⟩,A430,H⟩:=H
     replace H : (if t124 = true then ((some (([] : List (S44)) : List (S44))).bind fun y128 => (if y128.length + t107.length < 8796093022208 then ((some (y128 ++ t107 : List (S44))).bind fun y131 => (if y131.length + t123.length < 8796093022208 then ((impl_SetOf.f kj6 (y131 ++ t123)).bind fun bt137 => ((impl_SetOk.f kj6 t107).bind fun t141 => (if t141 = true then ((impl_SetOk.f kj6 t123).bind fun t142 => (if t142 = true then (if bt137.2 = true then ((laws_ovBlocks.f kj6 bt137.1 t101).bind fun t143 => (if t143 = true then ((impl_SetSize.f kj6 t107).bind fun t144 => ((impl_SetSize.f kj6 t123).bind fun t145 => ((impl_SetSize.f kj6 t101).bind fun t146 => (some ((wrap64 (t144 + t145)) == t146))))) else (some false))) else ((impl_SetSize.f kj6 t107).bind fun t147 => ((impl_SetSize.f kj6 t123).bind fun t148 => ((impl_SetSize.f kj6 t101).bind fun t149 => (some ((wrap64 (t147 + t148)) == t149)))))) else (some false))) else (some false)))) else (none))) else (none))) else ((impl_SetOk.f kj6 t107).bind fun t127 => (some t127))) = some r:=H
     have A43:=a0z.mk A430
     clear A430
     by_cases c44 : t124 = true
     ·subst c44
      have H1 : ((some (([] : List (S44)) : List (S44))).bind fun y128 => (if y128.length + t107.length < 8796093022208 then ((some (y128 ++ t107 : List (S44))).bind fun y131 => (if y131.length + t123.length < 8796093022208 then ((impl_SetOf.f kj6 (y131 ++ t123)).bind fun bt137 => ((impl_SetOk.f kj6 t107).bind fun t141 => (if t141 = true then ((impl_SetOk.f kj6 t123).bind fun t142 => (if t142 = true then (if bt137.2 = true then ((laws_ovBlocks.f kj6 bt137.1 t101).bind fun t143 => (if t143 = true then ((impl_SetSize.f kj6 t107).bind fun t144 => ((impl_SetSize.f kj6 t123).bind fun t145 => ((impl_SetSize.f kj6 t101).bind fun t146 => (some ((wrap64 (t144 + t145)) == t146))))) else (some false))) else ((impl_SetSize.f kj6 t107).bind fun t147 => ((impl_SetSize.f kj6 t123).bind fun t148 => ((impl_SetSize.f kj6 t101).bind fun t149 => (some ((wrap64 (t147 + t148)) == t149)))))) else (some false))) else (some false)))) else (none))) else (none))) = some r:=by rw [if_pos rfl] at H;exact H
      clear H
      have H:=H1
      clear H1
      obtain ⟨y128,hy128⟩ : ∃ y_ : List (S44),y_ = (([] : List (S44))):=⟨_,rfl⟩
      replace H : (if y128.length + t107.length < 8796093022208 then ((some (y128 ++ t107 : List (S44))).bind fun y131 => (if y131.length + t123.length < 8796093022208 then ((impl_SetOf.f kj6 (y131 ++ t123)).bind fun bt137 => ((impl_SetOk.f kj6 t107).bind fun t141 => (if t141 = true then ((impl_SetOk.f kj6 t123).bind fun t142 => (if t142 = true then (if bt137.2 = true then ((laws_ovBlocks.f kj6 bt137.1 t101).bind fun t143 => (if t143 = true then ((impl_SetSize.f kj6 t107).bind fun t144 => ((impl_SetSize.f kj6 t123).bind fun t145 => ((impl_SetSize.f kj6 t101).bind fun t146 => (some ((wrap64 (t144 + t145)) == t146))))) else (some false))) else ((impl_SetSize.f kj6 t107).bind fun t147 => ((impl_SetSize.f kj6 t123).bind fun t148 => ((impl_SetSize.f kj6 t101).bind fun t149 => (some ((wrap64 (t147 + t148)) == t149)))))) else (some false))) else (some false)))) else (none))) else (none)) = some r:=by first|(rw [hy128];with_reducible exact H)|(have H2_:=(Option.bind_some _ _).symm.trans H;rw [hy128];with_reducible exact H2_)|(have H2_:=(Option.bind_some _ _).symm.trans H;with_reducible exact H2_)|with_reducible exact H|(rw [hy128];exact H)|exact H
      have Ny128:=a0z.mk hy128
      clear hy128
      by_cases c45 : y128.length + t107.length < 8796093022208
      ·rw [if_pos c45] at H
       have LMc45:=a0z.mk c45
       clear c45
       obtain ⟨y131,hy131⟩ : ∃ y_ : List (S44),y_ = (y128 ++ t107):=⟨_,rfl⟩
       replace H : (if y131.length + t123.length < 8796093022208 then ((impl_SetOf.f kj6 (y131 ++ t123)).bind fun bt137 => ((impl_SetOk.f kj6 t107).bind fun t141 => (if t141 = true then ((impl_SetOk.f kj6 t123).bind fun t142 => (if t142 = true then (if bt137.2 = true then ((laws_ovBlocks.f kj6 bt137.1 t101).bind fun t143 => (if t143 = true then ((impl_SetSize.f kj6 t107).bind fun t144 => ((impl_SetSize.f kj6 t123).bind fun t145 => ((impl_SetSize.f kj6 t101).bind fun t146 => (some ((wrap64 (t144 + t145)) == t146))))) else (some false))) else ((impl_SetSize.f kj6 t107).bind fun t147 => ((impl_SetSize.f kj6 t123).bind fun t148 => ((impl_SetSize.f kj6 t101).bind fun t149 => (some ((wrap64 (t147 + t148)) == t149)))))) else (some false))) else (some false)))) else (none)) = some r:=by first|(rw [hy131];with_reducible exact H)|(have H2_:=(Option.bind_some _ _).symm.trans H;rw [hy131];with_reducible exact H2_)|(have H2_:=(Option.bind_some _ _).symm.trans H;with_reducible exact H2_)|with_reducible exact H|(rw [hy131];exact H)|exact H
       have Ny131:=a0z.mk hy131
       clear hy131
       by_cases c46 : y131.length + t123.length < 8796093022208
       ·rw [if_pos c46] at H
        have LMc46:=a0z.mk c46
        clear c46
        obtain ⟨y134,hy134⟩ : ∃ y_ : List (S44),y_ = (y131 ++ t123):=⟨_,rfl⟩
        replace H : ((impl_SetOf.f kj6 y134).bind fun bt137 => ((impl_SetOk.f kj6 t107).bind fun t141 => (if t141 = true then ((impl_SetOk.f kj6 t123).bind fun t142 => (if t142 = true then (if bt137.2 = true then ((laws_ovBlocks.f kj6 bt137.1 t101).bind fun t143 => (if t143 = true then ((impl_SetSize.f kj6 t107).bind fun t144 => ((impl_SetSize.f kj6 t123).bind fun t145 => ((impl_SetSize.f kj6 t101).bind fun t146 => (some ((wrap64 (t144 + t145)) == t146))))) else (some false))) else ((impl_SetSize.f kj6 t107).bind fun t147 => ((impl_SetSize.f kj6 t123).bind fun t148 => ((impl_SetSize.f kj6 t101).bind fun t149 => (some ((wrap64 (t147 + t148)) == t149)))))) else (some false))) else (some false)))) = some r:=by first|(rw [hy134];with_reducible exact H)|(have H2_:=(Option.bind_some _ _).symm.trans H;rw [hy134];with_reducible exact H2_)|(have H2_:=(Option.bind_some _ _).symm.trans H;with_reducible exact H2_)|with_reducible exact H|(rw [hy134];exact H)|exact H
        have Ny134:=a0z.mk hy134
        clear hy134
        replace H:=Option.bind_eq_some_iff.mp H
        obtain ⟨⟨t137,t138⟩,A470,H⟩:=H
        replace H : ((impl_SetOk.f kj6 t107).bind fun t141 => (if t141 = true then ((impl_SetOk.f kj6 t123).bind fun t142 => (if t142 = true then (if t138 = true then ((laws_ovBlocks.f kj6 t137 t101).bind fun t143 => (if t143 = true then ((impl_SetSize.f kj6 t107).bind fun t144 => ((impl_SetSize.f kj6 t123).bind fun t145 => ((impl_SetSize.f kj6 t101).bind fun t146 => (some ((wrap64 (t144 + t145)) == t146))))) else (some false))) else ((impl_SetSize.f kj6 t107).bind fun t147 => ((impl_SetSize.f kj6 t123).bind fun t148 => ((impl_SetSize.f kj6 t101).bind fun t149 => (some ((wrap64 (t147 + t148)) == t149)))))) else (some false))) else (some false))) = some r:=H
        have A47:=a0z.mk A470
        clear A470
        replace H:=Option.bind_eq_some_iff.mp H
        obtain ⟨t141,A480,H⟩:=H
        replace H : (if t141 = true then ((impl_SetOk.f kj6 t123).bind fun t142 => (if t142 = true then (if t138 = true then ((laws_ovBlocks.f kj6 t137 t101).bind fun t143 => (if t143 = true then ((impl_SetSize.f kj6 t107).bind fun t144 => ((impl_SetSize.f kj6 t123).bind fun t145 => ((impl_SetSize.f kj6 t101).bind fun t146 => (some ((wrap64 (t144 + t145)) == t146))))) else (some false))) else ((impl_SetSize.f kj6 t107).bind fun t147 => ((impl_SetSize.f kj6 t123).bind fun t148 => ((impl_SetSize.f kj6 t101).bind fun t149 => (some ((wrap64 (t147 + t148)) == t149)))))) else (some false))) else (some false)) = some r:=H
        have A48:=a0z.mk A480
        clear A480
        by_cases c49 : t141 = true
        ·subst c49
         have H1 : ((impl_SetOk.f kj6 t123).bind fun t142 => (if t142 = true then (if t138 = true then ((laws_ovBlocks.f kj6 t137 t101).bind fun t143 => (if t143 = true then ((impl_SetSize.f kj6 t107).bind fun t144 => ((impl_SetSize.f kj6 t123).bind fun t145 => ((impl_SetSize.f kj6 t101).bind fun t146 => (some ((wrap64 (t144 + t145)) == t146))))) else (some false))) else ((impl_SetSize.f kj6 t107).bind fun t147 => ((impl_SetSize.f kj6 t123).bind fun t148 => ((impl_SetSize.f kj6 t101).bind fun t149 => (some ((wrap64 (t147 + t148)) == t149)))))) else (some false))) = some r:=by rw [if_pos rfl] at H;exact H
         clear H
         have H:=H1
         clear H1
         replace H:=Option.bind_eq_some_iff.mp H
         obtain ⟨t142,A500,H⟩:=H
         replace H : (if t142 = true then (if t138 = true then ((laws_ovBlocks.f kj6 t137 t101).bind fun t143 => (if t143 = true then ((impl_SetSize.f kj6 t107).bind fun t144 => ((impl_SetSize.f kj6 t123).bind fun t145 => ((impl_SetSize.f kj6 t101).bind fun t146 => (some ((wrap64 (t144 + t145)) == t146))))) else (some false))) else ((impl_SetSize.f kj6 t107).bind fun t147 => ((impl_SetSize.f kj6 t123).bind fun t148 => ((impl_SetSize.f kj6 t101).bind fun t149 => (some ((wrap64 (t147 + t148)) == t149)))))) else (some false)) = some r:=H
         have A50:=a0z.mk A500
         clear A500
         by_cases c51 : t142 = true
         ·subst c51
          have H1 : (if t138 = true then ((laws_ovBlocks.f kj6 t137 t101).bind fun t143 => (if t143 = true then ((impl_SetSize.f kj6 t107).bind fun t144 => ((impl_SetSize.f kj6 t123).bind fun t145 => ((impl_SetSize.f kj6 t101).bind fun t146 => (some ((wrap64 (t144 + t145)) == t146))))) else (some false))) else ((impl_SetSize.f kj6 t107).bind fun t147 => ((impl_SetSize.f kj6 t123).bind fun t148 => ((impl_SetSize.f kj6 t101).bind fun t149 => (some ((wrap64 (t147 + t148)) == t149)))))) = some r:=by rw [if_pos rfl] at H;exact H
          clear H
          have H:=H1
          clear H1
          by_cases c52 : t138 = true
          ·subst c52
           have H1 : ((laws_ovBlocks.f kj6 t137 t101).bind fun t143 => (if t143 = true then ((impl_SetSize.f kj6 t107).bind fun t144 => ((impl_SetSize.f kj6 t123).bind fun t145 => ((impl_SetSize.f kj6 t101).bind fun t146 => (some ((wrap64 (t144 + t145)) == t146))))) else (some false))) = some r:=by rw [if_pos rfl] at H;exact H
           clear H
           have H:=H1
           clear H1
           replace H:=Option.bind_eq_some_iff.mp H
           obtain ⟨t143,A530,H⟩:=H
           replace H : (if t143 = true then ((impl_SetSize.f kj6 t107).bind fun t144 => ((impl_SetSize.f kj6 t123).bind fun t145 => ((impl_SetSize.f kj6 t101).bind fun t146 => (some ((wrap64 (t144 + t145)) == t146))))) else (some false)) = some r:=H
           have A53:=a0z.mk A530
           clear A530
           by_cases c54 : t143 = true
           ·subst c54
            have H1 : ((impl_SetSize.f kj6 t107).bind fun t144 => ((impl_SetSize.f kj6 t123).bind fun t145 => ((impl_SetSize.f kj6 t101).bind fun t146 => (some ((wrap64 (t144 + t145)) == t146))))) = some r:=by rw [if_pos rfl] at H;exact H
            clear H
            have H:=H1
            clear H1
            replace H:=Option.bind_eq_some_iff.mp H
            obtain ⟨t144,A550,H⟩:=H
            replace H : ((impl_SetSize.f kj6 t123).bind fun t145 => ((impl_SetSize.f kj6 t101).bind fun t146 => (some ((wrap64 (t144 + t145)) == t146)))) = some r:=H
            have A55:=a0z.mk A550
            clear A550
            replace H:=Option.bind_eq_some_iff.mp H
            obtain ⟨t145,A560,H⟩:=H
            replace H : ((impl_SetSize.f kj6 t101).bind fun t146 => (some ((wrap64 (t144 + t145)) == t146))) = some r:=H
            have A56:=a0z.mk A560
            clear A560
            replace H:=Option.bind_eq_some_iff.mp H
            obtain ⟨t146,A570,H⟩:=H
            replace H : (some ((wrap64 (t144 + t145)) == t146)) = some r:=H
            have A57:=a0z.mk A570
            clear A570
            obtain rfl:=Option.some.inj H
            go_wp2_with (first|((with_reducible refine b8z (f:=27) rfl ?_);refine d2z (some 86) rfl rfl Try.func27 (by kernel_rfl) rfl #[.slice Ao9 t101.length co9,.slice Ao10 t102.length co10] rfl (by (try simp only [List.map_toArray,List.map_cons,List.map_nil]);first|done|rfl|(simp only [List.length_drop,List.length_take];rfl)) ?_;(with_reducible refine (impl_SetLess.calls kj6 _ _ t101 _ _ t102 t123 true _ ?side1 ?side2 ?side3 ?side4 A43.1).mono ?_);(case side1 => repeat (first|exact (Kd.b4z HO_3.1).2.2|(with_reducible refine Kd.C_alloc ?_ _)|(with_reducible refine Kd.C_drewN ?_ _)|(with_reducible refine Kd.C_drew ?_)));(case side2 => exact (Kd.b4z HO_3.1).2.1);(case side3 => repeat (first|exact (Kd.b4z HO_4.1).2.2|(with_reducible refine Kd.C_alloc ?_ _)|(with_reducible refine Kd.C_drewN ?_ _)|(with_reducible refine Kd.C_drew ?_)));(case side4 => exact (Kd.b4z HO_4.1).2.1);rintro e w58 ⟨v125,rfl,ho0,hb⟩;refine ⟨_,rfl,?_⟩;have n0_:=a0z.mk (Kd.c4z (by (with_reducible repeat (first|apply Kd.R_alloc|apply Kd.a4z|apply Kd.a5z));exact HO_3.1) (Kd.d1z ho0) hb);have n1_:=a0z.mk (Kd.c4z (by (with_reducible repeat (first|apply Kd.R_alloc|apply Kd.a4z|apply Kd.a5z));exact HO_4.1) (Kd.d1z ho0) hb);have n2_:=a0z.mk (Kd.c4z (by (with_reducible repeat (first|apply Kd.R_alloc|apply Kd.a4z|apply Kd.a5z));exact HO_5.1) (Kd.d1z ho0) hb);have n3_:=a0z.mk (Kd.c4z (by (with_reducible repeat (first|apply Kd.R_alloc|apply Kd.a4z|apply Kd.a5z));exact HO_7.1) (Kd.d1z ho0) hb);have n4_:=a0z.mk (Kd.c4z (by (with_reducible repeat (first|apply Kd.R_alloc|apply Kd.a4z|apply Kd.a5z));exact HO_9.1) (Kd.d1z ho0) hb);have n5_:=a0z.mk (Kd.d5z (Kd.d0z (Kd.d0z (Kd.d0z (Kd.d0z (Kd.d0z ho0 (Kd.R_lt (by (with_reducible repeat (first|apply Kd.R_alloc|apply Kd.a4z|apply Kd.a5z));exact HO_3.1))) (Kd.R_lt (by (with_reducible repeat (first|apply Kd.R_alloc|apply Kd.a4z|apply Kd.a5z));exact HO_4.1))) (Kd.R_lt (by (with_reducible repeat (first|apply Kd.R_alloc|apply Kd.a4z|apply Kd.a5z));exact HO_5.1))) (Kd.R_lt (by (with_reducible repeat (first|apply Kd.R_alloc|apply Kd.a4z|apply Kd.a5z));exact HO_7.1))) (Kd.R_lt (by (with_reducible repeat (first|apply Kd.R_alloc|apply Kd.a4z|apply Kd.a5z));exact HO_9.1))) (b1z (by repeat (first|(with_reducible first|exact HB.1|apply a3z|apply a1z|apply a2z)|exact HB.1))));have n6_:=a0z.mk (b3z (by repeat (first|(with_reducible first|exact HB.1|apply a3z|apply a1z|apply a2z)|exact HB.1)) hb);clear HO_3;clear HO_4;clear HO_5;clear HO_7;clear HO_9;clear HB;have HO_3:=n0_;have HO_4:=n1_;have HO_5:=n2_;have HO_7:=n3_;have HO_9:=n4_;have HO126:=n5_;have HB:=n6_;clear n0_ n1_ n2_ n3_ n4_ n5_ n6_;(try clear hb);(try clear hb2);(try clear hk);(try clear hi);(try clear ho0))|((with_reducible refine d4z (N:=94) rfl ?_);refine Kd.R_lit k44 _ 44 ?hg (N:=94) ?hd (xs:=([] : List (S44))) (inner:=[]) (ok:=fun _ => True) (okp:=fun _ => True) ?hr ?hp (fun _ hk => hk) trivial (Below.refl _ _) (Nat.le_refl _) (by simp) ?_;(case hd => rfl);(case hg => rfl);(case hr => first|(go_simp;done)|(go_simp;rfl));(case hp => exact (Reps.none _ _));intro v129 w59 ho60 hb hg_ hnew_;clear hg_ hnew_;(first|rw [← Ny128.1] at ho60|(simp only [Int.reduceToNat] at ho60;rw [← Ny128.1] at ho60));have n0_:=a0z.mk (Kd.c4z (by (with_reducible repeat (first|apply Kd.R_alloc|apply Kd.a4z|apply Kd.a5z));exact HO_3.1) (Kd.d1z ho60) hb);have n1_:=a0z.mk (Kd.c4z (by (with_reducible repeat (first|apply Kd.R_alloc|apply Kd.a4z|apply Kd.a5z));exact HO_4.1) (Kd.d1z ho60) hb);have n2_:=a0z.mk (Kd.c4z (by (with_reducible repeat (first|apply Kd.R_alloc|apply Kd.a4z|apply Kd.a5z));exact HO_5.1) (Kd.d1z ho60) hb);have n3_:=a0z.mk (Kd.c4z (by (with_reducible repeat (first|apply Kd.R_alloc|apply Kd.a4z|apply Kd.a5z));exact HO_7.1) (Kd.d1z ho60) hb);have n4_:=a0z.mk (Kd.c4z (by (with_reducible repeat (first|apply Kd.R_alloc|apply Kd.a4z|apply Kd.a5z));exact HO_9.1) (Kd.d1z ho60) hb);have n5_:=a0z.mk (Kd.c4z (by (with_reducible repeat (first|apply Kd.R_alloc|apply Kd.a4z|apply Kd.a5z));exact HO126.1) (Kd.d1z ho60) hb);have n6_:=a0z.mk (Kd.d5z (Kd.d0z (Kd.d0z (Kd.d0z (Kd.d0z (Kd.d0z (Kd.d0z ho60 (Kd.R_lt (by (with_reducible repeat (first|apply Kd.R_alloc|apply Kd.a4z|apply Kd.a5z));exact HO_3.1))) (Kd.R_lt (by (with_reducible repeat (first|apply Kd.R_alloc|apply Kd.a4z|apply Kd.a5z));exact HO_4.1))) (Kd.R_lt (by (with_reducible repeat (first|apply Kd.R_alloc|apply Kd.a4z|apply Kd.a5z));exact HO_5.1))) (Kd.R_lt (by (with_reducible repeat (first|apply Kd.R_alloc|apply Kd.a4z|apply Kd.a5z));exact HO_7.1))) (Kd.R_lt (by (with_reducible repeat (first|apply Kd.R_alloc|apply Kd.a4z|apply Kd.a5z));exact HO_9.1))) (Kd.R_lt (by (with_reducible repeat (first|apply Kd.R_alloc|apply Kd.a4z|apply Kd.a5z));exact HO126.1))) (b1z (by repeat (first|(with_reducible first|exact HB.1|apply a3z|apply a1z|apply a2z)|exact HB.1))));have n7_:=a0z.mk (b3z (by repeat (first|(with_reducible first|exact HB.1|apply a3z|apply a1z|apply a2z)|exact HB.1)) hb);clear HO_3;clear HO_4;clear HO_5;clear HO_7;clear HO_9;clear HO126;clear HB;have HO_3:=n0_;have HO_4:=n1_;have HO_5:=n2_;have HO_7:=n3_;have HO_9:=n4_;have HO126:=n5_;have HO130:=n6_;have HB:=n7_;clear n0_ n1_ n2_ n3_ n4_ n5_ n6_ n7_;clear hb ho60;obtain ⟨Ao62,co62,eo62⟩:=Kd.d3z HO_5.1;subst eo62)|((with_reducible refine e5z (b:=.append) (xs:=#[.tmp 94,.tmp 95]) rfl ?_);at_builtin;refine Kd.g1z k44 (w0:=w) w.heap.size rfl (.tmp 94) (.tmp 95) 25 44 (.agg #[(.int .i64 0),(.int .i64 0)]) 16 rfl Try.underlying25 info44 rfl (by decide) (by omega) v129 y128 t107 _ _ _ (fun k_ => some k_ ≠ (.slice Ao9 t101.length co9 : Value).ownBlock ∧ some k_ ≠ (.slice Ao10 t102.length co10 : Value).ownBlock ∧ some k_ ≠ (.slice Ao62 t107.length co62 : Value).ownBlock ∧ some k_ ≠ (v113 : Value).ownBlock ∧ some k_ ≠ (v117 : Value).ownBlock ∧ some k_ ≠ (v125 : Value).ownBlock) (fun _ => False) rfl rfl ?aO ?aR (fun _ _ h => h) (fun _ h => h.elim) ?aF ?aB ?aS ?aL ?_;(case aR => repeat (first|exact (Kd.b4z HO_5.1).2.2|(with_reducible refine Kd.C_alloc ?_ _)|(with_reducible refine Kd.C_drewN ?_ _)|(with_reducible refine Kd.C_drew ?_)));(case aB => exact (by repeat (first|(with_reducible first|exact HB.1|apply a3z|apply a1z|apply a2z)|exact HB.1)));(case aF => exact (fun k_ hk => ⟨Kd.fresh' (Kd.R_lt (by (with_reducible repeat (first|apply Kd.R_alloc|apply Kd.a4z|apply Kd.a5z));exact HO_3.1)) k_ hk,Kd.fresh' (Kd.R_lt (by (with_reducible repeat (first|apply Kd.R_alloc|apply Kd.a4z|apply Kd.a5z));exact HO_4.1)) k_ hk,Kd.fresh' (Kd.R_lt (by (with_reducible repeat (first|apply Kd.R_alloc|apply Kd.a4z|apply Kd.a5z));exact HO_5.1)) k_ hk,Kd.fresh' (Kd.R_lt (by (with_reducible repeat (first|apply Kd.R_alloc|apply Kd.a4z|apply Kd.a5z));exact HO_7.1)) k_ hk,Kd.fresh' (Kd.R_lt (by (with_reducible repeat (first|apply Kd.R_alloc|apply Kd.a4z|apply Kd.a5z));exact HO_9.1)) k_ hk,Kd.fresh' (Kd.R_lt (by (with_reducible repeat (first|apply Kd.R_alloc|apply Kd.a4z|apply Kd.a5z));exact HO126.1)) k_ hk⟩));(case aO => exact (by (with_reducible repeat (first|apply Kd.R_alloc|apply Kd.a4z|apply Kd.a5z));exact Kd.b5z HO130.1 (fun _ hk => ⟨hk.1.1.1.1.1.2,⟨hk.1.1.1.1.2,⟨hk.1.1.1.2,⟨hk.1.1.2,⟨hk.1.2,hk.2⟩⟩⟩⟩⟩)));(case aS => exact (b1z (by repeat (first|(with_reducible first|exact HB.1|apply a3z|apply a1z|apply a2z)|exact HB.1))));(case aL => have:=LMc45.1;omega);intro v132 w61 ho hb hg hat;rw [← Ny131.1] at ho;have n0_:=a0z.mk (Kd.c9z (ok:=(fun k_ => some k_ ≠ (.slice Ao10 t102.length co10 : Value).ownBlock ∧ some k_ ≠ (.slice Ao62 t107.length co62 : Value).ownBlock ∧ some k_ ≠ (v113 : Value).ownBlock ∧ some k_ ≠ (v117 : Value).ownBlock ∧ some k_ ≠ (v125 : Value).ownBlock)) (by (with_reducible repeat (first|apply Kd.R_alloc|apply Kd.a4z|apply Kd.a5z));exact Kd.b5z HO_3.1 (fun _ hk => ⟨⟨hk.1.1.1,⟨hk.1.1.2.1,⟨hk.1.1.2.2.1,⟨hk.1.1.2.2.2,hk.1.2⟩⟩⟩⟩,hk.2⟩)) hg hat);have n1_:=a0z.mk (Kd.c9z (ok:=(fun k_ => some k_ ≠ (.slice Ao9 t101.length co9 : Value).ownBlock ∧ some k_ ≠ (.slice Ao62 t107.length co62 : Value).ownBlock ∧ some k_ ≠ (v113 : Value).ownBlock ∧ some k_ ≠ (v117 : Value).ownBlock ∧ some k_ ≠ (v125 : Value).ownBlock)) (by (with_reducible repeat (first|apply Kd.R_alloc|apply Kd.a4z|apply Kd.a5z));exact Kd.b5z HO_4.1 (fun _ hk => ⟨⟨hk.1.1.1,⟨hk.1.1.2.1,⟨hk.1.1.2.2.1,⟨hk.1.1.2.2.2,hk.1.2⟩⟩⟩⟩,hk.2⟩)) hg hat);have n2_:=a0z.mk (Kd.c9z (ok:=(fun k_ => some k_ ≠ (.slice Ao9 t101.length co9 : Value).ownBlock ∧ some k_ ≠ (.slice Ao10 t102.length co10 : Value).ownBlock ∧ some k_ ≠ (v113 : Value).ownBlock ∧ some k_ ≠ (v117 : Value).ownBlock ∧ some k_ ≠ (v125 : Value).ownBlock)) (by (with_reducible repeat (first|apply Kd.R_alloc|apply Kd.a4z|apply Kd.a5z));exact Kd.b5z HO_5.1 (fun _ hk => ⟨⟨hk.1.1.1,⟨hk.1.1.2.1,⟨hk.1.1.2.2.1,⟨hk.1.1.2.2.2,hk.1.2⟩⟩⟩⟩,hk.2⟩)) hg hat);have n3_:=a0z.mk (Kd.c9z (ok:=(fun k_ => some k_ ≠ (.slice Ao9 t101.length co9 : Value).ownBlock ∧ some k_ ≠ (.slice Ao10 t102.length co10 : Value).ownBlock ∧ some k_ ≠ (.slice Ao62 t107.length co62 : Value).ownBlock ∧ some k_ ≠ (v117 : Value).ownBlock ∧ some k_ ≠ (v125 : Value).ownBlock)) (by (with_reducible repeat (first|apply Kd.R_alloc|apply Kd.a4z|apply Kd.a5z));exact Kd.b5z HO_7.1 (fun _ hk => ⟨⟨hk.1.1.1,⟨hk.1.1.2.1,⟨hk.1.1.2.2.1,⟨hk.1.1.2.2.2,hk.1.2⟩⟩⟩⟩,hk.2⟩)) hg hat);have n4_:=a0z.mk (Kd.c9z (ok:=(fun k_ => some k_ ≠ (.slice Ao9 t101.length co9 : Value).ownBlock ∧ some k_ ≠ (.slice Ao10 t102.length co10 : Value).ownBlock ∧ some k_ ≠ (.slice Ao62 t107.length co62 : Value).ownBlock ∧ some k_ ≠ (v113 : Value).ownBlock ∧ some k_ ≠ (v125 : Value).ownBlock)) (by (with_reducible repeat (first|apply Kd.R_alloc|apply Kd.a4z|apply Kd.a5z));exact Kd.b5z HO_9.1 (fun _ hk => ⟨⟨hk.1.1.1,⟨hk.1.1.2.1,⟨hk.1.1.2.2.1,⟨hk.1.1.2.2.2,hk.1.2⟩⟩⟩⟩,hk.2⟩)) hg hat);have n5_:=a0z.mk (Kd.c9z (ok:=(fun k_ => some k_ ≠ (.slice Ao9 t101.length co9 : Value).ownBlock ∧ some k_ ≠ (.slice Ao10 t102.length co10 : Value).ownBlock ∧ some k_ ≠ (.slice Ao62 t107.length co62 : Value).ownBlock ∧ some k_ ≠ (v113 : Value).ownBlock ∧ some k_ ≠ (v117 : Value).ownBlock)) (by (with_reducible repeat (first|apply Kd.R_alloc|apply Kd.a4z|apply Kd.a5z));exact Kd.b5z HO126.1 (fun _ hk => ⟨⟨hk.1.1.1.1.1.2,⟨hk.1.1.1.1.2,⟨hk.1.1.1.2,⟨hk.1.1.2,hk.1.2⟩⟩⟩⟩,hk.2⟩)) hg hat);have n6_:=a0z.mk (hb);have n7_:=a0z.mk (ho);clear HO_3;clear HO_4;clear HO_5;clear HO_7;clear HO_9;clear HO126;clear HB;clear HO130;have HO_3:=n0_;have HO_4:=n1_;have HO_5:=n2_;have HO_7:=n3_;have HO_9:=n4_;have HO126:=n5_;have HB:=n6_;have HO133:=n7_;clear n0_ n1_ n2_ n3_ n4_ n5_ n6_ n7_;clear ho hb hg hat;obtain ⟨Ao64,co64,eo64⟩:=Kd.d3z HO126.1;subst eo64)|((with_reducible refine e5z (b:=.append) (xs:=#[.tmp 96,.tmp 97]) rfl ?_);at_builtin;refine Kd.g1z k44 (w0:=w) w.heap.size rfl (.tmp 96) (.tmp 97) 25 44 (.agg #[(.int .i64 0),(.int .i64 0)]) 16 rfl Try.underlying25 info44 rfl (by decide) (by omega) v132 y131 t123 _ _ _ (fun k_ => some k_ ≠ (.slice Ao9 t101.length co9 : Value).ownBlock ∧ some k_ ≠ (.slice Ao10 t102.length co10 : Value).ownBlock ∧ some k_ ≠ (.slice Ao62 t107.length co62 : Value).ownBlock ∧ some k_ ≠ (v113 : Value).ownBlock ∧ some k_ ≠ (v117 : Value).ownBlock ∧ some k_ ≠ (.slice Ao64 t123.length co64 : Value).ownBlock) (fun _ => False) rfl rfl ?aO ?aR (fun _ _ h => h) (fun _ h => h.elim) ?aF ?aB ?aS ?aL ?_;(case aR => repeat (first|exact (Kd.b4z HO126.1).2.2|(with_reducible refine Kd.C_alloc ?_ _)|(with_reducible refine Kd.C_drewN ?_ _)|(with_reducible refine Kd.C_drew ?_)));(case aB => exact (by repeat (first|(with_reducible first|exact HB.1|apply a3z|apply a1z|apply a2z)|exact HB.1)));(case aF => exact (fun k_ hk => ⟨Kd.fresh' (Kd.R_lt (by (with_reducible repeat (first|apply Kd.R_alloc|apply Kd.a4z|apply Kd.a5z));exact HO_3.1)) k_ hk,Kd.fresh' (Kd.R_lt (by (with_reducible repeat (first|apply Kd.R_alloc|apply Kd.a4z|apply Kd.a5z));exact HO_4.1)) k_ hk,Kd.fresh' (Kd.R_lt (by (with_reducible repeat (first|apply Kd.R_alloc|apply Kd.a4z|apply Kd.a5z));exact HO_5.1)) k_ hk,Kd.fresh' (Kd.R_lt (by (with_reducible repeat (first|apply Kd.R_alloc|apply Kd.a4z|apply Kd.a5z));exact HO_7.1)) k_ hk,Kd.fresh' (Kd.R_lt (by (with_reducible repeat (first|apply Kd.R_alloc|apply Kd.a4z|apply Kd.a5z));exact HO_9.1)) k_ hk,Kd.fresh' (Kd.R_lt (by (with_reducible repeat (first|apply Kd.R_alloc|apply Kd.a4z|apply Kd.a5z));exact HO126.1)) k_ hk⟩));(case aO => exact (by (with_reducible repeat (first|apply Kd.R_alloc|apply Kd.a4z|apply Kd.a5z));exact HO133.1));(case aS => exact (b1z (by repeat (first|(with_reducible first|exact HB.1|apply a3z|apply a1z|apply a2z)|exact HB.1))));(case aL => have:=LMc46.1;omega);intro v135 w63 ho hb hg hat;rw [← Ny134.1] at ho;have n0_:=a0z.mk (Kd.c9z (ok:=(fun k_ => some k_ ≠ (.slice Ao10 t102.length co10 : Value).ownBlock ∧ some k_ ≠ (.slice Ao62 t107.length co62 : Value).ownBlock ∧ some k_ ≠ (v113 : Value).ownBlock ∧ some k_ ≠ (v117 : Value).ownBlock ∧ some k_ ≠ (.slice Ao64 t123.length co64 : Value).ownBlock)) (by (with_reducible repeat (first|apply Kd.R_alloc|apply Kd.a4z|apply Kd.a5z));exact HO_3.1) hg hat);have n1_:=a0z.mk (Kd.c9z (ok:=(fun k_ => some k_ ≠ (.slice Ao9 t101.length co9 : Value).ownBlock ∧ some k_ ≠ (.slice Ao62 t107.length co62 : Value).ownBlock ∧ some k_ ≠ (v113 : Value).ownBlock ∧ some k_ ≠ (v117 : Value).ownBlock ∧ some k_ ≠ (.slice Ao64 t123.length co64 : Value).ownBlock)) (by (with_reducible repeat (first|apply Kd.R_alloc|apply Kd.a4z|apply Kd.a5z));exact HO_4.1) hg hat);have n2_:=a0z.mk (Kd.c9z (ok:=(fun k_ => some k_ ≠ (.slice Ao9 t101.length co9 : Value).ownBlock ∧ some k_ ≠ (.slice Ao10 t102.length co10 : Value).ownBlock ∧ some k_ ≠ (v113 : Value).ownBlock ∧ some k_ ≠ (v117 : Value).ownBlock ∧ some k_ ≠ (.slice Ao64 t123.length co64 : Value).ownBlock)) (by (with_reducible repeat (first|apply Kd.R_alloc|apply Kd.a4z|apply Kd.a5z));exact HO_5.1) hg hat);have n3_:=a0z.mk (Kd.c9z (ok:=(fun k_ => some k_ ≠ (.slice Ao9 t101.length co9 : Value).ownBlock ∧ some k_ ≠ (.slice Ao10 t102.length co10 : Value).ownBlock ∧ some k_ ≠ (.slice Ao62 t107.length co62 : Value).ownBlock ∧ some k_ ≠ (v117 : Value).ownBlock ∧ some k_ ≠ (.slice Ao64 t123.length co64 : Value).ownBlock)) (by (with_reducible repeat (first|apply Kd.R_alloc|apply Kd.a4z|apply Kd.a5z));exact HO_7.1) hg hat);have n4_:=a0z.mk (Kd.c9z (ok:=(fun k_ => some k_ ≠ (.slice Ao9 t101.length co9 : Value).ownBlock ∧ some k_ ≠ (.slice Ao10 t102.length co10 : Value).ownBlock ∧ some k_ ≠ (.slice Ao62 t107.length co62 : Value).ownBlock ∧ some k_ ≠ (v113 : Value).ownBlock ∧ some k_ ≠ (.slice Ao64 t123.length co64 : Value).ownBlock)) (by (with_reducible repeat (first|apply Kd.R_alloc|apply Kd.a4z|apply Kd.a5z));exact HO_9.1) hg hat);have n5_:=a0z.mk (Kd.c9z (ok:=(fun k_ => some k_ ≠ (.slice Ao9 t101.length co9 : Value).ownBlock ∧ some k_ ≠ (.slice Ao10 t102.length co10 : Value).ownBlock ∧ some k_ ≠ (.slice Ao62 t107.length co62 : Value).ownBlock ∧ some k_ ≠ (v113 : Value).ownBlock ∧ some k_ ≠ (v117 : Value).ownBlock)) (by (with_reducible repeat (first|apply Kd.R_alloc|apply Kd.a4z|apply Kd.a5z));exact HO126.1) hg hat);have n6_:=a0z.mk (hb);have n7_:=a0z.mk (ho);clear HO_3;clear HO_4;clear HO_5;clear HO_7;clear HO_9;clear HO126;clear HB;clear HO133;have HO_3:=n0_;have HO_4:=n1_;have HO_5:=n2_;have HO_7:=n3_;have HO_9:=n4_;have HO126:=n5_;have HB:=n6_;have HO136:=n7_;clear n0_ n1_ n2_ n3_ n4_ n5_ n6_ n7_;clear ho hb hg hat;obtain ⟨Ao65,co65,eo65⟩:=Kd.d3z HO136.1;subst eo65)|((with_reducible refine b8z (f:=19) rfl ?_);refine d2z (some 99) rfl rfl Try.func19 (by kernel_rfl) rfl #[.slice Ao65 y134.length co65] rfl (by (try simp only [List.map_toArray,List.map_cons,List.map_nil]);first|done|rfl|(simp only [List.length_drop,List.length_take];rfl)) ?_;(with_reducible refine (impl_SetOf.calls kj6 _ _ y134 t137 true _ ?side1 ?side2 A47.1).mono ?_);(case side1 => repeat (first|exact (Kd.b4z HO136.1).2.2|(with_reducible refine Kd.C_alloc ?_ _)|(with_reducible refine Kd.C_drewN ?_ _)|(with_reducible refine Kd.C_drew ?_)));(case side2 => exact (Kd.b4z HO136.1).2.1);rintro e w66 ⟨v139,rfl,ho0,hb⟩;refine ⟨_,rfl,?_⟩;have n0_:=a0z.mk (Kd.c4z (by (with_reducible repeat (first|apply Kd.R_alloc|apply Kd.a4z|apply Kd.a5z));exact HO_3.1) (Kd.d1z ho0) hb);have n1_:=a0z.mk (Kd.c4z (by (with_reducible repeat (first|apply Kd.R_alloc|apply Kd.a4z|apply Kd.a5z));exact HO_4.1) (Kd.d1z ho0) hb);have n2_:=a0z.mk (Kd.c4z (by (with_reducible repeat (first|apply Kd.R_alloc|apply Kd.a4z|apply Kd.a5z));exact HO_5.1) (Kd.d1z ho0) hb);have n3_:=a0z.mk (Kd.c4z (by (with_reducible repeat (first|apply Kd.R_alloc|apply Kd.a4z|apply Kd.a5z));exact HO_7.1) (Kd.d1z ho0) hb);have n4_:=a0z.mk (Kd.c4z (by (with_reducible repeat (first|apply Kd.R_alloc|apply Kd.a4z|apply Kd.a5z));exact HO_9.1) (Kd.d1z ho0) hb);have n5_:=a0z.mk (Kd.c4z (by (with_reducible repeat (first|apply Kd.R_alloc|apply Kd.a4z|apply Kd.a5z));exact HO126.1) (Kd.d1z ho0) hb);have n6_:=a0z.mk (Kd.c4z (by (with_reducible repeat (first|apply Kd.R_alloc|apply Kd.a4z|apply Kd.a5z));exact HO136.1) (Kd.d1z ho0) hb);have n7_:=a0z.mk (Kd.d5z (Kd.d0z (Kd.d0z (Kd.d0z (Kd.d0z (Kd.d0z (Kd.d0z (Kd.d0z ho0 (Kd.R_lt (by (with_reducible repeat (first|apply Kd.R_alloc|apply Kd.a4z|apply Kd.a5z));exact HO_3.1))) (Kd.R_lt (by (with_reducible repeat (first|apply Kd.R_alloc|apply Kd.a4z|apply Kd.a5z));exact HO_4.1))) (Kd.R_lt (by (with_reducible repeat (first|apply Kd.R_alloc|apply Kd.a4z|apply Kd.a5z));exact HO_5.1))) (Kd.R_lt (by (with_reducible repeat (first|apply Kd.R_alloc|apply Kd.a4z|apply Kd.a5z));exact HO_7.1))) (Kd.R_lt (by (with_reducible repeat (first|apply Kd.R_alloc|apply Kd.a4z|apply Kd.a5z));exact HO_9.1))) (Kd.R_lt (by (with_reducible repeat (first|apply Kd.R_alloc|apply Kd.a4z|apply Kd.a5z));exact HO126.1))) (Kd.R_lt (by (with_reducible repeat (first|apply Kd.R_alloc|apply Kd.a4z|apply Kd.a5z));exact HO136.1))) (b1z (by repeat (first|(with_reducible first|exact HB.1|apply a3z|apply a1z|apply a2z)|exact HB.1))));have n8_:=a0z.mk (b3z (by repeat (first|(with_reducible first|exact HB.1|apply a3z|apply a1z|apply a2z)|exact HB.1)) hb);clear HO_3;clear HO_4;clear HO_5;clear HO_7;clear HO_9;clear HO126;clear HO136;clear HB;have HO_3:=n0_;have HO_4:=n1_;have HO_5:=n2_;have HO_7:=n3_;have HO_9:=n4_;have HO126:=n5_;have HO136:=n6_;have HO140:=n7_;have HB:=n8_;clear n0_ n1_ n2_ n3_ n4_ n5_ n6_ n7_ n8_;(try clear hb);(try clear hb2);(try clear hk);(try clear hi);(try clear ho0))|((with_reducible refine b8z (f:=16) rfl ?_);refine d2z (some 103) rfl rfl Try.func16 (by kernel_rfl) rfl #[.slice Ao62 t107.length co62] rfl (by (try simp only [List.map_toArray,List.map_cons,List.map_nil]);first|done|rfl|(simp only [List.length_drop,List.length_take];rfl)) ?_;(with_reducible refine (impl_SetOk.calls kj6 _ _ t107 true _ ?side1 ?side2 A48.1).mono ?_);(case side1 => repeat (first|exact (Kd.b4z HO_5.1).2.2|(with_reducible refine Kd.C_alloc ?_ _)|(with_reducible refine Kd.C_drewN ?_ _)|(with_reducible refine Kd.C_drew ?_)));(case side2 => exact (Kd.b4z HO_5.1).2.1);rintro e w67 ⟨rfl,hb⟩;refine ⟨_,rfl,?_⟩;have n0_:=a0z.mk (Kd.c3z (by (with_reducible repeat (first|apply Kd.R_alloc|apply Kd.a4z|apply Kd.a5z));exact HO_3.1) hb);have n1_:=a0z.mk (Kd.c3z (by (with_reducible repeat (first|apply Kd.R_alloc|apply Kd.a4z|apply Kd.a5z));exact HO_4.1) hb);have n2_:=a0z.mk (Kd.c3z (by (with_reducible repeat (first|apply Kd.R_alloc|apply Kd.a4z|apply Kd.a5z));exact HO_5.1) hb);have n3_:=a0z.mk (Kd.c3z (by (with_reducible repeat (first|apply Kd.R_alloc|apply Kd.a4z|apply Kd.a5z));exact HO_7.1) hb);have n4_:=a0z.mk (Kd.c3z (by (with_reducible repeat (first|apply Kd.R_alloc|apply Kd.a4z|apply Kd.a5z));exact HO_9.1) hb);have n5_:=a0z.mk (Kd.c3z (by (with_reducible repeat (first|apply Kd.R_alloc|apply Kd.a4z|apply Kd.a5z));exact HO126.1) hb);have n6_:=a0z.mk (Kd.c3z (by (with_reducible repeat (first|apply Kd.R_alloc|apply Kd.a4z|apply Kd.a5z));exact HO136.1) hb);have n7_:=a0z.mk (Kd.c3z (by (with_reducible repeat (first|apply Kd.R_alloc|apply Kd.a4z|apply Kd.a5z));exact HO140.1) hb);have n8_:=a0z.mk (b3z (by repeat (first|(with_reducible first|exact HB.1|apply a3z|apply a1z|apply a2z)|exact HB.1)) hb);clear HO_3;clear HO_4;clear HO_5;clear HO_7;clear HO_9;clear HO126;clear HO136;clear HO140;clear HB;have HO_3:=n0_;have HO_4:=n1_;have HO_5:=n2_;have HO_7:=n3_;have HO_9:=n4_;have HO126:=n5_;have HO136:=n6_;have HO140:=n7_;have HB:=n8_;clear n0_ n1_ n2_ n3_ n4_ n5_ n6_ n7_ n8_;(try clear hb);(try clear hb2);(try clear hk);(try clear hi))|(go_at_call 16;(with_reducible refine (impl_SetOk.calls kj6 _ _ t123 true _ ?side1 ?side2 A50.1).mono ?_);(case side1 => repeat (first|exact (Kd.b4z HO126.1).2.2|(with_reducible refine Kd.C_alloc ?_ _)|(with_reducible refine Kd.C_drewN ?_ _)|(with_reducible refine Kd.C_drew ?_)));(case side2 => exact (Kd.b4z HO126.1).2.1);rintro e w68 ⟨rfl,hb⟩;have n0_:=a0z.mk (Kd.c3z (by (with_reducible repeat (first|apply Kd.R_alloc|apply Kd.a4z|apply Kd.a5z));exact HO_3.1) hb);have n1_:=a0z.mk (Kd.c3z (by (with_reducible repeat (first|apply Kd.R_alloc|apply Kd.a4z|apply Kd.a5z));exact HO_4.1) hb);have n2_:=a0z.mk (Kd.c3z (by (with_reducible repeat (first|apply Kd.R_alloc|apply Kd.a4z|apply Kd.a5z));exact HO_5.1) hb);have n3_:=a0z.mk (Kd.c3z (by (with_reducible repeat (first|apply Kd.R_alloc|apply Kd.a4z|apply Kd.a5z));exact HO_7.1) hb);have n4_:=a0z.mk (Kd.c3z (by (with_reducible repeat (first|apply Kd.R_alloc|apply Kd.a4z|apply Kd.a5z));exact HO_9.1) hb);have n5_:=a0z.mk (Kd.c3z (by (with_reducible repeat (first|apply Kd.R_alloc|apply Kd.a4z|apply Kd.a5z));exact HO126.1) hb);have n6_:=a0z.mk (Kd.c3z (by (with_reducible repeat (first|apply Kd.R_alloc|apply Kd.a4z|apply Kd.a5z));exact HO136.1) hb);have n7_:=a0z.mk (Kd.c3z (by (with_reducible repeat (first|apply Kd.R_alloc|apply Kd.a4z|apply Kd.a5z));exact HO140.1) hb);have n8_:=a0z.mk (b3z (by repeat (first|(with_reducible first|exact HB.1|apply a3z|apply a1z|apply a2z)|exact HB.1)) hb);clear HO_3;clear HO_4;clear HO_5;clear HO_7;clear HO_9;clear HO126;clear HO136;clear HO140;clear HB;have HO_3:=n0_;have HO_4:=n1_;have HO_5:=n2_;have HO_7:=n3_;have HO_9:=n4_;have HO126:=n5_;have HO136:=n6_;have HO140:=n7_;have HB:=n8_;clear n0_ n1_ n2_ n3_ n4_ n5_ n6_ n7_ n8_;(try clear hb);(try clear hb2);(try clear hk);(try clear hi);obtain ⟨Ao69,co69,eo69⟩:=Kd.d3z HO140.1;subst eo69)|(go_at_call 29;(with_reducible refine (laws_ovBlocks.calls kj6 _ _ t137 _ _ t101 true _ ?side1 ?side2 ?side3 ?side4 A53.1).mono ?_);(case side1 => repeat (first|exact (Kd.b4z HO140.1).2.2|(with_reducible refine Kd.C_alloc ?_ _)|(with_reducible refine Kd.C_drewN ?_ _)|(with_reducible refine Kd.C_drew ?_)));(case side2 => exact (Kd.b4z HO140.1).2.1);(case side3 => repeat (first|exact (Kd.b4z HO_3.1).2.2|(with_reducible refine Kd.C_alloc ?_ _)|(with_reducible refine Kd.C_drewN ?_ _)|(with_reducible refine Kd.C_drew ?_)));(case side4 => exact (Kd.b4z HO_3.1).2.1);rintro e w' ⟨rfl,⟨nd,rfl⟩⟩)|(go_at_call 23;(with_reducible refine (impl_SetSize.calls kj6 _ _ t107 t144 _ ?side1 ?side2 A55.1).mono ?_);(case side1 => repeat (first|exact (Kd.b4z HO_5.1).2.2|(with_reducible refine Kd.C_alloc ?_ _)|(with_reducible refine Kd.C_drewN ?_ _)|(with_reducible refine Kd.C_drew ?_)));(case side2 => exact (Kd.b4z HO_5.1).2.1);rintro e w70 ⟨rfl,hb⟩;have n0_:=a0z.mk (Kd.c3z (by (with_reducible repeat (first|apply Kd.R_alloc|apply Kd.a4z|apply Kd.a5z));exact HO_3.1) hb);have n1_:=a0z.mk (Kd.c3z (by (with_reducible repeat (first|apply Kd.R_alloc|apply Kd.a4z|apply Kd.a5z));exact HO_4.1) hb);have n2_:=a0z.mk (Kd.c3z (by (with_reducible repeat (first|apply Kd.R_alloc|apply Kd.a4z|apply Kd.a5z));exact HO_5.1) hb);have n3_:=a0z.mk (Kd.c3z (by (with_reducible repeat (first|apply Kd.R_alloc|apply Kd.a4z|apply Kd.a5z));exact HO_7.1) hb);have n4_:=a0z.mk (Kd.c3z (by (with_reducible repeat (first|apply Kd.R_alloc|apply Kd.a4z|apply Kd.a5z));exact HO_9.1) hb);have n5_:=a0z.mk (Kd.c3z (by (with_reducible repeat (first|apply Kd.R_alloc|apply Kd.a4z|apply Kd.a5z));exact HO126.1) hb);have n6_:=a0z.mk (Kd.c3z (by (with_reducible repeat (first|apply Kd.R_alloc|apply Kd.a4z|apply Kd.a5z));exact HO136.1) hb);have n7_:=a0z.mk (Kd.c3z (by (with_reducible repeat (first|apply Kd.R_alloc|apply Kd.a4z|apply Kd.a5z));exact HO140.1) hb);have n8_:=a0z.mk (b3z (by repeat (first|(with_reducible first|exact HB.1|apply a3z|apply a1z|apply a2z)|exact HB.1)) hb);clear HO_3;clear HO_4;clear HO_5;clear HO_7;clear HO_9;clear HO126;clear HO136;clear HO140;clear HB;have HO_3:=n0_;have HO_4:=n1_;have HO_5:=n2_;have HO_7:=n3_;have HO_9:=n4_;have HO126:=n5_;have HO136:=n6_;have HO140:=n7_;have HB:=n8_;clear n0_ n1_ n2_ n3_ n4_ n5_ n6_ n7_ n8_;(try clear hb);(try clear hb2);(try clear hk);(try clear hi))|(go_at_call 23;(with_reducible refine (impl_SetSize.calls kj6 _ _ t123 t145 _ ?side1 ?side2 A56.1).mono ?_);(case side1 => repeat (first|exact (Kd.b4z HO126.1).2.2|(with_reducible refine Kd.C_alloc ?_ _)|(with_reducible refine Kd.C_drewN ?_ _)|(with_reducible refine Kd.C_drew ?_)));(case side2 => exact (Kd.b4z HO126.1).2.1);rintro e w71 ⟨rfl,hb⟩;have n0_:=a0z.mk (Kd.c3z (by (with_reducible repeat (first|apply Kd.R_alloc|apply Kd.a4z|apply Kd.a5z));exact HO_3.1) hb);have n1_:=a0z.mk (Kd.c3z (by (with_reducible repeat (first|apply Kd.R_alloc|apply Kd.a4z|apply Kd.a5z));exact HO_4.1) hb);have n2_:=a0z.mk (Kd.c3z (by (with_reducible repeat (first|apply Kd.R_alloc|apply Kd.a4z|apply Kd.a5z));exact HO_5.1) hb);have n3_:=a0z.mk (Kd.c3z (by (with_reducible repeat (first|apply Kd.R_alloc|apply Kd.a4z|apply Kd.a5z));exact HO_7.1) hb);have n4_:=a0z.mk (Kd.c3z (by (with_reducible repeat (first|apply Kd.R_alloc|apply Kd.a4z|apply Kd.a5z));exact HO_9.1) hb);have n5_:=a0z.mk (Kd.c3z (by (with_reducible repeat (first|apply Kd.R_alloc|apply Kd.a4z|apply Kd.a5z));exact HO126.1) hb);have n6_:=a0z.mk (Kd.c3z (by (with_reducible repeat (first|apply Kd.R_alloc|apply Kd.a4z|apply Kd.a5z));exact HO136.1) hb);have n7_:=a0z.mk (Kd.c3z (by (with_reducible repeat (first|apply Kd.R_alloc|apply Kd.a4z|apply Kd.a5z));exact HO140.1) hb);have n8_:=a0z.mk (b3z (by repeat (first|(with_reducible first|exact HB.1|apply a3z|apply a1z|apply a2z)|exact HB.1)) hb);clear HO_3;clear HO_4;clear HO_5;clear HO_7;clear HO_9;clear HO126;clear HO136;clear HO140;clear HB;have HO_3:=n0_;have HO_4:=n1_;have HO_5:=n2_;have HO_7:=n3_;have HO_9:=n4_;have HO126:=n5_;have HO136:=n6_;have HO140:=n7_;have HB:=n8_;clear n0_ n1_ n2_ n3_ n4_ n5_ n6_ n7_ n8_;(try clear hb);(try clear hb2);(try clear hk);(try clear hi))|(go_at_call 23;(with_reducible refine (impl_SetSize.calls kj6 _ _ t101 t146 _ ?side1 ?side2 A57.1).mono ?_);(case side1 => repeat (first|exact (Kd.b4z HO_3.1).2.2|(with_reducible refine Kd.C_alloc ?_ _)|(with_reducible refine Kd.C_drewN ?_ _)|(with_reducible refine Kd.C_drew ?_)));(case side2 => exact (Kd.b4z HO_3.1).2.1);rintro e w72 ⟨rfl,hb⟩;have n0_:=a0z.mk (Kd.c3z (by (with_reducible repeat (first|apply Kd.R_alloc|apply Kd.a4z|apply Kd.a5z));exact HO_3.1) hb);have n1_:=a0z.mk (Kd.c3z (by (with_reducible repeat (first|apply Kd.R_alloc|apply Kd.a4z|apply Kd.a5z));exact HO_4.1) hb);have n2_:=a0z.mk (Kd.c3z (by (with_reducible repeat (first|apply Kd.R_alloc|apply Kd.a4z|apply Kd.a5z));exact HO_5.1) hb);have n3_:=a0z.mk (Kd.c3z (by (with_reducible repeat (first|apply Kd.R_alloc|apply Kd.a4z|apply Kd.a5z));exact HO_7.1) hb);have n4_:=a0z.mk (Kd.c3z (by (with_reducible repeat (first|apply Kd.R_alloc|apply Kd.a4z|apply Kd.a5z));exact HO_9.1) hb);have n5_:=a0z.mk (Kd.c3z (by (with_reducible repeat (first|apply Kd.R_alloc|apply Kd.a4z|apply Kd.a5z));exact HO126.1) hb);have n6_:=a0z.mk (Kd.c3z (by (with_reducible repeat (first|apply Kd.R_alloc|apply Kd.a4z|apply Kd.a5z));exact HO136.1) hb);have n7_:=a0z.mk (Kd.c3z (by (with_reducible repeat (first|apply Kd.R_alloc|apply Kd.a4z|apply Kd.a5z));exact HO140.1) hb);have n8_:=a0z.mk (b3z (by repeat (first|(with_reducible first|exact HB.1|apply a3z|apply a1z|apply a2z)|exact HB.1)) hb);clear HO_3;clear HO_4;clear HO_5;clear HO_7;clear HO_9;clear HO126;clear HO136;clear HO140;clear HB;have HO_3:=n0_;have HO_4:=n1_;have HO_5:=n2_;have HO_7:=n3_;have HO_9:=n4_;have HO126:=n5_;have HO136:=n6_;have HO140:=n7_;have HB:=n8_;clear n0_ n1_ n2_ n3_ n4_ n5_ n6_ n7_ n8_;(try clear hb);(try clear hb2);(try clear hk);(try clear hi)))
            go_ret
            exact ⟨by first|rfl|(simp [c2z,c1z] <;> rfl)|(simp [*,c2z,c1z] <;> rfl),by repeat (first|(with_reducible first|exact HB.1|apply a3z|apply a1z|apply a2z)|exact HB.1)⟩
           ·replace c54:=Bool.eq_false_iff.mpr c54
            subst c54
            have H1 : (some false) = some r:=by rw [if_neg (show ¬ (false = true) by decide)] at H;exact H
            clear H
            have H:=H1
            clear H1
            obtain rfl:=Option.some.inj H
            go_wp2_with (first|((with_reducible refine b8z (f:=27) rfl ?_);refine d2z (some 86) rfl rfl Try.func27 (by kernel_rfl) rfl #[.slice Ao9 t101.length co9,.slice Ao10 t102.length co10] rfl (by (try simp only [List.map_toArray,List.map_cons,List.map_nil]);first|done|rfl|(simp only [List.length_drop,List.length_take];rfl)) ?_;(with_reducible refine (impl_SetLess.calls kj6 _ _ t101 _ _ t102 t123 true _ ?side1 ?side2 ?side3 ?side4 A43.1).mono ?_);(case side1 => repeat (first|exact (Kd.b4z HO_3.1).2.2|(with_reducible refine Kd.C_alloc ?_ _)|(with_reducible refine Kd.C_drewN ?_ _)|(with_reducible refine Kd.C_drew ?_)));(case side2 => exact (Kd.b4z HO_3.1).2.1);(case side3 => repeat (first|exact (Kd.b4z HO_4.1).2.2|(with_reducible refine Kd.C_alloc ?_ _)|(with_reducible refine Kd.C_drewN ?_ _)|(with_reducible refine Kd.C_drew ?_)));(case side4 => exact (Kd.b4z HO_4.1).2.1);rintro e w73 ⟨v125,rfl,ho0,hb⟩;refine ⟨_,rfl,?_⟩;have n0_:=a0z.mk (Kd.c4z (by (with_reducible repeat (first|apply Kd.R_alloc|apply Kd.a4z|apply Kd.a5z));exact HO_3.1) (Kd.d1z ho0) hb);have n1_:=a0z.mk (Kd.c4z (by (with_reducible repeat (first|apply Kd.R_alloc|apply Kd.a4z|apply Kd.a5z));exact HO_4.1) (Kd.d1z ho0) hb);have n2_:=a0z.mk (Kd.c4z (by (with_reducible repeat (first|apply Kd.R_alloc|apply Kd.a4z|apply Kd.a5z));exact HO_5.1) (Kd.d1z ho0) hb);have n3_:=a0z.mk (Kd.c4z (by (with_reducible repeat (first|apply Kd.R_alloc|apply Kd.a4z|apply Kd.a5z));exact HO_7.1) (Kd.d1z ho0) hb);have n4_:=a0z.mk (Kd.c4z (by (with_reducible repeat (first|apply Kd.R_alloc|apply Kd.a4z|apply Kd.a5z));exact HO_9.1) (Kd.d1z ho0) hb);have n5_:=a0z.mk (Kd.d5z (Kd.d0z (Kd.d0z (Kd.d0z (Kd.d0z (Kd.d0z ho0 (Kd.R_lt (by (with_reducible repeat (first|apply Kd.R_alloc|apply Kd.a4z|apply Kd.a5z));exact HO_3.1))) (Kd.R_lt (by (with_reducible repeat (first|apply Kd.R_alloc|apply Kd.a4z|apply Kd.a5z));exact HO_4.1))) (Kd.R_lt (by (with_reducible repeat (first|apply Kd.R_alloc|apply Kd.a4z|apply Kd.a5z));exact HO_5.1))) (Kd.R_lt (by (with_reducible repeat (first|apply Kd.R_alloc|apply Kd.a4z|apply Kd.a5z));exact HO_7.1))) (Kd.R_lt (by (with_reducible repeat (first|apply Kd.R_alloc|apply Kd.a4z|apply Kd.a5z));exact HO_9.1))) (b1z (by repeat (first|(with_reducible first|exact HB.1|apply a3z|apply a1z|apply a2z)|exact HB.1))));have n6_:=a0z.mk (b3z (by repeat (first|(with_reducible first|exact HB.1|apply a3z|apply a1z|apply a2z)|exact HB.1)) hb);clear HO_3;clear HO_4;clear HO_5;clear HO_7;clear HO_9;clear HB;have HO_3:=n0_;have HO_4:=n1_;have HO_5:=n2_;have HO_7:=n3_;have HO_9:=n4_;have HO126:=n5_;have HB:=n6_;clear n0_ n1_ n2_ n3_ n4_ n5_ n6_;(try clear hb);(try clear hb2);(try clear hk);(try clear hi);(try clear ho0))|((with_reducible refine d4z (N:=94) rfl ?_);refine Kd.R_lit k44 _ 44 ?hg (N:=94) ?hd (xs:=([] : List (S44))) (inner:=[]) (ok:=fun _ => True) (okp:=fun _ => True) ?hr ?hp (fun _ hk => hk) trivial (Below.refl _ _) (Nat.le_refl _) (by simp) ?_;(case hd => rfl);(case hg => rfl);(case hr => first|(go_simp;done)|(go_simp;rfl));(case hp => exact (Reps.none _ _));intro v129 w74 ho75 hb hg_ hnew_;clear hg_ hnew_;(first|rw [← Ny128.1] at ho75|(simp only [Int.reduceToNat] at ho75;rw [← Ny128.1] at ho75));have n0_:=a0z.mk (Kd.c4z (by (with_reducible repeat (first|apply Kd.R_alloc|apply Kd.a4z|apply Kd.a5z));exact HO_3.1) (Kd.d1z ho75) hb);have n1_:=a0z.mk (Kd.c4z (by (with_reducible repeat (first|apply Kd.R_alloc|apply Kd.a4z|apply Kd.a5z));exact HO_4.1) (Kd.d1z ho75) hb);have n2_:=a0z.mk (Kd.c4z (by (with_reducible repeat (first|apply Kd.R_alloc|apply Kd.a4z|apply Kd.a5z));exact HO_5.1) (Kd.d1z ho75) hb);have n3_:=a0z.mk (Kd.c4z (by (with_reducible repeat (first|apply Kd.R_alloc|apply Kd.a4z|apply Kd.a5z));exact HO_7.1) (Kd.d1z ho75) hb);have n4_:=a0z.mk (Kd.c4z (by (with_reducible repeat (first|apply Kd.R_alloc|apply Kd.a4z|apply Kd.a5z));exact HO_9.1) (Kd.d1z ho75) hb);have n5_:=a0z.mk (Kd.c4z (by (with_reducible repeat (first|apply Kd.R_alloc|apply Kd.a4z|apply Kd.a5z));exact HO126.1) (Kd.d1z ho75) hb);have n6_:=a0z.mk (Kd.d5z (Kd.d0z (Kd.d0z (Kd.d0z (Kd.d0z (Kd.d0z (Kd.d0z ho75 (Kd.R_lt (by (with_reducible repeat (first|apply Kd.R_alloc|apply Kd.a4z|apply Kd.a5z));exact HO_3.1))) (Kd.R_lt (by (with_reducible repeat (first|apply Kd.R_alloc|apply Kd.a4z|apply Kd.a5z));exact HO_4.1))) (Kd.R_lt (by (with_reducible repeat (first|apply Kd.R_alloc|apply Kd.a4z|apply Kd.a5z));exact HO_5.1))) (Kd.R_lt (by (with_reducible repeat (first|apply Kd.R_alloc|apply Kd.a4z|apply Kd.a5z));exact HO_7.1))) (Kd.R_lt (by (with_reducible repeat (first|apply Kd.R_alloc|apply Kd.a4z|apply Kd.a5z));exact HO_9.1))) (Kd.R_lt (by (with_reducible repeat (first|apply Kd.R_alloc|apply Kd.a4z|apply Kd.a5z));exact HO126.1))) (b1z (by repeat (first|(with_reducible first|exact HB.1|apply a3z|apply a1z|apply a2z)|exact HB.1))));have n7_:=a0z.mk (b3z (by repeat (first|(with_reducible first|exact HB.1|apply a3z|apply a1z|apply a2z)|exact HB.1)) hb);clear HO_3;clear HO_4;clear HO_5;clear HO_7;clear HO_9;clear HO126;clear HB;have HO_3:=n0_;have HO_4:=n1_;have HO_5:=n2_;have HO_7:=n3_;have HO_9:=n4_;have HO126:=n5_;have HO130:=n6_;have HB:=n7_;clear n0_ n1_ n2_ n3_ n4_ n5_ n6_ n7_;clear hb ho75;obtain ⟨Ao77,co77,eo77⟩:=Kd.d3z HO_5.1;subst eo77)|((with_reducible refine e5z (b:=.append) (xs:=#[.tmp 94,.tmp 95]) rfl ?_);at_builtin;refine Kd.g1z k44 (w0:=w) w.heap.size rfl (.tmp 94) (.tmp 95) 25 44 (.agg #[(.int .i64 0),(.int .i64 0)]) 16 rfl Try.underlying25 info44 rfl (by decide) (by omega) v129 y128 t107 _ _ _ (fun k_ => some k_ ≠ (.slice Ao9 t101.length co9 : Value).ownBlock ∧ some k_ ≠ (.slice Ao10 t102.length co10 : Value).ownBlock ∧ some k_ ≠ (.slice Ao77 t107.length co77 : Value).ownBlock ∧ some k_ ≠ (v113 : Value).ownBlock ∧ some k_ ≠ (v117 : Value).ownBlock ∧ some k_ ≠ (v125 : Value).ownBlock) (fun _ => False) rfl rfl ?aO ?aR (fun _ _ h => h) (fun _ h => h.elim) ?aF ?aB ?aS ?aL ?_;(case aR => repeat (first|exact (Kd.b4z HO_5.1).2.2|(with_reducible refine Kd.C_alloc ?_ _)|(with_reducible refine Kd.C_drewN ?_ _)|(with_reducible refine Kd.C_drew ?_)));(case aB => exact (by repeat (first|(with_reducible first|exact HB.1|apply a3z|apply a1z|apply a2z)|exact HB.1)));(case aF => exact (fun k_ hk => ⟨Kd.fresh' (Kd.R_lt (by (with_reducible repeat (first|apply Kd.R_alloc|apply Kd.a4z|apply Kd.a5z));exact HO_3.1)) k_ hk,Kd.fresh' (Kd.R_lt (by (with_reducible repeat (first|apply Kd.R_alloc|apply Kd.a4z|apply Kd.a5z));exact HO_4.1)) k_ hk,Kd.fresh' (Kd.R_lt (by (with_reducible repeat (first|apply Kd.R_alloc|apply Kd.a4z|apply Kd.a5z));exact HO_5.1)) k_ hk,Kd.fresh' (Kd.R_lt (by (with_reducible repeat (first|apply Kd.R_alloc|apply Kd.a4z|apply Kd.a5z));exact HO_7.1)) k_ hk,Kd.fresh' (Kd.R_lt (by (with_reducible repeat (first|apply Kd.R_alloc|apply Kd.a4z|apply Kd.a5z));exact HO_9.1)) k_ hk,Kd.fresh' (Kd.R_lt (by (with_reducible repeat (first|apply Kd.R_alloc|apply Kd.a4z|apply Kd.a5z));exact HO126.1)) k_ hk⟩));(case aO => exact (by (with_reducible repeat (first|apply Kd.R_alloc|apply Kd.a4z|apply Kd.a5z));exact Kd.b5z HO130.1 (fun _ hk => ⟨hk.1.1.1.1.1.2,⟨hk.1.1.1.1.2,⟨hk.1.1.1.2,⟨hk.1.1.2,⟨hk.1.2,hk.2⟩⟩⟩⟩⟩)));(case aS => exact (b1z (by repeat (first|(with_reducible first|exact HB.1|apply a3z|apply a1z|apply a2z)|exact HB.1))));(case aL => have:=LMc45.1;omega);intro v132 w76 ho hb hg hat;rw [← Ny131.1] at ho;have n0_:=a0z.mk (Kd.c9z (ok:=(fun k_ => some k_ ≠ (.slice Ao10 t102.length co10 : Value).ownBlock ∧ some k_ ≠ (.slice Ao77 t107.length co77 : Value).ownBlock ∧ some k_ ≠ (v113 : Value).ownBlock ∧ some k_ ≠ (v117 : Value).ownBlock ∧ some k_ ≠ (v125 : Value).ownBlock)) (by (with_reducible repeat (first|apply Kd.R_alloc|apply Kd.a4z|apply Kd.a5z));exact Kd.b5z HO_3.1 (fun _ hk => ⟨⟨hk.1.1.1,⟨hk.1.1.2.1,⟨hk.1.1.2.2.1,⟨hk.1.1.2.2.2,hk.1.2⟩⟩⟩⟩,hk.2⟩)) hg hat);have n1_:=a0z.mk (Kd.c9z (ok:=(fun k_ => some k_ ≠ (.slice Ao9 t101.length co9 : Value).ownBlock ∧ some k_ ≠ (.slice Ao77 t107.length co77 : Value).ownBlock ∧ some k_ ≠ (v113 : Value).ownBlock ∧ some k_ ≠ (v117 : Value).ownBlock ∧ some k_ ≠ (v125 : Value).ownBlock)) (by (with_reducible repeat (first|apply Kd.R_alloc|apply Kd.a4z|apply Kd.a5z));exact Kd.b5z HO_4.1 (fun _ hk => ⟨⟨hk.1.1.1,⟨hk.1.1.2.1,⟨hk.1.1.2.2.1,⟨hk.1.1.2.2.2,hk.1.2⟩⟩⟩⟩,hk.2⟩)) hg hat);have n2_:=a0z.mk (Kd.c9z (ok:=(fun k_ => some k_ ≠ (.slice Ao9 t101.length co9 : Value).ownBlock ∧ some k_ ≠ (.slice Ao10 t102.length co10 : Value).ownBlock ∧ some k_ ≠ (v113 : Value).ownBlock ∧ some k_ ≠ (v117 : Value).ownBlock ∧ some k_ ≠ (v125 : Value).ownBlock)) (by (with_reducible repeat (first|apply Kd.R_alloc|apply Kd.a4z|apply Kd.a5z));exact Kd.b5z HO_5.1 (fun _ hk => ⟨⟨hk.1.1.1,⟨hk.1.1.2.1,⟨hk.1.1.2.2.1,⟨hk.1.1.2.2.2,hk.1.2⟩⟩⟩⟩,hk.2⟩)) hg hat);have n3_:=a0z.mk (Kd.c9z (ok:=(fun k_ => some k_ ≠ (.slice Ao9 t101.length co9 : Value).ownBlock ∧ some k_ ≠ (.slice Ao10 t102.length co10 : Value).ownBlock ∧ some k_ ≠ (.slice Ao77 t107.length co77 : Value).ownBlock ∧ some k_ ≠ (v117 : Value).ownBlock ∧ some k_ ≠ (v125 : Value).ownBlock)) (by (with_reducible repeat (first|apply Kd.R_alloc|apply Kd.a4z|apply Kd.a5z));exact Kd.b5z HO_7.1 (fun _ hk => ⟨⟨hk.1.1.1,⟨hk.1.1.2.1,⟨hk.1.1.2.2.1,⟨hk.1.1.2.2.2,hk.1.2⟩⟩⟩⟩,hk.2⟩)) hg hat);have n4_:=a0z.mk (Kd.c9z (ok:=(fun k_ => some k_ ≠ (.slice Ao9 t101.length co9 : Value).ownBlock ∧ some k_ ≠ (.slice Ao10 t102.length co10 : Value).ownBlock ∧ some k_ ≠ (.slice Ao77 t107.length co77 : Value).ownBlock ∧ some k_ ≠ (v113 : Value).ownBlock ∧ some k_ ≠ (v125 : Value).ownBlock)) (by (with_reducible repeat (first|apply Kd.R_alloc|apply Kd.a4z|apply Kd.a5z));exact Kd.b5z HO_9.1 (fun _ hk => ⟨⟨hk.1.1.1,⟨hk.1.1.2.1,⟨hk.1.1.2.2.1,⟨hk.1.1.2.2.2,hk.1.2⟩⟩⟩⟩,hk.2⟩)) hg hat);have n5_:=a0z.mk (Kd.c9z (ok:=(fun k_ => some k_ ≠ (.slice Ao9 t101.length co9 : Value).ownBlock ∧ some k_ ≠ (.slice Ao10 t102.length co10 : Value).ownBlock ∧ some k_ ≠ (.slice Ao77 t107.length co77 : Value).ownBlock ∧ some k_ ≠ (v113 : Value).ownBlock ∧ some k_ ≠ (v117 : Value).ownBlock)) (by (with_reducible repeat (first|apply Kd.R_alloc|apply Kd.a4z|apply Kd.a5z));exact Kd.b5z HO126.1 (fun _ hk => ⟨⟨hk.1.1.1.1.1.2,⟨hk.1.1.1.1.2,⟨hk.1.1.1.2,⟨hk.1.1.2,hk.1.2⟩⟩⟩⟩,hk.2⟩)) hg hat);have n6_:=a0z.mk (hb);have n7_:=a0z.mk (ho);clear HO_3;clear HO_4;clear HO_5;clear HO_7;clear HO_9;clear HO126;clear HB;clear HO130;have HO_3:=n0_;have HO_4:=n1_;have HO_5:=n2_;have HO_7:=n3_;have HO_9:=n4_;have HO126:=n5_;have HB:=n6_;have HO133:=n7_;clear n0_ n1_ n2_ n3_ n4_ n5_ n6_ n7_;clear ho hb hg hat;obtain ⟨Ao79,co79,eo79⟩:=Kd.d3z HO126.1;subst eo79)|((with_reducible refine e5z (b:=.append) (xs:=#[.tmp 96,.tmp 97]) rfl ?_);at_builtin;refine Kd.g1z k44 (w0:=w) w.heap.size rfl (.tmp 96) (.tmp 97) 25 44 (.agg #[(.int .i64 0),(.int .i64 0)]) 16 rfl Try.underlying25 info44 rfl (by decide) (by omega) v132 y131 t123 _ _ _ (fun k_ => some k_ ≠ (.slice Ao9 t101.length co9 : Value).ownBlock ∧ some k_ ≠ (.slice Ao10 t102.length co10 : Value).ownBlock ∧ some k_ ≠ (.slice Ao77 t107.length co77 : Value).ownBlock ∧ some k_ ≠ (v113 : Value).ownBlock ∧ some k_ ≠ (v117 : Value).ownBlock ∧ some k_ ≠ (.slice Ao79 t123.length co79 : Value).ownBlock) (fun _ => False) rfl rfl ?aO ?aR (fun _ _ h => h) (fun _ h => h.elim) ?aF ?aB ?aS ?aL ?_;(case aR => repeat (first|exact (Kd.b4z HO126.1).2.2|(with_reducible refine Kd.C_alloc ?_ _)|(with_reducible refine Kd.C_drewN ?_ _)|(with_reducible refine Kd.C_drew ?_)));(case aB => exact (by repeat (first|(with_reducible first|exact HB.1|apply a3z|apply a1z|apply a2z)|exact HB.1)));(case aF => exact (fun k_ hk => ⟨Kd.fresh' (Kd.R_lt (by (with_reducible repeat (first|apply Kd.R_alloc|apply Kd.a4z|apply Kd.a5z));exact HO_3.1)) k_ hk,Kd.fresh' (Kd.R_lt (by (with_reducible repeat (first|apply Kd.R_alloc|apply Kd.a4z|apply Kd.a5z));exact HO_4.1)) k_ hk,Kd.fresh' (Kd.R_lt (by (with_reducible repeat (first|apply Kd.R_alloc|apply Kd.a4z|apply Kd.a5z));exact HO_5.1)) k_ hk,Kd.fresh' (Kd.R_lt (by (with_reducible repeat (first|apply Kd.R_alloc|apply Kd.a4z|apply Kd.a5z));exact HO_7.1)) k_ hk,Kd.fresh' (Kd.R_lt (by (with_reducible repeat (first|apply Kd.R_alloc|apply Kd.a4z|apply Kd.a5z));exact HO_9.1)) k_ hk,Kd.fresh' (Kd.R_lt (by (with_reducible repeat (first|apply Kd.R_alloc|apply Kd.a4z|apply Kd.a5z));exact HO126.1)) k_ hk⟩));(case aO => exact (by (with_reducible repeat (first|apply Kd.R_alloc|apply Kd.a4z|apply Kd.a5z));exact HO133.1));(case aS => exact (b1z (by repeat (first|(with_reducible first|exact HB.1|apply a3z|apply a1z|apply a2z)|exact HB.1))));(case aL => have:=LMc46.1;omega);intro v135 w78 ho hb hg hat;rw [← Ny134.1] at ho;have n0_:=a0z.mk (Kd.c9z (ok:=(fun k_ => some k_ ≠ (.slice Ao10 t102.length co10 : Value).ownBlock ∧ some k_ ≠ (.slice Ao77 t107.length co77 : Value).ownBlock ∧ some k_ ≠ (v113 : Value).ownBlock ∧ some k_ ≠ (v117 : Value).ownBlock ∧ some k_ ≠ (.slice Ao79 t123.length co79 : Value).ownBlock)) (by (with_reducible repeat (first|apply Kd.R_alloc|apply Kd.a4z|apply Kd.a5z));exact HO_3.1) hg hat);have n1_:=a0z.mk (Kd.c9z (ok:=(fun k_ => some k_ ≠ (.slice Ao9 t101.length co9 : Value).ownBlock ∧ some k_ ≠ (.slice Ao77 t107.length co77 : Value).ownBlock ∧ some k_ ≠ (v113 : Value).ownBlock ∧ some k_ ≠ (v117 : Value).ownBlock ∧ some k_ ≠ (.slice Ao79 t123.length co79 : Value).ownBlock)) (by (with_reducible repeat (first|apply Kd.R_alloc|apply Kd.a4z|apply Kd.a5z));exact HO_4.1) hg hat);have n2_:=a0z.mk (Kd.c9z (ok:=(fun k_ => some k_ ≠ (.slice Ao9 t101.length co9 : Value).ownBlock ∧ some k_ ≠ (.slice Ao10 t102.length co10 : Value).ownBlock ∧ some k_ ≠ (v113 : Value).ownBlock ∧ some k_ ≠ (v117 : Value).ownBlock ∧ some k_ ≠ (.slice Ao79 t123.length co79 : Value).ownBlock)) (by (with_reducible repeat (first|apply Kd.R_alloc|apply Kd.a4z|apply Kd.a5z));exact HO_5.1) hg hat);have n3_:=a0z.mk (Kd.c9z (ok:=(fun k_ => some k_ ≠ (.slice Ao9 t101.length co9 : Value).ownBlock ∧ some k_ ≠ (.slice Ao10 t102.length co10 : Value).ownBlock ∧ some k_ ≠ (.slice Ao77 t107.length co77 : Value).ownBlock ∧ some k_ ≠ (v117 : Value).ownBlock ∧ some k_ ≠ (.slice Ao79 t123.length co79 : Value).ownBlock)) (by (with_reducible repeat (first|apply Kd.R_alloc|apply Kd.a4z|apply Kd.a5z));exact HO_7.1) hg hat);have n4_:=a0z.mk (Kd.c9z (ok:=(fun k_ => some k_ ≠ (.slice Ao9 t101.length co9 : Value).ownBlock ∧ some k_ ≠ (.slice Ao10 t102.length co10 : Value).ownBlock ∧ some k_ ≠ (.slice Ao77 t107.length co77 : Value).ownBlock ∧ some k_ ≠ (v113 : Value).ownBlock ∧ some k_ ≠ (.slice Ao79 t123.length co79 : Value).ownBlock)) (by (with_reducible repeat (first|apply Kd.R_alloc|apply Kd.a4z|apply Kd.a5z));exact HO_9.1) hg hat);have n5_:=a0z.mk (Kd.c9z (ok:=(fun k_ => some k_ ≠ (.slice Ao9 t101.length co9 : Value).ownBlock ∧ some k_ ≠ (.slice Ao10 t102.length co10 : Value).ownBlock ∧ some k_ ≠ (.slice Ao77 t107.length co77 : Value).ownBlock ∧ some k_ ≠ (v113 : Value).ownBlock ∧ some k_ ≠ (v117 : Value).ownBlock)) (by (with_reducible repeat (first|apply Kd.R_alloc|apply Kd.a4z|apply Kd.a5z));exact HO126.1) hg hat);have n6_:=a0z.mk (hb);have n7_:=a0z.mk (ho);clear HO_3;clear HO_4;clear HO_5;clear HO_7;clear HO_9;clear HO126;clear HB;clear HO133;have HO_3:=n0_;have HO_4:=n1_;have HO_5:=n2_;have HO_7:=n3_;have HO_9:=n4_;have HO126:=n5_;have HB:=n6_;have HO136:=n7_;clear n0_ n1_ n2_ n3_ n4_ n5_ n6_ n7_;clear ho hb hg hat;obtain ⟨Ao80,co80,eo80⟩:=Kd.d3z HO136.1;subst eo80)|((with_reducible refine b8z (f:=19) rfl ?_);refine d2z (some 99) rfl rfl Try.func19 (by kernel_rfl) rfl #[.slice Ao80 y134.length co80] rfl (by (try simp only [List.map_toArray,List.map_cons,List.map_nil]);first|done|rfl|(simp only [List.length_drop,List.length_take];rfl)) ?_;(with_reducible refine (impl_SetOf.calls kj6 _ _ y134 t137 true _ ?side1 ?side2 A47.1).mono ?_);(case side1 => repeat (first|exact (Kd.b4z HO136.1).2.2|(with_reducible refine Kd.C_alloc ?_ _)|(with_reducible refine Kd.C_drewN ?_ _)|(with_reducible refine Kd.C_drew ?_)));(case side2 => exact (Kd.b4z HO136.1).2.1);rintro e w81 ⟨v139,rfl,ho0,hb⟩;refine ⟨_,rfl,?_⟩;have n0_:=a0z.mk (Kd.c4z (by (with_reducible repeat (first|apply Kd.R_alloc|apply Kd.a4z|apply Kd.a5z));exact HO_3.1) (Kd.d1z ho0) hb);have n1_:=a0z.mk (Kd.c4z (by (with_reducible repeat (first|apply Kd.R_alloc|apply Kd.a4z|apply Kd.a5z));exact HO_4.1) (Kd.d1z ho0) hb);have n2_:=a0z.mk (Kd.c4z (by (with_reducible repeat (first|apply Kd.R_alloc|apply Kd.a4z|apply Kd.a5z));exact HO_5.1) (Kd.d1z ho0) hb);have n3_:=a0z.mk (Kd.c4z (by (with_reducible repeat (first|apply Kd.R_alloc|apply Kd.a4z|apply Kd.a5z));exact HO_7.1) (Kd.d1z ho0) hb);have n4_:=a0z.mk (Kd.c4z (by (with_reducible repeat (first|apply Kd.R_alloc|apply Kd.a4z|apply Kd.a5z));exact HO_9.1) (Kd.d1z ho0) hb);have n5_:=a0z.mk (Kd.c4z (by (with_reducible repeat (first|apply Kd.R_alloc|apply Kd.a4z|apply Kd.a5z));exact HO126.1) (Kd.d1z ho0) hb);have n6_:=a0z.mk (Kd.c4z (by (with_reducible repeat (first|apply Kd.R_alloc|apply Kd.a4z|apply Kd.a5z));exact HO136.1) (Kd.d1z ho0) hb);have n7_:=a0z.mk (Kd.d5z (Kd.d0z (Kd.d0z (Kd.d0z (Kd.d0z (Kd.d0z (Kd.d0z (Kd.d0z ho0 (Kd.R_lt (by (with_reducible repeat (first|apply Kd.R_alloc|apply Kd.a4z|apply Kd.a5z));exact HO_3.1))) (Kd.R_lt (by (with_reducible repeat (first|apply Kd.R_alloc|apply Kd.a4z|apply Kd.a5z));exact HO_4.1))) (Kd.R_lt (by (with_reducible repeat (first|apply Kd.R_alloc|apply Kd.a4z|apply Kd.a5z));exact HO_5.1))) (Kd.R_lt (by (with_reducible repeat (first|apply Kd.R_alloc|apply Kd.a4z|apply Kd.a5z));exact HO_7.1))) (Kd.R_lt (by (with_reducible repeat (first|apply Kd.R_alloc|apply Kd.a4z|apply Kd.a5z));exact HO_9.1))) (Kd.R_lt (by (with_reducible repeat (first|apply Kd.R_alloc|apply Kd.a4z|apply Kd.a5z));exact HO126.1))) (Kd.R_lt (by (with_reducible repeat (first|apply Kd.R_alloc|apply Kd.a4z|apply Kd.a5z));exact HO136.1))) (b1z (by repeat (first|(with_reducible first|exact HB.1|apply a3z|apply a1z|apply a2z)|exact HB.1))));have n8_:=a0z.mk (b3z (by repeat (first|(with_reducible first|exact HB.1|apply a3z|apply a1z|apply a2z)|exact HB.1)) hb);clear HO_3;clear HO_4;clear HO_5;clear HO_7;clear HO_9;clear HO126;clear HO136;clear HB;have HO_3:=n0_;have HO_4:=n1_;have HO_5:=n2_;have HO_7:=n3_;have HO_9:=n4_;have HO126:=n5_;have HO136:=n6_;have HO140:=n7_;have HB:=n8_;clear n0_ n1_ n2_ n3_ n4_ n5_ n6_ n7_ n8_;(try clear hb);(try clear hb2);(try clear hk);(try clear hi);(try clear ho0))|((with_reducible refine b8z (f:=16) rfl ?_);refine d2z (some 103) rfl rfl Try.func16 (by kernel_rfl) rfl #[.slice Ao77 t107.length co77] rfl (by (try simp only [List.map_toArray,List.map_cons,List.map_nil]);first|done|rfl|(simp only [List.length_drop,List.length_take];rfl)) ?_;(with_reducible refine (impl_SetOk.calls kj6 _ _ t107 true _ ?side1 ?side2 A48.1).mono ?_);(case side1 => repeat (first|exact (Kd.b4z HO_5.1).2.2|(with_reducible refine Kd.C_alloc ?_ _)|(with_reducible refine Kd.C_drewN ?_ _)|(with_reducible refine Kd.C_drew ?_)));(case side2 => exact (Kd.b4z HO_5.1).2.1);rintro e w82 ⟨rfl,hb⟩;refine ⟨_,rfl,?_⟩;have n0_:=a0z.mk (Kd.c3z (by (with_reducible repeat (first|apply Kd.R_alloc|apply Kd.a4z|apply Kd.a5z));exact HO_3.1) hb);have n1_:=a0z.mk (Kd.c3z (by (with_reducible repeat (first|apply Kd.R_alloc|apply Kd.a4z|apply Kd.a5z));exact HO_4.1) hb);have n2_:=a0z.mk (Kd.c3z (by (with_reducible repeat (first|apply Kd.R_alloc|apply Kd.a4z|apply Kd.a5z));exact HO_5.1) hb);have n3_:=a0z.mk (Kd.c3z (by (with_reducible repeat (first|apply Kd.R_alloc|apply Kd.a4z|apply Kd.a5z));exact HO_7.1) hb);have n4_:=a0z.mk (Kd.c3z (by (with_reducible repeat (first|apply Kd.R_alloc|apply Kd.a4z|apply Kd.a5z));exact HO_9.1) hb);have n5_:=a0z.mk (Kd.c3z (by (with_reducible repeat (first|apply Kd.R_alloc|apply Kd.a4z|apply Kd.a5z));exact HO126.1) hb);have n6_:=a0z.mk (Kd.c3z (by (with_reducible repeat (first|apply Kd.R_alloc|apply Kd.a4z|apply Kd.a5z));exact HO136.1) hb);have n7_:=a0z.mk (Kd.c3z (by (with_reducible repeat (first|apply Kd.R_alloc|apply Kd.a4z|apply Kd.a5z));exact HO140.1) hb);have n8_:=a0z.mk (b3z (by repeat (first|(with_reducible first|exact HB.1|apply a3z|apply a1z|apply a2z)|exact HB.1)) hb);clear HO_3;clear HO_4;clear HO_5;clear HO_7;clear HO_9;clear HO126;clear HO136;clear HO140;clear HB;have HO_3:=n0_;have HO_4:=n1_;have HO_5:=n2_;have HO_7:=n3_;have HO_9:=n4_;have HO126:=n5_;have HO136:=n6_;have HO140:=n7_;have HB:=n8_;clear n0_ n1_ n2_ n3_ n4_ n5_ n6_ n7_ n8_;(try clear hb);(try clear hb2);(try clear hk);(try clear hi))|(go_at_call 16;(with_reducible refine (impl_SetOk.calls kj6 _ _ t123 true _ ?side1 ?side2 A50.1).mono ?_);(case side1 => repeat (first|exact (Kd.b4z HO126.1).2.2|(with_reducible refine Kd.C_alloc ?_ _)|(with_reducible refine Kd.C_drewN ?_ _)|(with_reducible refine Kd.C_drew ?_)));(case side2 => exact (Kd.b4z HO126.1).2.1);rintro e w83 ⟨rfl,hb⟩;have n0_:=a0z.mk (Kd.c3z (by (with_reducible repeat (first|apply Kd.R_alloc|apply Kd.a4z|apply Kd.a5z));exact HO_3.1) hb);have n1_:=a0z.mk (Kd.c3z (by (with_reducible repeat (first|apply Kd.R_alloc|apply Kd.a4z|apply Kd.a5z));exact HO_4.1) hb);have n2_:=a0z.mk (Kd.c3z (by (with_reducible repeat (first|apply Kd.R_alloc|apply Kd.a4z|apply Kd.a5z));exact HO_5.1) hb);have n3_:=a0z.mk (Kd.c3z (by (with_reducible repeat (first|apply Kd.R_alloc|apply Kd.a4z|apply Kd.a5z));exact HO_7.1) hb);have n4_:=a0z.mk (Kd.c3z (by (with_reducible repeat (first|apply Kd.R_alloc|apply Kd.a4z|apply Kd.a5z));exact HO_9.1) hb);have n5_:=a0z.mk (Kd.c3z (by (with_reducible repeat (first|apply Kd.R_alloc|apply Kd.a4z|apply Kd.a5z));exact HO126.1) hb);have n6_:=a0z.mk (Kd.c3z (by (with_reducible repeat (first|apply Kd.R_alloc|apply Kd.a4z|apply Kd.a5z));exact HO136.1) hb);have n7_:=a0z.mk (Kd.c3z (by (with_reducible repeat (first|apply Kd.R_alloc|apply Kd.a4z|apply Kd.a5z));exact HO140.1) hb);have n8_:=a0z.mk (b3z (by repeat (first|(with_reducible first|exact HB.1|apply a3z|apply a1z|apply a2z)|exact HB.1)) hb);clear HO_3;clear HO_4;clear HO_5;clear HO_7;clear HO_9;clear HO126;clear HO136;clear HO140;clear HB;have HO_3:=n0_;have HO_4:=n1_;have HO_5:=n2_;have HO_7:=n3_;have HO_9:=n4_;have HO126:=n5_;have HO136:=n6_;have HO140:=n7_;have HB:=n8_;clear n0_ n1_ n2_ n3_ n4_ n5_ n6_ n7_ n8_;(try clear hb);(try clear hb2);(try clear hk);(try clear hi);obtain ⟨Ao84,co84,eo84⟩:=Kd.d3z HO140.1;subst eo84)|(go_at_call 29;(with_reducible refine (laws_ovBlocks.calls kj6 _ _ t137 _ _ t101 false _ ?side1 ?side2 ?side3 ?side4 A53.1).mono ?_);(case side1 => repeat (first|exact (Kd.b4z HO140.1).2.2|(with_reducible refine Kd.C_alloc ?_ _)|(with_reducible refine Kd.C_drewN ?_ _)|(with_reducible refine Kd.C_drew ?_)));(case side2 => exact (Kd.b4z HO140.1).2.1);(case side3 => repeat (first|exact (Kd.b4z HO_3.1).2.2|(with_reducible refine Kd.C_alloc ?_ _)|(with_reducible refine Kd.C_drewN ?_ _)|(with_reducible refine Kd.C_drew ?_)));(case side4 => exact (Kd.b4z HO_3.1).2.1);rintro e w' ⟨rfl,⟨nd,rfl⟩⟩))
            go_ret
            exact ⟨by first|rfl|(simp [c2z,c1z] <;> rfl)|(simp [*,c2z,c1z] <;> rfl),by repeat (first|(with_reducible first|exact HB.1|apply a3z|apply a1z|apply a2z)|exact HB.1)⟩
          ·replace c52:=Bool.eq_false_iff.mpr c52
           subst c52
           have H1 : ((impl_SetSize.f kj6 t107).bind fun t147 => ((impl_SetSize.f kj6 t123).bind fun t148 => ((impl_SetSize.f kj6 t101).bind fun t149 => (some ((wrap64 (t147 + t148)) == t149))))) = some r:=by rw [if_neg (show ¬ (false = true) by decide)] at H;exact H
           clear H
           have H:=H1
           clear H1
           replace H:=Option.bind_eq_some_iff.mp H
           obtain ⟨t147,A850,H⟩:=H
           replace H : ((impl_SetSize.f kj6 t123).bind fun t148 => ((impl_SetSize.f kj6 t101).bind fun t149 => (some ((wrap64 (t147 + t148)) == t149)))) = some r:=H
           have A85:=a0z.mk A850
           clear A850
           replace H:=Option.bind_eq_some_iff.mp H
           obtain ⟨t148,A860,H⟩:=H
           replace H : ((impl_SetSize.f kj6 t101).bind fun t149 => (some ((wrap64 (t147 + t148)) == t149))) = some r:=H
           have A86:=a0z.mk A860
           clear A860
           replace H:=Option.bind_eq_some_iff.mp H
           obtain ⟨t149,A870,H⟩:=H
           replace H : (some ((wrap64 (t147 + t148)) == t149)) = some r:=H
           have A87:=a0z.mk A870
           clear A870
           obtain rfl:=Option.some.inj H
           go_wp2_with (first|((with_reducible refine b8z (f:=27) rfl ?_);refine d2z (some 86) rfl rfl Try.func27 (by kernel_rfl) rfl #[.slice Ao9 t101.length co9,.slice Ao10 t102.length co10] rfl (by (try simp only [List.map_toArray,List.map_cons,List.map_nil]);first|done|rfl|(simp only [List.length_drop,List.length_take];rfl)) ?_;(with_reducible refine (impl_SetLess.calls kj6 _ _ t101 _ _ t102 t123 true _ ?side1 ?side2 ?side3 ?side4 A43.1).mono ?_);(case side1 => repeat (first|exact (Kd.b4z HO_3.1).2.2|(with_reducible refine Kd.C_alloc ?_ _)|(with_reducible refine Kd.C_drewN ?_ _)|(with_reducible refine Kd.C_drew ?_)));(case side2 => exact (Kd.b4z HO_3.1).2.1);(case side3 => repeat (first|exact (Kd.b4z HO_4.1).2.2|(with_reducible refine Kd.C_alloc ?_ _)|(with_reducible refine Kd.C_drewN ?_ _)|(with_reducible refine Kd.C_drew ?_)));(case side4 => exact (Kd.b4z HO_4.1).2.1);rintro e w88 ⟨v125,rfl,ho0,hb⟩;refine ⟨_,rfl,?_⟩;have n0_:=a0z.mk (Kd.c4z (by (with_reducible repeat (first|apply Kd.R_alloc|apply Kd.a4z|apply Kd.a5z));exact HO_3.1) (Kd.d1z ho0) hb);have n1_:=a0z.mk (Kd.c4z (by (with_reducible repeat (first|apply Kd.R_alloc|apply Kd.a4z|apply Kd.a5z));exact HO_4.1) (Kd.d1z ho0) hb);have n2_:=a0z.mk (Kd.c4z (by (with_reducible repeat (first|apply Kd.R_alloc|apply Kd.a4z|apply Kd.a5z));exact HO_5.1) (Kd.d1z ho0) hb);have n3_:=a0z.mk (Kd.c4z (by (with_reducible repeat (first|apply Kd.R_alloc|apply Kd.a4z|apply Kd.a5z));exact HO_7.1) (Kd.d1z ho0) hb);have n4_:=a0z.mk (Kd.c4z (by (with_reducible repeat (first|apply Kd.R_alloc|apply Kd.a4z|apply Kd.a5z));exact HO_9.1) (Kd.d1z ho0) hb);have n5_:=a0z.mk (Kd.d5z (Kd.d0z (Kd.d0z (Kd.d0z (Kd.d0z (Kd.d0z ho0 (Kd.R_lt (by (with_reducible repeat (first|apply Kd.R_alloc|apply Kd.a4z|apply Kd.a5z));exact HO_3.1))) (Kd.R_lt (by (with_reducible repeat (first|apply Kd.R_alloc|apply Kd.a4z|apply Kd.a5z));exact HO_4.1))) (Kd.R_lt (by (with_reducible repeat (first|apply Kd.R_alloc|apply Kd.a4z|apply Kd.a5z));exact HO_5.1))) (Kd.R_lt (by (with_reducible repeat (first|apply Kd.R_alloc|apply Kd.a4z|apply Kd.a5z));exact HO_7.1))) (Kd.R_lt (by (with_reducible repeat (first|apply Kd.R_alloc|apply Kd.a4z|apply Kd.a5z));exact HO_9.1))) (b1z (by repeat (first|(with_reducible first|exact HB.1|apply a3z|apply a1z|apply a2z)|exact HB.1))));have n6_:=a0z.mk (b3z (by repeat (first|(with_reducible first|exact HB.1|apply a3z|apply a1z|apply a2z)|exact HB.1)) hb);clear HO_3;clear HO_4;clear HO_5;clear HO_7;clear HO_9;clear HB;have HO_3:=n0_;have HO_4:=n1_;have HO_5:=n2_;have HO_7:=n3_;have HO_9:=n4_;have HO126:=n5_;have HB:=n6_;clear n0_ n1_ n2_ n3_ n4_ n5_ n6_;(try clear hb);(try clear hb2);(try clear hk);(try clear hi);(try clear ho0))|((with_reducible refine d4z (N:=94) rfl ?_);refine Kd.R_lit k44 _ 44 ?hg (N:=94) ?hd (xs:=([] : List (S44))) (inner:=[]) (ok:=fun _ => True) (okp:=fun _ => True) ?hr ?hp (fun _ hk => hk) trivial (Below.refl _ _) (Nat.le_refl _) (by simp) ?_;(case hd => rfl);(case hg => rfl);(case hr => first|(go_simp;done)|(go_simp;rfl));(case hp => exact (Reps.none _ _));intro v129 w89 ho90 hb hg_ hnew_;clear hg_ hnew_;(first|rw [← Ny128.1] at ho90|(simp only [Int.reduceToNat] at ho90;rw [← Ny128.1] at ho90));have n0_:=a0z.mk (Kd.c4z (by (with_reducible repeat (first|apply Kd.R_alloc|apply Kd.a4z|apply Kd.a5z));exact HO_3.1) (Kd.d1z ho90) hb);have n1_:=a0z.mk (Kd.c4z (by (with_reducible repeat (first|apply Kd.R_alloc|apply Kd.a4z|apply Kd.a5z));exact HO_4.1) (Kd.d1z ho90) hb);have n2_:=a0z.mk (Kd.c4z (by (with_reducible repeat (first|apply Kd.R_alloc|apply Kd.a4z|apply Kd.a5z));exact HO_5.1) (Kd.d1z ho90) hb);have n3_:=a0z.mk (Kd.c4z (by (with_reducible repeat (first|apply Kd.R_alloc|apply Kd.a4z|apply Kd.a5z));exact HO_7.1) (Kd.d1z ho90) hb);have n4_:=a0z.mk (Kd.c4z (by (with_reducible repeat (first|apply Kd.R_alloc|apply Kd.a4z|apply Kd.a5z));exact HO_9.1) (Kd.d1z ho90) hb);have n5_:=a0z.mk (Kd.c4z (by (with_reducible repeat (first|apply Kd.R_alloc|apply Kd.a4z|apply Kd.a5z));exact HO126.1) (Kd.d1z ho90) hb);have n6_:=a0z.mk (Kd.d5z (Kd.d0z (Kd.d0z (Kd.d0z (Kd.d0z (Kd.d0z (Kd.d0z ho90 (Kd.R_lt (by (with_reducible repeat (first|apply Kd.R_alloc|apply Kd.a4z|apply Kd.a5z));exact HO_3.1))) (Kd.R_lt (by (with_reducible repeat (first|apply Kd.R_alloc|apply Kd.a4z|apply Kd.a5z));exact HO_4.1))) (Kd.R_lt (by (with_reducible repeat (first|apply Kd.R_alloc|apply Kd.a4z|apply Kd.a5z));exact HO_5.1))) (Kd.R_lt (by (with_reducible repeat (first|apply Kd.R_alloc|apply Kd.a4z|apply Kd.a5z));exact HO_7.1))) (Kd.R_lt (by (with_reducible repeat (first|apply Kd.R_alloc|apply Kd.a4z|apply Kd.a5z));exact HO_9.1))) (Kd.R_lt (by (with_reducible repeat (first|apply Kd.R_alloc|apply Kd.a4z|apply Kd.a5z));exact HO126.1))) (b1z (by repeat (first|(with_reducible first|exact HB.1|apply a3z|apply a1z|apply a2z)|exact HB.1))));have n7_:=a0z.mk (b3z (by repeat (first|(with_reducible first|exact HB.1|apply a3z|apply a1z|apply a2z)|exact HB.1)) hb);clear HO_3;clear HO_4;clear HO_5;clear HO_7;clear HO_9;clear HO126;clear HB;have HO_3:=n0_;have HO_4:=n1_;have HO_5:=n2_;have HO_7:=n3_;have HO_9:=n4_;have HO126:=n5_;have HO130:=n6_;have HB:=n7_;clear n0_ n1_ n2_ n3_ n4_ n5_ n6_ n7_;clear hb ho90;obtain ⟨Ao92,co92,eo92⟩:=Kd.d3z HO_5.1;subst eo92)|((with_reducible refine e5z (b:=.append) (xs:=#[.tmp 94,.tmp 95]) rfl ?_);at_builtin;refine Kd.g1z k44 (w0:=w) w.heap.size rfl (.tmp 94) (.tmp 95) 25 44 (.agg #[(.int .i64 0),(.int .i64 0)]) 16 rfl Try.underlying25 info44 rfl (by decide) (by omega) v129 y128 t107 _ _ _ (fun k_ => some k_ ≠ (.slice Ao9 t101.length co9 : Value).ownBlock ∧ some k_ ≠ (.slice Ao10 t102.length co10 : Value).ownBlock ∧ some k_ ≠ (.slice Ao92 t107.length co92 : Value).ownBlock ∧ some k_ ≠ (v113 : Value).ownBlock ∧ some k_ ≠ (v117 : Value).ownBlock ∧ some k_ ≠ (v125 : Value).ownBlock) (fun _ => False) rfl rfl ?aO ?aR (fun _ _ h => h) (fun _ h => h.elim) ?aF ?aB ?aS ?aL ?_;(case aR => repeat (first|exact (Kd.b4z HO_5.1).2.2|(with_reducible refine Kd.C_alloc ?_ _)|(with_reducible refine Kd.C_drewN ?_ _)|(with_reducible refine Kd.C_drew ?_)));(case aB => exact (by repeat (first|(with_reducible first|exact HB.1|apply a3z|apply a1z|apply a2z)|exact HB.1)));(case aF => exact (fun k_ hk => ⟨Kd.fresh' (Kd.R_lt (by (with_reducible repeat (first|apply Kd.R_alloc|apply Kd.a4z|apply Kd.a5z));exact HO_3.1)) k_ hk,Kd.fresh' (Kd.R_lt (by (with_reducible repeat (first|apply Kd.R_alloc|apply Kd.a4z|apply Kd.a5z));exact HO_4.1)) k_ hk,Kd.fresh' (Kd.R_lt (by (with_reducible repeat (first|apply Kd.R_alloc|apply Kd.a4z|apply Kd.a5z));exact HO_5.1)) k_ hk,Kd.fresh' (Kd.R_lt (by (with_reducible repeat (first|apply Kd.R_alloc|apply Kd.a4z|apply Kd.a5z));exact HO_7.1)) k_ hk,Kd.fresh' (Kd.R_lt (by (with_reducible repeat (first|apply Kd.R_alloc|apply Kd.a4z|apply Kd.a5z));exact HO_9.1)) k_ hk,Kd.fresh' (Kd.R_lt (by (with_reducible repeat (first|apply Kd.R_alloc|apply Kd.a4z|apply Kd.a5z));exact HO126.1)) k_ hk⟩));(case aO => exact (by (with_reducible repeat (first|apply Kd.R_alloc|apply Kd.a4z|apply Kd.a5z));exact Kd.b5z HO130.1 (fun _ hk => ⟨hk.1.1.1.1.1.2,⟨hk.1.1.1.1.2,⟨hk.1.1.1.2,⟨hk.1.1.2,⟨hk.1.2,hk.2⟩⟩⟩⟩⟩)));(case aS => exact (b1z (by repeat (first|(with_reducible first|exact HB.1|apply a3z|apply a1z|apply a2z)|exact HB.1))));(case aL => have:=LMc45.1;omega);intro v132 w91 ho hb hg hat;rw [← Ny131.1] at ho;have n0_:=a0z.mk (Kd.c9z (ok:=(fun k_ => some k_ ≠ (.slice Ao10 t102.length co10 : Value).ownBlock ∧ some k_ ≠ (.slice Ao92 t107.length co92 : Value).ownBlock ∧ some k_ ≠ (v113 : Value).ownBlock ∧ some k_ ≠ (v117 : Value).ownBlock ∧ some k_ ≠ (v125 : Value).ownBlock)) (by (with_reducible repeat (first|apply Kd.R_alloc|apply Kd.a4z|apply Kd.a5z));exact Kd.b5z HO_3.1 (fun _ hk => ⟨⟨hk.1.1.1,⟨hk.1.1.2.1,⟨hk.1.1.2.2.1,⟨hk.1.1.2.2.2,hk.1.2⟩⟩⟩⟩,hk.2⟩)) hg hat);have n1_:=a0z.mk (Kd.c9z (ok:=(fun k_ => some k_ ≠ (.slice Ao9 t101.length co9 : Value).ownBlock ∧ some k_ ≠ (.slice Ao92 t107.length co92 : Value).ownBlock ∧ some k_ ≠ (v113 : Value).ownBlock ∧ some k_ ≠ (v117 : Value).ownBlock ∧ some k_ ≠ (v125 : Value).ownBlock)) (by (with_reducible repeat (first|apply Kd.R_alloc|apply Kd.a4z|apply Kd.a5z));exact Kd.b5z HO_4.1 (fun _ hk => ⟨⟨hk.1.1.1,⟨hk.1.1.2.1,⟨hk.1.1.2.2.1,⟨hk.1.1.2.2.2,hk.1.2⟩⟩⟩⟩,hk.2⟩)) hg hat);have n2_:=a0z.mk (Kd.c9z (ok:=(fun k_ => some k_ ≠ (.slice Ao9 t101.length co9 : Value).ownBlock ∧ some k_ ≠ (.slice Ao10 t102.length co10 : Value).ownBlock ∧ some k_ ≠ (v113 : Value).ownBlock ∧ some k_ ≠ (v117 : Value).ownBlock ∧ some k_ ≠ (v125 : Value).ownBlock)) (by (with_reducible repeat (first|apply Kd.R_alloc|apply Kd.a4z|apply Kd.a5z));exact Kd.b5z HO_5.1 (fun _ hk => ⟨⟨hk.1.1.1,⟨hk.1.1.2.1,⟨hk.1.1.2.2.1,⟨hk.1.1.2.2.2,hk.1.2⟩⟩⟩⟩,hk.2⟩)) hg hat);have n3_:=a0z.mk (Kd.c9z (ok:=(fun k_ => some k_ ≠ (.slice Ao9 t101.length co9 : Value).ownBlock ∧ some k_ ≠ (.slice Ao10 t102.length co10 : Value).ownBlock ∧ some k_ ≠ (.slice Ao92 t107.length co92 : Value).ownBlock ∧ some k_ ≠ (v117 : Value).ownBlock ∧ some k_ ≠ (v125 : Value).ownBlock)) (by (with_reducible repeat (first|apply Kd.R_alloc|apply Kd.a4z|apply Kd.a5z));exact Kd.b5z HO_7.1 (fun _ hk => ⟨⟨hk.1.1.1,⟨hk.1.1.2.1,⟨hk.1.1.2.2.1,⟨hk.1.1.2.2.2,hk.1.2⟩⟩⟩⟩,hk.2⟩)) hg hat);have n4_:=a0z.mk (Kd.c9z (ok:=(fun k_ => some k_ ≠ (.slice Ao9 t101.length co9 : Value).ownBlock ∧ some k_ ≠ (.slice Ao10 t102.length co10 : Value).ownBlock ∧ some k_ ≠ (.slice Ao92 t107.length co92 : Value).ownBlock ∧ some k_ ≠ (v113 : Value).ownBlock ∧ some k_ ≠ (v125 : Value).ownBlock)) (by (with_reducible repeat (first|apply Kd.R_alloc|apply Kd.a4z|apply Kd.a5z));exact Kd.b5z HO_9.1 (fun _ hk => ⟨⟨hk.1.1.1,⟨hk.1.1.2.1,⟨hk.1.1.2.2.1,⟨hk.1.1.2.2.2,hk.1.2⟩⟩⟩⟩,hk.2⟩)) hg hat);have n5_:=a0z.mk (Kd.c9z (ok:=(fun k_ => some k_ ≠ (.slice Ao9 t101.length co9 : Value).ownBlock ∧ some k_ ≠ (.slice Ao10 t102.length co10 : Value).ownBlock ∧ some k_ ≠ (.slice Ao92 t107.length co92 : Value).ownBlock ∧ some k_ ≠ (v113 : Value).ownBlock ∧ some k_ ≠ (v117 : Value).ownBlock)) (by (with_reducible repeat (first|apply Kd.R_alloc|apply Kd.a4z|apply Kd.a5z));exact Kd.b5z HO126.1 (fun _ hk => ⟨⟨hk.1.1.1.1.1.2,⟨hk.1.1.1.1.2,⟨hk.1.1.1.2,⟨hk.1.1.2,hk.1.2⟩⟩⟩⟩,hk.2⟩)) hg hat);have n6_:=a0z.mk (hb);have n7_:=a0z.mk (ho);clear HO_3;clear HO_4;clear HO_5;clear HO_7;clear HO_9;clear HO126;clear HB;clear HO130;have HO_3:=n0_;have HO_4:=n1_;have HO_5:=n2_;have HO_7:=n3_;have HO_9:=n4_;have HO126:=n5_;have HB:=n6_;have HO133:=n7_;clear n0_ n1_ n2_ n3_ n4_ n5_ n6_ n7_;clear ho hb hg hat;obtain ⟨Ao94,co94,eo94⟩:=Kd.d3z HO126.1;subst eo94)|((with_reducible refine e5z (b:=.append) (xs:=#[.tmp 96,.tmp 97]) rfl ?_);at_builtin;refine Kd.g1z k44 (w0:=w) w.heap.size rfl (.tmp 96) (.tmp 97) 25 44 (.agg #[(.int .i64 0),(.int .i64 0)]) 16 rfl Try.underlying25 info44 rfl (by decide) (by omega) v132 y131 t123 _ _ _ (fun k_ => some k_ ≠ (.slice Ao9 t101.length co9 : Value).ownBlock ∧ some k_ ≠ (.slice Ao10 t102.length co10 : Value).ownBlock ∧ some k_ ≠ (.slice Ao92 t107.length co92 : Value).ownBlock ∧ some k_ ≠ (v113 : Value).ownBlock ∧ some k_ ≠ (v117 : Value).ownBlock ∧ some k_ ≠ (.slice Ao94 t123.length co94 : Value).ownBlock) (fun _ => False) rfl rfl ?aO ?aR (fun _ _ h => h) (fun _ h => h.elim) ?aF ?aB ?aS ?aL ?_;(case aR => repeat (first|exact (Kd.b4z HO126.1).2.2|(with_reducible refine Kd.C_alloc ?_ _)|(with_reducible refine Kd.C_drewN ?_ _)|(with_reducible refine Kd.C_drew ?_)));(case aB => exact (by repeat (first|(with_reducible first|exact HB.1|apply a3z|apply a1z|apply a2z)|exact HB.1)));(case aF => exact (fun k_ hk => ⟨Kd.fresh' (Kd.R_lt (by (with_reducible repeat (first|apply Kd.R_alloc|apply Kd.a4z|apply Kd.a5z));exact HO_3.1)) k_ hk,Kd.fresh' (Kd.R_lt (by (with_reducible repeat (first|apply Kd.R_alloc|apply Kd.a4z|apply Kd.a5z));exact HO_4.1)) k_ hk,Kd.fresh' (Kd.R_lt (by (with_reducible repeat (first|apply Kd.R_alloc|apply Kd.a4z|apply Kd.a5z));exact HO_5.1)) k_ hk,Kd.fresh' (Kd.R_lt (by (with_reducible repeat (first|apply Kd.R_alloc|apply Kd.a4z|apply Kd.a5z));exact HO_7.1)) k_ hk,Kd.fresh' (Kd.R_lt (by (with_reducible repeat (first|apply Kd.R_alloc|apply Kd.a4z|apply Kd.a5z));exact HO_9.1)) k_ hk,Kd.fresh' (Kd.R_lt (by (with_reducible repeat (first|apply Kd.R_alloc|apply Kd.a4z|apply Kd.a5z));exact HO126.1)) k_ hk⟩));(case aO => exact (by (with_reducible repeat (first|apply Kd.R_alloc|apply Kd.a4z|apply Kd.a5z));exact HO133.1));(case aS => exact (b1z (by repeat (first|(with_reducible first|exact HB.1|apply a3z|apply a1z|apply a2z)|exact HB.1))));(case aL => have:=LMc46.1;omega);intro v135 w93 ho hb hg hat;rw [← Ny134.1] at ho;have n0_:=a0z.mk (Kd.c9z (ok:=(fun k_ => some k_ ≠ (.slice Ao10 t102.length co10 : Value).ownBlock ∧ some k_ ≠ (.slice Ao92 t107.length co92 : Value).ownBlock ∧ some k_ ≠ (v113 : Value).ownBlock ∧ some k_ ≠ (v117 : Value).ownBlock ∧ some k_ ≠ (.slice Ao94 t123.length co94 : Value).ownBlock)) (by (with_reducible repeat (first|apply Kd.R_alloc|apply Kd.a4z|apply Kd.a5z));exact HO_3.1) hg hat);have n1_:=a0z.mk (Kd.c9z (ok:=(fun k_ => some k_ ≠ (.slice Ao9 t101.length co9 : Value).ownBlock ∧ some k_ ≠ (.slice Ao92 t107.length co92 : Value).ownBlock ∧ some k_ ≠ (v113 : Value).ownBlock ∧ some k_ ≠ (v117 : Value).ownBlock ∧ some k_ ≠ (.slice Ao94 t123.length co94 : Value).ownBlock)) (by (with_reducible repeat (first|apply Kd.R_alloc|apply Kd.a4z|apply Kd.a5z));exact HO_4.1) hg hat);have n2_:=a0z.mk (Kd.c9z (ok:=(fun k_ => some k_ ≠ (.slice Ao9 t101.length co9 : Value).ownBlock ∧ some k_ ≠ (.slice Ao10 t102.length co10 : Value).ownBlock ∧ some k_ ≠ (v113 : Value).ownBlock ∧ some k_ ≠ (v117 : Value).ownBlock ∧ some k_ ≠ (.slice Ao94 t123.length co94 : Value).ownBlock)) (by (with_reducible repeat (first|apply Kd.R_alloc|apply Kd.a4z|apply Kd.a5z));exact HO_5.1) hg hat);have n3_:=a0z.mk (Kd.c9z (ok:=(fun k_ => some k_ ≠ (.slice Ao9 t101.length co9 : Value).ownBlock ∧ some k_ ≠ (.slice Ao10 t102.length co10 : Value).ownBlock ∧ some k_ ≠ (.slice Ao92 t107.length co92 : Value).ownBlock ∧ some k_ ≠ (v117 : Value).ownBlock ∧ some k_ ≠ (.slice Ao94 t123.length co94 : Value).ownBlock)) (by (with_reducible repeat (first|apply Kd.R_alloc|apply Kd.a4z|apply Kd.a5z));exact HO_7.1) hg hat);have n4_:=a0z.mk (Kd.c9z (ok:=(fun k_ => some k_ ≠ (.slice Ao9 t101.length co9 : Value).ownBlock ∧ some k_ ≠ (.slice Ao10 t102.length co10 : Value).ownBlock ∧ some k_ ≠ (.slice Ao92 t107.length co92 : Value).ownBlock ∧ some k_ ≠ (v113 : Value).ownBlock ∧ some k_ ≠ (.slice Ao94 t123.length co94 : Value).ownBlock)) (by (with_reducible repeat (first|apply Kd.R_alloc|apply Kd.a4z|apply Kd.a5z));exact HO_9.1) hg hat);have n5_:=a0z.mk (Kd.c9z (ok:=(fun k_ => some k_ ≠ (.slice Ao9 t101.length co9 : Value).ownBlock ∧ some k_ ≠ (.slice Ao10 t102.length co10 : Value).ownBlock ∧ some k_ ≠ (.slice Ao92 t107.length co92 : Value).ownBlock ∧ some k_ ≠ (v113 : Value).ownBlock ∧ some k_ ≠ (v117 : Value).ownBlock)) (by (with_reducible repeat (first|apply Kd.R_alloc|apply Kd.a4z|apply Kd.a5z));exact HO126.1) hg hat);have n6_:=a0z.mk (hb);have n7_:=a0z.mk (ho);clear HO_3;clear HO_4;clear HO_5;clear HO_7;clear HO_9;clear HO126;clear HB;clear HO133;have HO_3:=n0_;have HO_4:=n1_;have HO_5:=n2_;have HO_7:=n3_;have HO_9:=n4_;have HO126:=n5_;have HB:=n6_;have HO136:=n7_;clear n0_ n1_ n2_ n3_ n4_ n5_ n6_ n7_;clear ho hb hg hat;obtain ⟨Ao95,co95,eo95⟩:=Kd.d3z HO136.1;subst eo95)|((with_reducible refine b8z (f:=19) rfl ?_);refine d2z (some 99) rfl rfl Try.func19 (by kernel_rfl) rfl #[.slice Ao95 y134.length co95] rfl (by (try simp only [List.map_toArray,List.map_cons,List.map_nil]);first|done|rfl|(simp only [List.length_drop,List.length_take];rfl)) ?_;(with_reducible refine (impl_SetOf.calls kj6 _ _ y134 t137 false _ ?side1 ?side2 A47.1).mono ?_);(case side1 => repeat (first|exact (Kd.b4z HO136.1).2.2|(with_reducible refine Kd.C_alloc ?_ _)|(with_reducible refine Kd.C_drewN ?_ _)|(with_reducible refine Kd.C_drew ?_)));(case side2 => exact (Kd.b4z HO136.1).2.1);rintro e w96 ⟨v139,rfl,ho0,hb⟩;refine ⟨_,rfl,?_⟩;have n0_:=a0z.mk (Kd.c4z (by (with_reducible repeat (first|apply Kd.R_alloc|apply Kd.a4z|apply Kd.a5z));exact HO_3.1) (Kd.d1z ho0) hb);have n1_:=a0z.mk (Kd.c4z (by (with_reducible repeat (first|apply Kd.R_alloc|apply Kd.a4z|apply Kd.a5z));exact HO_4.1) (Kd.d1z ho0) hb);have n2_:=a0z.mk (Kd.c4z (by (with_reducible repeat (first|apply Kd.R_alloc|apply Kd.a4z|apply Kd.a5z));exact HO_5.1) (Kd.d1z ho0) hb);have n3_:=a0z.mk (Kd.c4z (by (with_reducible repeat (first|apply Kd.R_alloc|apply Kd.a4z|apply Kd.a5z));exact HO_7.1) (Kd.d1z ho0) hb);have n4_:=a0z.mk (Kd.c4z (by (with_reducible repeat (first|apply Kd.R_alloc|apply Kd.a4z|apply Kd.a5z));exact HO_9.1) (Kd.d1z ho0) hb);have n5_:=a0z.mk (Kd.c4z (by (with_reducible repeat (first|apply Kd.R_alloc|apply Kd.a4z|apply Kd.a5z));exact HO126.1) (Kd.d1z ho0) hb);have n6_:=a0z.mk (Kd.c4z (by (with_reducible repeat (first|apply Kd.R_alloc|apply Kd.a4z|apply Kd.a5z));exact HO136.1) (Kd.d1z ho0) hb);have n7_:=a0z.mk (Kd.d5z (Kd.d0z (Kd.d0z (Kd.d0z (Kd.d0z (Kd.d0z (Kd.d0z (Kd.d0z ho0 (Kd.R_lt (by (with_reducible repeat (first|apply Kd.R_alloc|apply Kd.a4z|apply Kd.a5z));exact HO_3.1))) (Kd.R_lt (by (with_reducible repeat (first|apply Kd.R_alloc|apply Kd.a4z|apply Kd.a5z));exact HO_4.1))) (Kd.R_lt (by (with_reducible repeat (first|apply Kd.R_alloc|apply Kd.a4z|apply Kd.a5z));exact HO_5.1))) (Kd.R_lt (by (with_reducible repeat (first|apply Kd.R_alloc|apply Kd.a4z|apply Kd.a5z));exact HO_7.1))) (Kd.R_lt (by (with_reducible repeat (first|apply Kd.R_alloc|apply Kd.a4z|apply Kd.a5z));exact HO_9.1))) (Kd.R_lt (by (with_reducible repeat (first|apply Kd.R_alloc|apply Kd.a4z|apply Kd.a5z));exact HO126.1))) (Kd.R_lt (by (with_reducible repeat (first|apply Kd.R_alloc|apply Kd.a4z|apply Kd.a5z));exact HO136.1))) (b1z (by repeat (first|(with_reducible first|exact HB.1|apply a3z|apply a1z|apply a2z)|exact HB.1))));have n8_:=a0z.mk (b3z (by repeat (first|(with_reducible first|exact HB.1|apply a3z|apply a1z|apply a2z)|exact HB.1)) hb);clear HO_3;clear HO_4;clear HO_5;clear HO_7;clear HO_9;clear HO126;clear HO136;clear HB;have HO_3:=n0_;have HO_4:=n1_;have HO_5:=n2_;have HO_7:=n3_;have HO_9:=n4_;have HO126:=n5_;have HO136:=n6_;have HO140:=n7_;have HB:=n8_;clear n0_ n1_ n2_ n3_ n4_ n5_ n6_ n7_ n8_;(try clear hb);(try clear hb2);(try clear hk);(try clear hi);(try clear ho0))|((with_reducible refine b8z (f:=16) rfl ?_);refine d2z (some 103) rfl rfl Try.func16 (by kernel_rfl) rfl #[.slice Ao92 t107.length co92] rfl (by (try simp only [List.map_toArray,List.map_cons,List.map_nil]);first|done|rfl|(simp only [List.length_drop,List.length_take];rfl)) ?_;(with_reducible refine (impl_SetOk.calls kj6 _ _ t107 true _ ?side1 ?side2 A48.1).mono ?_);(case side1 => repeat (first|exact (Kd.b4z HO_5.1).2.2|(with_reducible refine Kd.C_alloc ?_ _)|(with_reducible refine Kd.C_drewN ?_ _)|(with_reducible refine Kd.C_drew ?_)));(case side2 => exact (Kd.b4z HO_5.1).2.1);rintro e w97 ⟨rfl,hb⟩;refine ⟨_,rfl,?_⟩;have n0_:=a0z.mk (Kd.c3z (by (with_reducible repeat (first|apply Kd.R_alloc|apply Kd.a4z|apply Kd.a5z));exact HO_3.1) hb);have n1_:=a0z.mk (Kd.c3z (by (with_reducible repeat (first|apply Kd.R_alloc|apply Kd.a4z|apply Kd.a5z));exact HO_4.1) hb);have n2_:=a0z.mk (Kd.c3z (by (with_reducible repeat (first|apply Kd.R_alloc|apply Kd.a4z|apply Kd.a5z));exact HO_5.1) hb);have n3_:=a0z.mk (Kd.c3z (by (with_reducible repeat (first|apply Kd.R_alloc|apply Kd.a4z|apply Kd.a5z));exact HO_7.1) hb);have n4_:=a0z.mk (Kd.c3z (by (with_reducible repeat (first|apply Kd.R_alloc|apply Kd.a4z|apply Kd.a5z));exact HO_9.1) hb);have n5_:=a0z.mk (Kd.c3z (by (with_reducible repeat (first|apply Kd.R_alloc|apply Kd.a4z|apply Kd.a5z));exact HO126.1) hb);have n6_:=a0z.mk (Kd.c3z (by (with_reducible repeat (first|apply Kd.R_alloc|apply Kd.a4z|apply Kd.a5z));exact HO136.1) hb);have n7_:=a0z.mk (Kd.c3z (by (with_reducible repeat (first|apply Kd.R_alloc|apply Kd.a4z|apply Kd.a5z));exact HO140.1) hb);have n8_:=a0z.mk (b3z (by repeat (first|(with_reducible first|exact HB.1|apply a3z|apply a1z|apply a2z)|exact HB.1)) hb);clear HO_3;clear HO_4;clear HO_5;clear HO_7;clear HO_9;clear HO126;clear HO136;clear HO140;clear HB;have HO_3:=n0_;have HO_4:=n1_;have HO_5:=n2_;have HO_7:=n3_;have HO_9:=n4_;have HO126:=n5_;have HO136:=n6_;have HO140:=n7_;have HB:=n8_;clear n0_ n1_ n2_ n3_ n4_ n5_ n6_ n7_ n8_;(try clear hb);(try clear hb2);(try clear hk);(try clear hi))|(go_at_call 16;(with_reducible refine (impl_SetOk.calls kj6 _ _ t123 true _ ?side1 ?side2 A50.1).mono ?_);(case side1 => repeat (first|exact (Kd.b4z HO126.1).2.2|(with_reducible refine Kd.C_alloc ?_ _)|(with_reducible refine Kd.C_drewN ?_ _)|(with_reducible refine Kd.C_drew ?_)));(case side2 => exact (Kd.b4z HO126.1).2.1);rintro e w98 ⟨rfl,hb⟩;have n0_:=a0z.mk (Kd.c3z (by (with_reducible repeat (first|apply Kd.R_alloc|apply Kd.a4z|apply Kd.a5z));exact HO_3.1) hb);have n1_:=a0z.mk (Kd.c3z (by (with_reducible repeat (first|apply Kd.R_alloc|apply Kd.a4z|apply Kd.a5z));exact HO_4.1) hb);have n2_:=a0z.mk (Kd.c3z (by (with_reducible repeat (first|apply Kd.R_alloc|apply Kd.a4z|apply Kd.a5z));exact HO_5.1) hb);have n3_:=a0z.mk (Kd.c3z (by (with_reducible repeat (first|apply Kd.R_alloc|apply Kd.a4z|apply Kd.a5z));exact HO_7.1) hb);have n4_:=a0z.mk (Kd.c3z (by (with_reducible repeat (first|apply Kd.R_alloc|apply Kd.a4z|apply Kd.a5z));exact HO_9.1) hb);have n5_:=a0z.mk (Kd.c3z (by (with_reducible repeat (first|apply Kd.R_alloc|apply Kd.a4z|apply Kd.a5z));exact HO126.1) hb);have n6_:=a0z.mk (Kd.c3z (by (with_reducible repeat (first|apply Kd.R_alloc|apply Kd.a4z|apply Kd.a5z));exact HO136.1) hb);have n7_:=a0z.mk (Kd.c3z (by (with_reducible repeat (first|apply Kd.R_alloc|apply Kd.a4z|apply Kd.a5z));exact HO140.1) hb);have n8_:=a0z.mk (b3z (by repeat (first|(with_reducible first|exact HB.1|apply a3z|apply a1z|apply a2z)|exact HB.1)) hb);clear HO_3;clear HO_4;clear HO_5;clear HO_7;clear HO_9;clear HO126;clear HO136;clear HO140;clear HB;have HO_3:=n0_;have HO_4:=n1_;have HO_5:=n2_;have HO_7:=n3_;have HO_9:=n4_;have HO126:=n5_;have HO136:=n6_;have HO140:=n7_;have HB:=n8_;clear n0_ n1_ n2_ n3_ n4_ n5_ n6_ n7_ n8_;(try clear hb);(try clear hb2);(try clear hk);(try clear hi))|(go_at_call 23;(with_reducible refine (impl_SetSize.calls kj6 _ _ t107 t147 _ ?side1 ?side2 A85.1).mono ?_);(case side1 => repeat (first|exact (Kd.b4z HO_5.1).2.2|(with_reducible refine Kd.C_alloc ?_ _)|(with_reducible refine Kd.C_drewN ?_ _)|(with_reducible refine Kd.C_drew ?_)));(case side2 => exact (Kd.b4z HO_5.1).2.1);rintro e w99 ⟨rfl,hb⟩;have n0_:=a0z.mk (Kd.c3z (by (with_reducible repeat (first|apply Kd.R_alloc|apply Kd.a4z|apply Kd.a5z));exact HO_3.1) hb);have n1_:=a0z.mk (Kd.c3z (by (with_reducible repeat (first|apply Kd.R_alloc|apply Kd.a4z|apply Kd.a5z));exact HO_4.1) hb);have n2_:=a0z.mk (Kd.c3z (by (with_reducible repeat (first|apply Kd.R_alloc|apply Kd.a4z|apply Kd.a5z));exact HO_5.1) hb);have n3_:=a0z.mk (Kd.c3z (by (with_reducible repeat (first|apply Kd.R_alloc|apply Kd.a4z|apply Kd.a5z));exact HO_7.1) hb);have n4_:=a0z.mk (Kd.c3z (by (with_reducible repeat (first|apply Kd.R_alloc|apply Kd.a4z|apply Kd.a5z));exact HO_9.1) hb);have n5_:=a0z.mk (Kd.c3z (by (with_reducible repeat (first|apply Kd.R_alloc|apply Kd.a4z|apply Kd.a5z));exact HO126.1) hb);have n6_:=a0z.mk (Kd.c3z (by (with_reducible repeat (first|apply Kd.R_alloc|apply Kd.a4z|apply Kd.a5z));exact HO136.1) hb);have n7_:=a0z.mk (Kd.c3z (by (with_reducible repeat (first|apply Kd.R_alloc|apply Kd.a4z|apply Kd.a5z));exact HO140.1) hb);have n8_:=a0z.mk (b3z (by repeat (first|(with_reducible first|exact HB.1|apply a3z|apply a1z|apply a2z)|exact HB.1)) hb);clear HO_3;clear HO_4;clear HO_5;clear HO_7;clear HO_9;clear HO126;clear HO136;clear HO140;clear HB;have HO_3:=n0_;have HO_4:=n1_;have HO_5:=n2_;have HO_7:=n3_;have HO_9:=n4_;have HO126:=n5_;have HO136:=n6_;have HO140:=n7_;have HB:=n8_;clear n0_ n1_ n2_ n3_ n4_ n5_ n6_ n7_ n8_;(try clear hb);(try clear hb2);(try clear hk);(try clear hi))|(go_at_call 23;(with_reducible refine (impl_SetSize.calls kj6 _ _ t123 t148 _ ?side1 ?side2 A86.1).mono ?_);(case side1 => repeat (first|exact (Kd.b4z HO126.1).2.2|(with_reducible refine Kd.C_alloc ?_ _)|(with_reducible refine Kd.C_drewN ?_ _)|(with_reducible refine Kd.C_drew ?_)));(case side2 => exact (Kd.b4z HO126.1).2.1);rintro e w100 ⟨rfl,hb⟩;have n0_:=a0z.mk (Kd.c3z (by (with_reducible repeat (first|apply Kd.R_alloc|apply Kd.a4z|apply Kd.a5z));exact HO_3.1) hb);have n1_:=a0z.mk (Kd.c3z (by (with_reducible repeat (first|apply Kd.R_alloc|apply Kd.a4z|apply Kd.a5z));exact HO_4.1) hb);have n2_:=a0z.mk (Kd.c3z (by (with_reducible repeat (first|apply Kd.R_alloc|apply Kd.a4z|apply Kd.a5z));exact HO_5.1) hb);have n3_:=a0z.mk (Kd.c3z (by (with_reducible repeat (first|apply Kd.R_alloc|apply Kd.a4z|apply Kd.a5z));exact HO_7.1) hb);have n4_:=a0z.mk (Kd.c3z (by (with_reducible repeat (first|apply Kd.R_alloc|apply Kd.a4z|apply Kd.a5z));exact HO_9.1) hb);have n5_:=a0z.mk (Kd.c3z (by (with_reducible repeat (first|apply Kd.R_alloc|apply Kd.a4z|apply Kd.a5z));exact HO126.1) hb);have n6_:=a0z.mk (Kd.c3z (by (with_reducible repeat (first|apply Kd.R_alloc|apply Kd.a4z|apply Kd.a5z));exact HO136.1) hb);have n7_:=a0z.mk (Kd.c3z (by (with_reducible repeat (first|apply Kd.R_alloc|apply Kd.a4z|apply Kd.a5z));exact HO140.1) hb);have n8_:=a0z.mk (b3z (by repeat (first|(with_reducible first|exact HB.1|apply a3z|apply a1z|apply a2z)|exact HB.1)) hb);clear HO_3;clear HO_4;clear HO_5;clear HO_7;clear HO_9;clear HO126;clear HO136;clear HO140;clear HB;have HO_3:=n0_;have HO_4:=n1_;have HO_5:=n2_;have HO_7:=n3_;have HO_9:=n4_;have HO126:=n5_;have HO136:=n6_;have HO140:=n7_;have HB:=n8_;clear n0_ n1_ n2_ n3_ n4_ n5_ n6_ n7_ n8_;(try clear hb);(try clear hb2);(try clear hk);(try clear hi))|(go_at_call 23;(with_reducible refine (impl_SetSize.calls kj6 _ _ t101 t149 _ ?side1 ?side2 A87.1).mono ?_);(case side1 => repeat (first|exact (Kd.b4z HO_3.1).2.2|(with_reducible refine Kd.C_alloc ?_ _)|(with_reducible refine Kd.C_drewN ?_ _)|(with_reducible refine Kd.C_drew ?_)));(case side2 => exact (Kd.b4z HO_3.1).2.1);rintro e w101 ⟨rfl,hb⟩;have n0_:=a0z.mk (Kd.c3z (by (with_reducible repeat (first|apply Kd.R_alloc|apply Kd.a4z|apply Kd.a5z));exact HO_3.1) hb);have n1_:=a0z.mk (Kd.c3z (by (with_reducible repeat (first|apply Kd.R_alloc|apply Kd.a4z|apply Kd.a5z));exact HO_4.1) hb);have n2_:=a0z.mk (Kd.c3z (by (with_reducible repeat (first|apply Kd.R_alloc|apply Kd.a4z|apply Kd.a5z));exact HO_5.1) hb);have n3_:=a0z.mk (Kd.c3z (by (with_reducible repeat (first|apply Kd.R_alloc|apply Kd.a4z|apply Kd.a5z));exact HO_7.1) hb);have n4_:=a0z.mk (Kd.c3z (by (with_reducible repeat (first|apply Kd.R_alloc|apply Kd.a4z|apply Kd.a5z));exact HO_9.1) hb);have n5_:=a0z.mk (Kd.c3z (by (with_reducible repeat (first|apply Kd.R_alloc|apply Kd.a4z|apply Kd.a5z));exact HO126.1) hb);have n6_:=a0z.mk (Kd.c3z (by (with_reducible repeat (first|apply Kd.R_alloc|apply Kd.a4z|apply Kd.a5z));exact HO136.1) hb);have n7_:=a0z.mk (Kd.c3z (by (with_reducible repeat (first|apply Kd.R_alloc|apply Kd.a4z|apply Kd.a5z));exact HO140.1) hb);have n8_:=a0z.mk (b3z (by repeat (first|(with_reducible first|exact HB.1|apply a3z|apply a1z|apply a2z)|exact HB.1)) hb);clear HO_3;clear HO_4;clear HO_5;clear HO_7;clear HO_9;clear HO126;clear HO136;clear HO140;clear HB;have HO_3:=n0_;have HO_4:=n1_;have HO_5:=n2_;have HO_7:=n3_;have HO_9:=n4_;have HO126:=n5_;have HO136:=n6_;have HO140:=n7_;have HB:=n8_;clear n0_ n1_ n2_ n3_ n4_ n5_ n6_ n7_ n8_;(try clear hb);(try clear hb2);(try clear hk);(try clear hi)))
           go_ret
           exact ⟨by first|rfl|(simp [c2z,c1z] <;> rfl)|(simp [*,c2z,c1z] <;> rfl),by repeat (first|(with_reducible first|exact HB.1|apply a3z|apply a1z|apply a2z)|exact HB.1)⟩
         ·replace c51:=Bool.eq_false_iff.mpr c51
          subst c51
          have H1 : (some false) = some r:=by rw [if_neg (show ¬ (false = true) by decide)] at H;exact H
          clear H
          have H:=H1
          clear H1
          obtain rfl:=Option.some.inj H
          go_wp2_with (first|((with_reducible refine b8z (f:=27) rfl ?_);refine d2z (some 86) rfl rfl Try.func27 (by kernel_rfl) rfl #[.slice Ao9 t101.length co9,.slice Ao10 t102.length co10] rfl (by (try simp only [List.map_toArray,List.map_cons,List.map_nil]);first|done|rfl|(simp only [List.length_drop,List.length_take];rfl)) ?_;(with_reducible refine (impl_SetLess.calls kj6 _ _ t101 _ _ t102 t123 true _ ?side1 ?side2 ?side3 ?side4 A43.1).mono ?_);(case side1 => repeat (first|exact (Kd.b4z HO_3.1).2.2|(with_reducible refine Kd.C_alloc ?_ _)|(with_reducible refine Kd.C_drewN ?_ _)|(with_reducible refine Kd.C_drew ?_)));(case side2 => exact (Kd.b4z HO_3.1).2.1);(case side3 => repeat (first|exact (Kd.b4z HO_4.1).2.2|(with_reducible refine Kd.C_alloc ?_ _)|(with_reducible refine Kd.C_drewN ?_ _)|(with_reducible refine Kd.C_drew ?_)));(case side4 => exact (Kd.b4z HO_4.1).2.1);rintro e w102 ⟨v125,rfl,ho0,hb⟩;refine ⟨_,rfl,?_⟩;have n0_:=a0z.mk (Kd.c4z (by (with_reducible repeat (first|apply Kd.R_alloc|apply Kd.a4z|apply Kd.a5z));exact HO_3.1) (Kd.d1z ho0) hb);have n1_:=a0z.mk (Kd.c4z (by (with_reducible repeat (first|apply Kd.R_alloc|apply Kd.a4z|apply Kd.a5z));exact HO_4.1) (Kd.d1z ho0) hb);have n2_:=a0z.mk (Kd.c4z (by (with_reducible repeat (first|apply Kd.R_alloc|apply Kd.a4z|apply Kd.a5z));exact HO_5.1) (Kd.d1z ho0) hb);have n3_:=a0z.mk (Kd.c4z (by (with_reducible repeat (first|apply Kd.R_alloc|apply Kd.a4z|apply Kd.a5z));exact HO_7.1) (Kd.d1z ho0) hb);have n4_:=a0z.mk (Kd.c4z (by (with_reducible repeat (first|apply Kd.R_alloc|apply Kd.a4z|apply Kd.a5z));exact HO_9.1) (Kd.d1z ho0) hb);have n5_:=a0z.mk (Kd.d5z (Kd.d0z (Kd.d0z (Kd.d0z (Kd.d0z (Kd.d0z ho0 (Kd.R_lt (by (with_reducible repeat (first|apply Kd.R_alloc|apply Kd.a4z|apply Kd.a5z));exact HO_3.1))) (Kd.R_lt (by (with_reducible repeat (first|apply Kd.R_alloc|apply Kd.a4z|apply Kd.a5z));exact HO_4.1))) (Kd.R_lt (by (with_reducible repeat (first|apply Kd.R_alloc|apply Kd.a4z|apply Kd.a5z));exact HO_5.1))) (Kd.R_lt (by (with_reducible repeat (first|apply Kd.R_alloc|apply Kd.a4z|apply Kd.a5z));exact HO_7.1))) (Kd.R_lt (by (with_reducible repeat (first|apply Kd.R_alloc|apply Kd.a4z|apply Kd.a5z));exact HO_9.1))) (b1z (by repeat (first|(with_reducible first|exact HB.1|apply a3z|apply a1z|apply a2z)|exact HB.1))));have n6_:=a0z.mk (b3z (by repeat (first|(with_reducible first|exact HB.1|apply a3z|apply a1z|apply a2z)|exact HB.1)) hb);clear HO_3;clear HO_4;clear HO_5;clear HO_7;clear HO_9;clear HB;have HO_3:=n0_;have HO_4:=n1_;have HO_5:=n2_;have HO_7:=n3_;have HO_9:=n4_;have HO126:=n5_;have HB:=n6_;clear n0_ n1_ n2_ n3_ n4_ n5_ n6_;(try clear hb);(try clear hb2);(try clear hk);(try clear hi);(try clear ho0))|((with_reducible refine d4z (N:=94) rfl ?_);refine Kd.R_lit k44 _ 44 ?hg (N:=94) ?hd (xs:=([] : List (S44))) (inner:=[]) (ok:=fun _ => True) (okp:=fun _ => True) ?hr ?hp (fun _ hk => hk) trivial (Below.refl _ _) (Nat.le_refl _) (by simp) ?_;(case hd => rfl);(case hg => rfl);(case hr => first|(go_simp;done)|(go_simp;rfl));(case hp => exact (Reps.none _ _));intro v129 w103 ho104 hb hg_ hnew_;clear hg_ hnew_;(first|rw [← Ny128.1] at ho104|(simp only [Int.reduceToNat] at ho104;rw [← Ny128.1] at ho104));have n0_:=a0z.mk (Kd.c4z (by (with_reducible repeat (first|apply Kd.R_alloc|apply Kd.a4z|apply Kd.a5z));exact HO_3.1) (Kd.d1z ho104) hb);have n1_:=a0z.mk (Kd.c4z (by (with_reducible repeat (first|apply Kd.R_alloc|apply Kd.a4z|apply Kd.a5z));exact HO_4.1) (Kd.d1z ho104) hb);have n2_:=a0z.mk (Kd.c4z (by (with_reducible repeat (first|apply Kd.R_alloc|apply Kd.a4z|apply Kd.a5z));exact HO_5.1) (Kd.d1z ho104) hb);have n3_:=a0z.mk (Kd.c4z (by (with_reducible repeat (first|apply Kd.R_alloc|apply Kd.a4z|apply Kd.a5z));exact HO_7.1) (Kd.d1z ho104) hb);have n4_:=a0z.mk (Kd.c4z (by (with_reducible repeat (first|apply Kd.R_alloc|apply Kd.a4z|apply Kd.a5z));exact HO_9.1) (Kd.d1z ho104) hb);have n5_:=a0z.mk (Kd.c4z (by (with_reducible repeat (first|apply Kd.R_alloc|apply Kd.a4z|apply Kd.a5z));exact HO126.1) (Kd.d1z ho104) hb);have n6_:=a0z.mk (Kd.d5z (Kd.d0z (Kd.d0z (Kd.d0z (Kd.d0z (Kd.d0z (Kd.d0z ho104 (Kd.R_lt (by (with_reducible repeat (first|apply Kd.R_alloc|apply Kd.a4z|apply Kd.a5z));exact HO_3.1))) (Kd.R_lt (by (with_reducible repeat (first|apply Kd.R_alloc|apply Kd.a4z|apply Kd.a5z));exact HO_4.1))) (Kd.R_lt (by (with_reducible repeat (first|apply Kd.R_alloc|apply Kd.a4z|apply Kd.a5z));exact HO_5.1))) (Kd.R_lt (by (with_reducible repeat (first|apply Kd.R_alloc|apply Kd.a4z|apply Kd.a5z));exact HO_7.1))) (Kd.R_lt (by (with_reducible repeat (first|apply Kd.R_alloc|apply Kd.a4z|apply Kd.a5z));exact HO_9.1))) (Kd.R_lt (by (with_reducible repeat (first|apply Kd.R_alloc|apply Kd.a4z|apply Kd.a5z));exact HO126.1))) (b1z (by repeat (first|(with_reducible first|exact HB.1|apply a3z|apply a1z|apply a2z)|exact HB.1))));have n7_:=a0z.mk (b3z (by repeat (first|(with_reducible first|exact HB.1|apply a3z|apply a1z|apply a2z)|exact HB.1)) hb);clear HO_3;clear HO_4;clear HO_5;clear HO_7;clear HO_9;clear HO126;clear HB;have HO_3:=n0_;have HO_4:=n1_;have HO_5:=n2_;have HO_7:=n3_;have HO_9:=n4_;have HO126:=n5_;have HO130:=n6_;have HB:=n7_;clear n0_ n1_ n2_ n3_ n4_ n5_ n6_ n7_;clear hb ho104;obtain ⟨Ao106,co106,eo106⟩:=Kd.d3z HO_5.1;subst eo106)|((with_reducible refine e5z (b:=.append) (xs:=#[.tmp 94,.tmp 95]) rfl ?_);at_builtin;refine Kd.g1z k44 (w0:=w) w.heap.size rfl (.tmp 94) (.tmp 95) 25 44 (.agg #[(.int .i64 0),(.int .i64 0)]) 16 rfl Try.underlying25 info44 rfl (by decide) (by omega) v129 y128 t107 _ _ _ (fun k_ => some k_ ≠ (.slice Ao9 t101.length co9 : Value).ownBlock ∧ some k_ ≠ (.slice Ao10 t102.length co10 : Value).ownBlock ∧ some k_ ≠ (.slice Ao106 t107.length co106 : Value).ownBlock ∧ some k_ ≠ (v113 : Value).ownBlock ∧ some k_ ≠ (v117 : Value).ownBlock ∧ some k_ ≠ (v125 : Value).ownBlock) (fun _ => False) rfl rfl ?aO ?aR (fun _ _ h => h) (fun _ h => h.elim) ?aF ?aB ?aS ?aL ?_;(case aR => repeat (first|exact (Kd.b4z HO_5.1).2.2|(with_reducible refine Kd.C_alloc ?_ _)|(with_reducible refine Kd.C_drewN ?_ _)|(with_reducible refine Kd.C_drew ?_)));(case aB => exact (by repeat (first|(with_reducible first|exact HB.1|apply a3z|apply a1z|apply a2z)|exact HB.1)));(case aF => exact (fun k_ hk => ⟨Kd.fresh' (Kd.R_lt (by (with_reducible repeat (first|apply Kd.R_alloc|apply Kd.a4z|apply Kd.a5z));exact HO_3.1)) k_ hk,Kd.fresh' (Kd.R_lt (by (with_reducible repeat (first|apply Kd.R_alloc|apply Kd.a4z|apply Kd.a5z));exact HO_4.1)) k_ hk,Kd.fresh' (Kd.R_lt (by (with_reducible repeat (first|apply Kd.R_alloc|apply Kd.a4z|apply Kd.a5z));exact HO_5.1)) k_ hk,Kd.fresh' (Kd.R_lt (by (with_reducible repeat (first|apply Kd.R_alloc|apply Kd.a4z|apply Kd.a5z));exact HO_7.1)) k_ hk,Kd.fresh' (Kd.R_lt (by (with_reducible repeat (first|apply Kd.R_alloc|apply Kd.a4z|apply Kd.a5z));exact HO_9.1)) k_ hk,Kd.fresh' (Kd.R_lt (by (with_reducible repeat (first|apply Kd.R_alloc|apply Kd.a4z|apply Kd.a5z));exact HO126.1)) k_ hk⟩));(case aO => exact (by (with_reducible repeat (first|apply Kd.R_alloc|apply Kd.a4z|apply Kd.a5z));exact Kd.b5z HO130.1 (fun _ hk => ⟨hk.1.1.1.1.1.2,⟨hk.1.1.1.1.2,⟨hk.1.1.1.2,⟨hk.1.1.2,⟨hk.1.2,hk.2⟩⟩⟩⟩⟩)));(case aS => exact (b1z (by repeat (first|(with_reducible first|exact HB.1|apply a3z|apply a1z|apply a2z)|exact HB.1))));(case aL => have:=LMc45.1;omega);intro v132 w105 ho hb hg hat;rw [← Ny131.1] at ho;have n0_:=a0z.mk (Kd.c9z (ok:=(fun k_ => some k_ ≠ (.slice Ao10 t102.length co10 : Value).ownBlock ∧ some k_ ≠ (.slice Ao106 t107.length co106 : Value).ownBlock ∧ some k_ ≠ (v113 : Value).ownBlock ∧ some k_ ≠ (v117 : Value).ownBlock ∧ some k_ ≠ (v125 : Value).ownBlock)) (by (with_reducible repeat (first|apply Kd.R_alloc|apply Kd.a4z|apply Kd.a5z));exact Kd.b5z HO_3.1 (fun _ hk => ⟨⟨hk.1.1.1,⟨hk.1.1.2.1,⟨hk.1.1.2.2.1,⟨hk.1.1.2.2.2,hk.1.2⟩⟩⟩⟩,hk.2⟩)) hg hat);have n1_:=a0z.mk (Kd.c9z (ok:=(fun k_ => some k_ ≠ (.slice Ao9 t101.length co9 : Value).ownBlock ∧ some k_ ≠ (.slice Ao106 t107.length co106 : Value).ownBlock ∧ some k_ ≠ (v113 : Value).ownBlock ∧ some k_ ≠ (v117 : Value).ownBlock ∧ some k_ ≠ (v125 : Value).ownBlock)) (by (with_reducible repeat (first|apply Kd.R_alloc|apply Kd.a4z|apply Kd.a5z));exact Kd.b5z HO_4.1 (fun _ hk => ⟨⟨hk.1.1.1,⟨hk.1.1.2.1,⟨hk.1.1.2.2.1,⟨hk.1.1.2.2.2,hk.1.2⟩⟩⟩⟩,hk.2⟩)) hg hat);have n2_:=a0z.mk (Kd.c9z (ok:=(fun k_ => some k_ ≠ (.slice Ao9 t101.length co9 : Value).ownBlock ∧ some k_ ≠ (.slice Ao10 t102.length co10 : Value).ownBlock ∧ some k_ ≠ (v113 : Value).ownBlock ∧ some k_ ≠ (v117 : Value).ownBlock ∧ some k_ ≠ (v125 : Value).ownBlock)) (by (with_reducible repeat (first|apply Kd.R_alloc|apply Kd.a4z|apply Kd.a5z));exact Kd.b5z HO_5.1 (fun _ hk => ⟨⟨hk.1.1.1,⟨hk.1.1.2.1,⟨hk.1.1.2.2.1,⟨hk.1.1.2.2.2,hk.1.2⟩⟩⟩⟩,hk.2⟩)) hg hat);have n3_:=a0z.mk (Kd.c9z (ok:=(fun k_ => some k_ ≠ (.slice Ao9 t101.length co9 : Value).ownBlock ∧ some k_ ≠ (.slice Ao10 t102.length co10 : Value).ownBlock ∧ some k_ ≠ (.slice Ao106 t107.length co106 : Value).ownBlock ∧ some k_ ≠ (v117 : Value).ownBlock ∧ some k_ ≠ (v125 : Value).ownBlock)) (by (with_reducible repeat (first|apply Kd.R_alloc|apply Kd.a4z|apply Kd.a5z));exact Kd.b5z HO_7.1 (fun _ hk => ⟨⟨hk.1.1.1,⟨hk.1.1.2.1,⟨hk.1.1.2.2.1,⟨hk.1.1.2.2.2,hk.1.2⟩⟩⟩⟩,hk.2⟩)) hg hat);have n4_:=a0z.mk (Kd.c9z (ok:=(fun k_ => some k_ ≠ (.slice Ao9 t101.length co9 : Value).ownBlock ∧ some k_ ≠ (.slice Ao10 t102.length co10 : Value).ownBlock ∧ some k_ ≠ (.slice Ao106 t107.length co106 : Value).ownBlock ∧ some k_ ≠ (v113 : Value).ownBlock ∧ some k_ ≠ (v125 : Value).ownBlock)) (by (with_reducible repeat (first|apply Kd.R_alloc|apply Kd.a4z|apply Kd.a5z));exact Kd.b5z HO_9.1 (fun _ hk => ⟨⟨hk.1.1.1,⟨hk.1.1.2.1,⟨hk.1.1.2.2.1,⟨hk.1.1.2.2.2,hk.1.2⟩⟩⟩⟩,hk.2⟩)) hg hat);have n5_:=a0z.mk (Kd.c9z (ok:=(fun k_ => some k_ ≠ (.slice Ao9 t101.length co9 : Value).ownBlock ∧ some k_ ≠ (.slice Ao10 t102.length co10 : Value).ownBlock ∧ some k_ ≠ (.slice Ao106 t107.length co106 : Value).ownBlock ∧ some k_ ≠ (v113 : Value).ownBlock ∧ some k_ ≠ (v117 : Value).ownBlock)) (by (with_reducible repeat (first|apply Kd.R_alloc|apply Kd.a4z|apply Kd.a5z));exact Kd.b5z HO126.1 (fun _ hk => ⟨⟨hk.1.1.1.1.1.2,⟨hk.1.1.1.1.2,⟨hk.1.1.1.2,⟨hk.1.1.2,hk.1.2⟩⟩⟩⟩,hk.2⟩)) hg hat);have n6_:=a0z.mk (hb);have n7_:=a0z.mk (ho);clear HO_3;clear HO_4;clear HO_5;clear HO_7;clear HO_9;clear HO126;clear HB;clear HO130;have HO_3:=n0_;have HO_4:=n1_;have HO_5:=n2_;have HO_7:=n3_;have HO_9:=n4_;have HO126:=n5_;have HB:=n6_;have HO133:=n7_;clear n0_ n1_ n2_ n3_ n4_ n5_ n6_ n7_;clear ho hb hg hat;obtain ⟨Ao108,co108,eo108⟩:=Kd.d3z HO126.1;subst eo108)|((with_reducible refine e5z (b:=.append) (xs:=#[.tmp 96,.tmp 97]) rfl ?_);at_builtin;refine Kd.g1z k44 (w0:=w) w.heap.size rfl (.tmp 96) (.tmp 97) 25 44 (.agg #[(.int .i64 0),(.int .i64 0)]) 16 rfl Try.underlying25 info44 rfl (by decide) (by omega) v132 y131 t123 _ _ _ (fun k_ => some k_ ≠ (.slice Ao9 t101.length co9 : Value).ownBlock ∧ some k_ ≠ (.slice Ao10 t102.length co10 : Value).ownBlock ∧ some k_ ≠ (.slice Ao106 t107.length co106 : Value).ownBlock ∧ some k_ ≠ (v113 : Value).ownBlock ∧ some k_ ≠ (v117 : Value).ownBlock ∧ some k_ ≠ (.slice Ao108 t123.length co108 : Value).ownBlock) (fun _ => False) rfl rfl ?aO ?aR (fun _ _ h => h) (fun _ h => h.elim) ?aF ?aB ?aS ?aL ?_;(case aR => repeat (first|exact (Kd.b4z HO126.1).2.2|(with_reducible refine Kd.C_alloc ?_ _)|(with_reducible refine Kd.C_drewN ?_ _)|(with_reducible refine Kd.C_drew ?_)));(case aB => exact (by repeat (first|(with_reducible first|exact HB.1|apply a3z|apply a1z|apply a2z)|exact HB.1)));(case aF => exact (fun k_ hk => ⟨Kd.fresh' (Kd.R_lt (by (with_reducible repeat (first|apply Kd.R_alloc|apply Kd.a4z|apply Kd.a5z));exact HO_3.1)) k_ hk,Kd.fresh' (Kd.R_lt (by (with_reducible repeat (first|apply Kd.R_alloc|apply Kd.a4z|apply Kd.a5z));exact HO_4.1)) k_ hk,Kd.fresh' (Kd.R_lt (by (with_reducible repeat (first|apply Kd.R_alloc|apply Kd.a4z|apply Kd.a5z));exact HO_5.1)) k_ hk,Kd.fresh' (Kd.R_lt (by (with_reducible repeat (first|apply Kd.R_alloc|apply Kd.a4z|apply Kd.a5z));exact HO_7.1)) k_ hk,Kd.fresh' (Kd.R_lt (by (with_reducible repeat (first|apply Kd.R_alloc|apply Kd.a4z|apply Kd.a5z));exact HO_9.1)) k_ hk,Kd.fresh' (Kd.R_lt (by (with_reducible repeat (first|apply Kd.R_alloc|apply Kd.a4z|apply Kd.a5z));exact HO126.1)) k_ hk⟩));(case aO => exact (by (with_reducible repeat (first|apply Kd.R_alloc|apply Kd.a4z|apply Kd.a5z));exact HO133.1));(case aS => exact (b1z (by repeat (first|(with_reducible first|exact HB.1|apply a3z|apply a1z|apply a2z)|exact HB.1))));(case aL => have:=LMc46.1;omega);intro v135 w107 ho hb hg hat;rw [← Ny134.1] at ho;have n0_:=a0z.mk (Kd.c9z (ok:=(fun k_ => some k_ ≠ (.slice Ao10 t102.length co10 : Value).ownBlock ∧ some k_ ≠ (.slice Ao106 t107.length co106 : Value).ownBlock ∧ some k_ ≠ (v113 : Value).ownBlock ∧ some k_ ≠ (v117 : Value).ownBlock ∧ some k_ ≠ (.slice Ao108 t123.length co108 : Value).ownBlock)) (by (with_reducible repeat (first|apply Kd.R_alloc|apply Kd.a4z|apply Kd.a5z));exact HO_3.1) hg hat);have n1_:=a0z.mk (Kd.c9z (ok:=(fun k_ => some k_ ≠ (.slice Ao9 t101.length co9 : Value).ownBlock ∧ some k_ ≠ (.slice Ao106 t107.length co106 : Value).ownBlock ∧ some k_ ≠ (v113 : Value).ownBlock ∧ some k_ ≠ (v117 : Value).ownBlock ∧ some k_ ≠ (.slice Ao108 t123.length co108 : Value).ownBlock)) (by (with_reducible repeat (first|apply Kd.R_alloc|apply Kd.a4z|apply Kd.a5z));exact HO_4.1) hg hat);have n2_:=a0z.mk (Kd.c9z (ok:=(fun k_ => some k_ ≠ (.slice Ao9 t101.length co9 : Value).ownBlock ∧ some k_ ≠ (.slice Ao10 t102.length co10 : Value).ownBlock ∧ some k_ ≠ (v113 : Value).ownBlock ∧ some k_ ≠ (v117 : Value).ownBlock ∧ some k_ ≠ (.slice Ao108 t123.length co108 : Value).ownBlock)) (by (with_reducible repeat (first|apply Kd.R_alloc|apply Kd.a4z|apply Kd.a5z));exact HO_5.1) hg hat);have n3_:=a0z.mk (Kd.c9z (ok:=(fun k_ => some k_ ≠ (.slice Ao9 t101.length co9 : Value).ownBlock ∧ some k_ ≠ (.slice Ao10 t102.length co10 : Value).ownBlock ∧ some k_ ≠ (.slice Ao106 t107.length co106 : Value).ownBlock ∧ some k_ ≠ (v117 : Value).ownBlock ∧ some k_ ≠ (.slice Ao108 t123.length co108 : Value).ownBlock)) (by (with_reducible repeat (first|apply Kd.R_alloc|apply Kd.a4z|apply Kd.a5z));exact HO_7.1) hg hat);have n4_:=a0z.mk (Kd.c9z (ok:=(fun k_ => some k_ ≠ (.slice Ao9 t101.length co9 : Value).ownBlock ∧ some k_ ≠ (.slice Ao10 t102.length co10 : Value).ownBlock ∧ some k_ ≠ (.slice Ao106 t107.length co106 : Value).ownBlock ∧ some k_ ≠ (v113 : Value).ownBlock ∧ some k_ ≠ (.slice Ao108 t123.length co108 : Value).ownBlock)) (by (with_reducible repeat (first|apply Kd.R_alloc|apply Kd.a4z|apply Kd.a5z));exact HO_9.1) hg hat);have n5_:=a0z.mk (Kd.c9z (ok:=(fun k_ => some k_ ≠ (.slice Ao9 t101.length co9 : Value).ownBlock ∧ some k_ ≠ (.slice Ao10 t102.length co10 : Value).ownBlock ∧ some k_ ≠ (.slice Ao106 t107.length co106 : Value).ownBlock ∧ some k_ ≠ (v113 : Value).ownBlock ∧ some k_ ≠ (v117 : Value).ownBlock)) (by (with_reducible repeat (first|apply Kd.R_alloc|apply Kd.a4z|apply Kd.a5z));exact HO126.1) hg hat);have n6_:=a0z.mk (hb);have n7_:=a0z.mk (ho);clear HO_3;clear HO_4;clear HO_5;clear HO_7;clear HO_9;clear HO126;clear HB;clear HO133;have HO_3:=n0_;have HO_4:=n1_;have HO_5:=n2_;have HO_7:=n3_;have HO_9:=n4_;have HO126:=n5_;have HB:=n6_;have HO136:=n7_;clear n0_ n1_ n2_ n3_ n4_ n5_ n6_ n7_;clear ho hb hg hat;obtain ⟨Ao109,co109,eo109⟩:=Kd.d3z HO136.1;subst eo109)|((with_reducible refine b8z (f:=19) rfl ?_);refine d2z (some 99) rfl rfl Try.func19 (by kernel_rfl) rfl #[.slice Ao109 y134.length co109] rfl (by (try simp only [List.map_toArray,List.map_cons,List.map_nil]);first|done|rfl|(simp only [List.length_drop,List.length_take];rfl)) ?_;(with_reducible refine (impl_SetOf.calls kj6 _ _ y134 t137 t138 _ ?side1 ?side2 A47.1).mono ?_);(case side1 => repeat (first|exact (Kd.b4z HO136.1).2.2|(with_reducible refine Kd.C_alloc ?_ _)|(with_reducible refine Kd.C_drewN ?_ _)|(with_reducible refine Kd.C_drew ?_)));(case side2 => exact (Kd.b4z HO136.1).2.1);rintro e w110 ⟨v139,rfl,ho0,hb⟩;refine ⟨_,rfl,?_⟩;have n0_:=a0z.mk (Kd.c4z (by (with_reducible repeat (first|apply Kd.R_alloc|apply Kd.a4z|apply Kd.a5z));exact HO_3.1) (Kd.d1z ho0) hb);have n1_:=a0z.mk (Kd.c4z (by (with_reducible repeat (first|apply Kd.R_alloc|apply Kd.a4z|apply Kd.a5z));exact HO_4.1) (Kd.d1z ho0) hb);have n2_:=a0z.mk (Kd.c4z (by (with_reducible repeat (first|apply Kd.R_alloc|apply Kd.a4z|apply Kd.a5z));exact HO_5.1) (Kd.d1z ho0) hb);have n3_:=a0z.mk (Kd.c4z (by (with_reducible repeat (first|apply Kd.R_alloc|apply Kd.a4z|apply Kd.a5z));exact HO_7.1) (Kd.d1z ho0) hb);have n4_:=a0z.mk (Kd.c4z (by (with_reducible repeat (first|apply Kd.R_alloc|apply Kd.a4z|apply Kd.a5z));exact HO_9.1) (Kd.d1z ho0) hb);have n5_:=a0z.mk (Kd.c4z (by (with_reducible repeat (first|apply Kd.R_alloc|apply Kd.a4z|apply Kd.a5z));exact HO126.1) (Kd.d1z ho0) hb);have n6_:=a0z.mk (Kd.c4z (by (with_reducible repeat (first|apply Kd.R_alloc|apply Kd.a4z|apply Kd.a5z));exact HO136.1) (Kd.d1z ho0) hb);have n7_:=a0z.mk (Kd.d5z (Kd.d0z (Kd.d0z (Kd.d0z (Kd.d0z (Kd.d0z (Kd.d0z (Kd.d0z ho0 (Kd.R_lt (by (with_reducible repeat (first|apply Kd.R_alloc|apply Kd.a4z|apply Kd.a5z));exact HO_3.1))) (Kd.R_lt (by (with_reducible repeat (first|apply Kd.R_alloc|apply Kd.a4z|apply Kd.a5z));exact HO_4.1))) (Kd.R_lt (by (with_reducible repeat (first|apply Kd.R_alloc|apply Kd.a4z|apply Kd.a5z));exact HO_5.1))) (Kd.R_lt (by (with_reducible repeat (first|apply Kd.R_alloc|apply Kd.a4z|apply Kd.a5z));exact HO_7.1))) (Kd.R_lt (by (with_reducible repeat (first|apply Kd.R_alloc|apply Kd.a4z|apply Kd.a5z));exact HO_9.1))) (Kd.R_lt (by (with_reducible repeat (first|apply Kd.R_alloc|apply Kd.a4z|apply Kd.a5z));exact HO126.1))) (Kd.R_lt (by (with_reducible repeat (first|apply Kd.R_alloc|apply Kd.a4z|apply Kd.a5z));exact HO136.1))) (b1z (by repeat (first|(with_reducible first|exact HB.1|apply a3z|apply a1z|apply a2z)|exact HB.1))));have n8_:=a0z.mk (b3z (by repeat (first|(with_reducible first|exact HB.1|apply a3z|apply a1z|apply a2z)|exact HB.1)) hb);clear HO_3;clear HO_4;clear HO_5;clear HO_7;clear HO_9;clear HO126;clear HO136;clear HB;have HO_3:=n0_;have HO_4:=n1_;have HO_5:=n2_;have HO_7:=n3_;have HO_9:=n4_;have HO126:=n5_;have HO136:=n6_;have HO140:=n7_;have HB:=n8_;clear n0_ n1_ n2_ n3_ n4_ n5_ n6_ n7_ n8_;(try clear hb);(try clear hb2);(try clear hk);(try clear hi);(try clear ho0))|((with_reducible refine b8z (f:=16) rfl ?_);refine d2z (some 103) rfl rfl Try.func16 (by kernel_rfl) rfl #[.slice Ao106 t107.length co106] rfl (by (try simp only [List.map_toArray,List.map_cons,List.map_nil]);first|done|rfl|(simp only [List.length_drop,List.length_take];rfl)) ?_;(with_reducible refine (impl_SetOk.calls kj6 _ _ t107 true _ ?side1 ?side2 A48.1).mono ?_);(case side1 => repeat (first|exact (Kd.b4z HO_5.1).2.2|(with_reducible refine Kd.C_alloc ?_ _)|(with_reducible refine Kd.C_drewN ?_ _)|(with_reducible refine Kd.C_drew ?_)));(case side2 => exact (Kd.b4z HO_5.1).2.1);rintro e w111 ⟨rfl,hb⟩;refine ⟨_,rfl,?_⟩;have n0_:=a0z.mk (Kd.c3z (by (with_reducible repeat (first|apply Kd.R_alloc|apply Kd.a4z|apply Kd.a5z));exact HO_3.1) hb);have n1_:=a0z.mk (Kd.c3z (by (with_reducible repeat (first|apply Kd.R_alloc|apply Kd.a4z|apply Kd.a5z));exact HO_4.1) hb);have n2_:=a0z.mk (Kd.c3z (by (with_reducible repeat (first|apply Kd.R_alloc|apply Kd.a4z|apply Kd.a5z));exact HO_5.1) hb);have n3_:=a0z.mk (Kd.c3z (by (with_reducible repeat (first|apply Kd.R_alloc|apply Kd.a4z|apply Kd.a5z));exact HO_7.1) hb);have n4_:=a0z.mk (Kd.c3z (by (with_reducible repeat (first|apply Kd.R_alloc|apply Kd.a4z|apply Kd.a5z));exact HO_9.1) hb);have n5_:=a0z.mk (Kd.c3z (by (with_reducible repeat (first|apply Kd.R_alloc|apply Kd.a4z|apply Kd.a5z));exact HO126.1) hb);have n6_:=a0z.mk (Kd.c3z (by (with_reducible repeat (first|apply Kd.R_alloc|apply Kd.a4z|apply Kd.a5z));exact HO136.1) hb);have n7_:=a0z.mk (Kd.c3z (by (with_reducible repeat (first|apply Kd.R_alloc|apply Kd.a4z|apply Kd.a5z));exact HO140.1) hb);have n8_:=a0z.mk (b3z (by repeat (first|(with_reducible first|exact HB.1|apply a3z|apply a1z|apply a2z)|exact HB.1)) hb);clear HO_3;clear HO_4;clear HO_5;clear HO_7;clear HO_9;clear HO126;clear HO136;clear HO140;clear HB;have HO_3:=n0_;have HO_4:=n1_;have HO_5:=n2_;have HO_7:=n3_;have HO_9:=n4_;have HO126:=n5_;have HO136:=n6_;have HO140:=n7_;have HB:=n8_;clear n0_ n1_ n2_ n3_ n4_ n5_ n6_ n7_ n8_;(try clear hb);(try clear hb2);(try clear hk);(try clear hi))|(go_at_call 16;(with_reducible refine (impl_SetOk.calls kj6 _ _ t123 false _ ?side1 ?side2 A50.1).mono ?_);(case side1 => repeat (first|exact (Kd.b4z HO126.1).2.2|(with_reducible refine Kd.C_alloc ?_ _)|(with_reducible refine Kd.C_drewN ?_ _)|(with_reducible refine Kd.C_drew ?_)));(case side2 => exact (Kd.b4z HO126.1).2.1);rintro e w112 ⟨rfl,hb⟩;have n0_:=a0z.mk (Kd.c3z (by (with_reducible repeat (first|apply Kd.R_alloc|apply Kd.a4z|apply Kd.a5z));exact HO_3.1) hb);have n1_:=a0z.mk (Kd.c3z (by (with_reducible repeat (first|apply Kd.R_alloc|apply Kd.a4z|apply Kd.a5z));exact HO_4.1) hb);have n2_:=a0z.mk (Kd.c3z (by (with_reducible repeat (first|apply Kd.R_alloc|apply Kd.a4z|apply Kd.a5z));exact HO_5.1) hb);have n3_:=a0z.mk (Kd.c3z (by (with_reducible repeat (first|apply Kd.R_alloc|apply Kd.a4z|apply Kd.a5z));exact HO_7.1) hb);have n4_:=a0z.mk (Kd.c3z (by (with_reducible repeat (first|apply Kd.R_alloc|apply Kd.a4z|apply Kd.a5z));exact HO_9.1) hb);have n5_:=a0z.mk (Kd.c3z (by (with_reducible repeat (first|apply Kd.R_alloc|apply Kd.a4z|apply Kd.a5z));exact HO126.1) hb);have n6_:=a0z.mk (Kd.c3z (by (with_reducible repeat (first|apply Kd.R_alloc|apply Kd.a4z|apply Kd.a5z));exact HO136.1) hb);have n7_:=a0z.mk (Kd.c3z (by (with_reducible repeat (first|apply Kd.R_alloc|apply Kd.a4z|apply Kd.a5z));exact HO140.1) hb);have n8_:=a0z.mk (b3z (by repeat (first|(with_reducible first|exact HB.1|apply a3z|apply a1z|apply a2z)|exact HB.1)) hb);clear HO_3;clear HO_4;clear HO_5;clear HO_7;clear HO_9;clear HO126;clear HO136;clear HO140;clear HB;have HO_3:=n0_;have HO_4:=n1_;have HO_5:=n2_;have HO_7:=n3_;have HO_9:=n4_;have HO126:=n5_;have HO136:=n6_;have HO140:=n7_;have HB:=n8_;clear n0_ n1_ n2_ n3_ n4_ n5_ n6_ n7_ n8_;(try clear hb);(try clear hb2);(try clear hk);(try clear hi)))
          go_ret
          exact ⟨by first|rfl|(simp [c2z,c1z] <;> rfl)|(simp [*,c2z,c1z] <;> rfl),by repeat (first|(with_reducible first|exact HB.1|apply a3z|apply a1z|apply a2z)|exact HB.1)⟩
        ·replace c49:=Bool.eq_false_iff.mpr c49
         subst c49
         have H1 : (some false) = some r:=by rw [if_neg (show ¬ (false = true) by decide)] at H;exact H
         clear H
         have H:=H1
         clear H1
         obtain rfl:=Option.some.inj H
         go_wp2_with (first|((with_reducible refine b8z (f:=27) rfl ?_);refine d2z (some 86) rfl rfl Try.func27 (by kernel_rfl) rfl #[.slice Ao9 t101.length co9,.slice Ao10 t102.length co10] rfl (by (try simp only [List.map_toArray,List.map_cons,List.map_nil]);first|done|rfl|(simp only [List.length_drop,List.length_take];rfl)) ?_;(with_reducible refine (impl_SetLess.calls kj6 _ _ t101 _ _ t102 t123 true _ ?side1 ?side2 ?side3 ?side4 A43.1).mono ?_);(case side1 => repeat (first|exact (Kd.b4z HO_3.1).2.2|(with_reducible refine Kd.C_alloc ?_ _)|(with_reducible refine Kd.C_drewN ?_ _)|(with_reducible refine Kd.C_drew ?_)));(case side2 => exact (Kd.b4z HO_3.1).2.1);(case side3 => repeat (first|exact (Kd.b4z HO_4.1).2.2|(with_reducible refine Kd.C_alloc ?_ _)|(with_reducible refine Kd.C_drewN ?_ _)|(with_reducible refine Kd.C_drew ?_)));(case side4 => exact (Kd.b4z HO_4.1).2.1);rintro e w113 ⟨v125,rfl,ho0,hb⟩;refine ⟨_,rfl,?_⟩;have n0_:=a0z.mk (Kd.c4z (by (with_reducible repeat (first|apply Kd.R_alloc|apply Kd.a4z|apply Kd.a5z));exact HO_3.1) (Kd.d1z ho0) hb);have n1_:=a0z.mk (Kd.c4z (by (with_reducible repeat (first|apply Kd.R_alloc|apply Kd.a4z|apply Kd.a5z));exact HO_4.1) (Kd.d1z ho0) hb);have n2_:=a0z.mk (Kd.c4z (by (with_reducible repeat (first|apply Kd.R_alloc|apply Kd.a4z|apply Kd.a5z));exact HO_5.1) (Kd.d1z ho0) hb);have n3_:=a0z.mk (Kd.c4z (by (with_reducible repeat (first|apply Kd.R_alloc|apply Kd.a4z|apply Kd.a5z));exact HO_7.1) (Kd.d1z ho0) hb);have n4_:=a0z.mk (Kd.c4z (by (with_reducible repeat (first|apply Kd.R_alloc|apply Kd.a4z|apply Kd.a5z));exact HO_9.1) (Kd.d1z ho0) hb);have n5_:=a0z.mk (Kd.d5z (Kd.d0z (Kd.d0z (Kd.d0z (Kd.d0z (Kd.d0z ho0 (Kd.R_lt (by (with_reducible repeat (first|apply Kd.R_alloc|apply Kd.a4z|apply Kd.a5z));exact HO_3.1))) (Kd.R_lt (by (with_reducible repeat (first|apply Kd.R_alloc|apply Kd.a4z|apply Kd.a5z));exact HO_4.1))) (Kd.R_lt (by (with_reducible repeat (first|apply Kd.R_alloc|apply Kd.a4z|apply Kd.a5z));exact HO_5.1))) (Kd.R_lt (by (with_reducible repeat (first|apply Kd.R_alloc|apply Kd.a4z|apply Kd.a5z));exact HO_7.1))) (Kd.R_lt (by (with_reducible repeat (first|apply Kd.R_alloc|apply Kd.a4z|apply Kd.a5z));exact HO_9.1))) (b1z (by repeat (first|(with_reducible first|exact HB.1|apply a3z|apply a1z|apply a2z)|exact HB.1))));have n6_:=a0z.mk (b3z (by repeat (first|(with_reducible first|exact HB.1|apply a3z|apply a1z|apply a2z)|exact HB.1)) hb);clear HO_3;clear HO_4;clear HO_5;clear HO_7;clear HO_9;clear HB;have HO_3:=n0_;have HO_4:=n1_;have HO_5:=n2_;have HO_7:=n3_;have HO_9:=n4_;have HO126:=n5_;have HB:=n6_;clear n0_ n1_ n2_ n3_ n4_ n5_ n6_;(try clear hb);(try clear hb2);(try clear hk);(try clear hi);(try clear ho0))|((with_reducible refine d4z (N:=94) rfl ?_);refine Kd.R_lit k44 _ 44 ?hg (N:=94) ?hd (xs:=([] : List (S44))) (inner:=[]) (ok:=fun _ => True) (okp:=fun _ => True) ?hr ?hp (fun _ hk => hk) trivial (Below.refl _ _) (Nat.le_refl _) (by simp) ?_;(case hd => rfl);(case hg => rfl);(case hr => first|(go_simp;done)|(go_simp;rfl));(case hp => exact (Reps.none _ _));intro v129 w114 ho115 hb hg_ hnew_;clear hg_ hnew_;(first|rw [← Ny128.1] at ho115|(simp only [Int.reduceToNat] at ho115;rw [← Ny128.1] at ho115));have n0_:=a0z.mk (Kd.c4z (by (with_reducible repeat (first|apply Kd.R_alloc|apply Kd.a4z|apply Kd.a5z));exact HO_3.1) (Kd.d1z ho115) hb);have n1_:=a0z.mk (Kd.c4z (by (with_reducible repeat (first|apply Kd.R_alloc|apply Kd.a4z|apply Kd.a5z));exact HO_4.1) (Kd.d1z ho115) hb);have n2_:=a0z.mk (Kd.c4z (by (with_reducible repeat (first|apply Kd.R_alloc|apply Kd.a4z|apply Kd.a5z));exact HO_5.1) (Kd.d1z ho115) hb);have n3_:=a0z.mk (Kd.c4z (by (with_reducible repeat (first|apply Kd.R_alloc|apply Kd.a4z|apply Kd.a5z));exact HO_7.1) (Kd.d1z ho115) hb);have n4_:=a0z.mk (Kd.c4z (by (with_reducible repeat (first|apply Kd.R_alloc|apply Kd.a4z|apply Kd.a5z));exact HO_9.1) (Kd.d1z ho115) hb);have n5_:=a0z.mk (Kd.c4z (by (with_reducible repeat (first|apply Kd.R_alloc|apply Kd.a4z|apply Kd.a5z));exact HO126.1) (Kd.d1z ho115) hb);have n6_:=a0z.mk (Kd.d5z (Kd.d0z (Kd.d0z (Kd.d0z (Kd.d0z (Kd.d0z (Kd.d0z ho115 (Kd.R_lt (by (with_reducible repeat (first|apply Kd.R_alloc|apply Kd.a4z|apply Kd.a5z));exact HO_3.1))) (Kd.R_lt (by (with_reducible repeat (first|apply Kd.R_alloc|apply Kd.a4z|apply Kd.a5z));exact HO_4.1))) (Kd.R_lt (by (with_reducible repeat (first|apply Kd.R_alloc|apply Kd.a4z|apply Kd.a5z));exact HO_5.1))) (Kd.R_lt (by (with_reducible repeat (first|apply Kd.R_alloc|apply Kd.a4z|apply Kd.a5z));exact HO_7.1))) (Kd.R_lt (by (with_reducible repeat (first|apply Kd.R_alloc|apply Kd.a4z|apply Kd.a5z));exact HO_9.1))) (Kd.R_lt (by (with_reducible repeat (first|apply Kd.R_alloc|apply Kd.a4z|apply Kd.a5z));exact HO126.1))) (b1z (by repeat (first|(with_reducible first|exact HB.1|apply a3z|apply a1z|apply a2z)|exact HB.1))));have n7_:=a0z.mk (b3z (by repeat (first|(with_reducible first|exact HB.1|apply a3z|apply a1z|apply a2z)|exact HB.1)) hb);clear HO_3;clear HO_4;clear HO_5;clear HO_7;clear HO_9;clear HO126;clear HB;have HO_3:=n0_;have HO_4:=n1_;have HO_5:=n2_;have HO_7:=n3_;have HO_9:=n4_;have HO126:=n5_;have HO130:=n6_;have HB:=n7_;clear n0_ n1_ n2_ n3_ n4_ n5_ n6_ n7_;clear hb ho115;obtain ⟨Ao117,co117,eo117⟩:=Kd.d3z HO_5.1;subst eo117)|((with_reducible refine e5z (b:=.append) (xs:=#[.tmp 94,.tmp 95]) rfl ?_);at_builtin;refine Kd.g1z k44 (w0:=w) w.heap.size rfl (.tmp 94) (.tmp 95) 25 44 (.agg #[(.int .i64 0),(.int .i64 0)]) 16 rfl Try.underlying25 info44 rfl (by decide) (by omega) v129 y128 t107 _ _ _ (fun k_ => some k_ ≠ (.slice Ao9 t101.length co9 : Value).ownBlock ∧ some k_ ≠ (.slice Ao10 t102.length co10 : Value).ownBlock ∧ some k_ ≠ (.slice Ao117 t107.length co117 : Value).ownBlock ∧ some k_ ≠ (v113 : Value).ownBlock ∧ some k_ ≠ (v117 : Value).ownBlock ∧ some k_ ≠ (v125 : Value).ownBlock) (fun _ => False) rfl rfl ?aO ?aR (fun _ _ h => h) (fun _ h => h.elim) ?aF ?aB ?aS ?aL ?_;(case aR => repeat (first|exact (Kd.b4z HO_5.1).2.2|(with_reducible refine Kd.C_alloc ?_ _)|(with_reducible refine Kd.C_drewN ?_ _)|(with_reducible refine Kd.C_drew ?_)));(case aB => exact (by repeat (first|(with_reducible first|exact HB.1|apply a3z|apply a1z|apply a2z)|exact HB.1)));(case aF => exact (fun k_ hk => ⟨Kd.fresh' (Kd.R_lt (by (with_reducible repeat (first|apply Kd.R_alloc|apply Kd.a4z|apply Kd.a5z));exact HO_3.1)) k_ hk,Kd.fresh' (Kd.R_lt (by (with_reducible repeat (first|apply Kd.R_alloc|apply Kd.a4z|apply Kd.a5z));exact HO_4.1)) k_ hk,Kd.fresh' (Kd.R_lt (by (with_reducible repeat (first|apply Kd.R_alloc|apply Kd.a4z|apply Kd.a5z));exact HO_5.1)) k_ hk,Kd.fresh' (Kd.R_lt (by (with_reducible repeat (first|apply Kd.R_alloc|apply Kd.a4z|apply Kd.a5z));exact HO_7.1)) k_ hk,Kd.fresh' (Kd.R_lt (by (with_reducible repeat (first|apply Kd.R_alloc|apply Kd.a4z|apply Kd.a5z));exact HO_9.1)) k_ hk,Kd.fresh' (Kd.R_lt (by (with_reducible repeat (first|apply Kd.R_alloc|apply Kd.a4z|apply Kd.a5z));exact HO126.1)) k_ hk⟩));(case aO => exact (by (with_reducible repeat (first|apply Kd.R_alloc|apply Kd.a4z|apply Kd.a5z));exact Kd.b5z HO130.1 (fun _ hk => ⟨hk.1.1.1.1.1.2,⟨hk.1.1.1.1.2,⟨hk.1.1.1.2,⟨hk.1.1.2,⟨hk.1.2,hk.2⟩⟩⟩⟩⟩)));(case aS => exact (b1z (by repeat (first|(with_reducible first|exact HB.1|apply a3z|apply a1z|apply a2z)|exact HB.1))));(case aL => have:=LMc45.1;omega);intro v132 w116 ho hb hg hat;rw [← Ny131.1] at ho;have n0_:=a0z.mk (Kd.c9z (ok:=(fun k_ => some k_ ≠ (.slice Ao10 t102.length co10 : Value).ownBlock ∧ some k_ ≠ (.slice Ao117 t107.length co117 : Value).ownBlock ∧ some k_ ≠ (v113 : Value).ownBlock ∧ some k_ ≠ (v117 : Value).ownBlock ∧ some k_ ≠ (v125 : Value).ownBlock)) (by (with_reducible repeat (first|apply Kd.R_alloc|apply Kd.a4z|apply Kd.a5z));exact Kd.b5z HO_3.1 (fun _ hk => ⟨⟨hk.1.1.1,⟨hk.1.1.2.1,⟨hk.1.1.2.2.1,⟨hk.1.1.2.2.2,hk.1.2⟩⟩⟩⟩,hk.2⟩)) hg hat);have n1_:=a0z.mk (Kd.c9z (ok:=(fun k_ => some k_ ≠ (.slice Ao9 t101.length co9 : Value).ownBlock ∧ some k_ ≠ (.slice Ao117 t107.length co117 : Value).ownBlock ∧ some k_ ≠ (v113 : Value).ownBlock ∧ some k_ ≠ (v117 : Value).ownBlock ∧ some k_ ≠ (v125 : Value).ownBlock)) (by (with_reducible repeat (first|apply Kd.R_alloc|apply Kd.a4z|apply Kd.a5z));exact Kd.b5z HO_4.1 (fun _ hk => ⟨⟨hk.1.1.1,⟨hk.1.1.2.1,⟨hk.1.1.2.2.1,⟨hk.1.1.2.2.2,hk.1.2⟩⟩⟩⟩,hk.2⟩)) hg hat);have n2_:=a0z.mk (Kd.c9z (ok:=(fun k_ => some k_ ≠ (.slice Ao9 t101.length co9 : Value).ownBlock ∧ some k_ ≠ (.slice Ao10 t102.length co10 : Value).ownBlock ∧ some k_ ≠ (v113 : Value).ownBlock ∧ some k_ ≠ (v117 : Value).ownBlock ∧ some k_ ≠ (v125 : Value).ownBlock)) (by (with_reducible repeat (first|apply Kd.R_alloc|apply Kd.a4z|apply Kd.a5z));exact Kd.b5z HO_5.1 (fun _ hk => ⟨⟨hk.1.1.1,⟨hk.1.1.2.1,⟨hk.1.1.2.2.1,⟨hk.1.1.2.2.2,hk.1.2⟩⟩⟩⟩,hk.2⟩)) hg hat);have n3_:=a0z.mk (Kd.c9z (ok:=(fun k_ => some k_ ≠ (.slice Ao9 t101.length co9 : Value).ownBlock ∧ some k_ ≠ (.slice Ao10 t102.length co10 : Value).ownBlock ∧ some k_ ≠ (.slice Ao117 t107.length co117 : Value).ownBlock ∧ some k_ ≠ (v117 : Value).ownBlock ∧ some k_ ≠ (v125 : Value).ownBlock)) (by (with_reducible repeat (first|apply Kd.R_alloc|apply Kd.a4z|apply Kd.a5z));exact Kd.b5z HO_7.1 (fun _ hk => ⟨⟨hk.1.1.1,⟨hk.1.1.2.1,⟨hk.1.1.2.2.1,⟨hk.1.1.2.2.2,hk.1.2⟩⟩⟩⟩,hk.2⟩)) hg hat);have n4_:=a0z.mk (Kd.c9z (ok:=(fun k_ => some k_ ≠ (.slice Ao9 t101.length co9 : Value).ownBlock ∧ some k_ ≠ (.slice Ao10 t102.length co10 : Value).ownBlock ∧ some k_ ≠ (.slice Ao117 t107.length co117 : Value).ownBlock ∧ some k_ ≠ (v113 : Value).ownBlock ∧ some k_ ≠ (v125 : Value).ownBlock)) (by (with_reducible repeat (first|apply Kd.R_alloc|apply Kd.a4z|apply Kd.a5z));exact Kd.b5z HO_9.1 (fun _ hk => ⟨⟨hk.1.1.1,⟨hk.1.1.2.1,⟨hk.1.1.2.2.1,⟨hk.1.1.2.2.2,hk.1.2⟩⟩⟩⟩,hk.2⟩)) hg hat);have n5_:=a0z.mk (Kd.c9z (ok:=(fun k_ => some k_ ≠ (.slice Ao9 t101.length co9 : Value).ownBlock ∧ some k_ ≠ (.slice Ao10 t102.length co10 : Value).ownBlock ∧ some k_ ≠ (.slice Ao117 t107.length co117 : Value).ownBlock ∧ some k_ ≠ (v113 : Value).ownBlock ∧ some k_ ≠ (v117 : Value).ownBlock)) (by (with_reducible repeat (first|apply Kd.R_alloc|apply Kd.a4z|apply Kd.a5z));exact Kd.b5z HO126.1 (fun _ hk => ⟨⟨hk.1.1.1.1.1.2,⟨hk.1.1.1.1.2,⟨hk.1.1.1.2,⟨hk.1.1.2,hk.1.2⟩⟩⟩⟩,hk.2⟩)) hg hat);have n6_:=a0z.mk (hb);have n7_:=a0z.mk (ho);clear HO_3;clear HO_4;clear HO_5;clear HO_7;clear HO_9;clear HO126;clear HB;clear HO130;have HO_3:=n0_;have HO_4:=n1_;have HO_5:=n2_;have HO_7:=n3_;have HO_9:=n4_;have HO126:=n5_;have HB:=n6_;have HO133:=n7_;clear n0_ n1_ n2_ n3_ n4_ n5_ n6_ n7_;clear ho hb hg hat;obtain ⟨Ao119,co119,eo119⟩:=Kd.d3z HO126.1;subst eo119)|((with_reducible refine e5z (b:=.append) (xs:=#[.tmp 96,.tmp 97]) rfl ?_);at_builtin;refine Kd.g1z k44 (w0:=w) w.heap.size rfl (.tmp 96) (.tmp 97) 25 44 (.agg #[(.int .i64 0),(.int .i64 0)]) 16 rfl Try.underlying25 info44 rfl (by decide) (by omega) v132 y131 t123 _ _ _ (fun k_ => some k_ ≠ (.slice Ao9 t101.length co9 : Value).ownBlock ∧ some k_ ≠ (.slice Ao10 t102.length co10 : Value).ownBlock ∧ some k_ ≠ (.slice Ao117 t107.length co117 : Value).ownBlock ∧ some k_ ≠ (v113 : Value).ownBlock ∧ some k_ ≠ (v117 : Value).ownBlock ∧ some k_ ≠ (.slice Ao119 t123.length co119 : Value).ownBlock) (fun _ => False) rfl rfl ?aO ?aR (fun _ _ h => h) (fun _ h => h.elim) ?aF ?aB ?aS ?aL ?_;(case aR => repeat (first|exact (Kd.b4z HO126.1).2.2|(with_reducible refine Kd.C_alloc ?_ _)|(with_reducible refine Kd.C_drewN ?_ _)|(with_reducible refine Kd.C_drew ?_)));(case aB => exact (by repeat (first|(with_reducible first|exact HB.1|apply a3z|apply a1z|apply a2z)|exact HB.1)));(case aF => exact (fun k_ hk => ⟨Kd.fresh' (Kd.R_lt (by (with_reducible repeat (first|apply Kd.R_alloc|apply Kd.a4z|apply Kd.a5z));exact HO_3.1)) k_ hk,Kd.fresh' (Kd.R_lt (by (with_reducible repeat (first|apply Kd.R_alloc|apply Kd.a4z|apply Kd.a5z));exact HO_4.1)) k_ hk,Kd.fresh' (Kd.R_lt (by (with_reducible repeat (first|apply Kd.R_alloc|apply Kd.a4z|apply Kd.a5z));exact HO_5.1)) k_ hk,Kd.fresh' (Kd.R_lt (by (with_reducible repeat (first|apply Kd.R_alloc|apply Kd.a4z|apply Kd.a5z));exact HO_7.1)) k_ hk,Kd.fresh' (Kd.R_lt (by (with_reducible repeat (first|apply Kd.R_alloc|apply Kd.a4z|apply Kd.a5z));exact HO_9.1)) k_ hk,Kd.fresh' (Kd.R_lt (by (with_reducible repeat (first|apply Kd.R_alloc|apply Kd.a4z|apply Kd.a5z));exact HO126.1)) k_ hk⟩));(case aO => exact (by (with_reducible repeat (first|apply Kd.R_alloc|apply Kd.a4z|apply Kd.a5z));exact HO133.1));(case aS => exact (b1z (by repeat (first|(with_reducible first|exact HB.1|apply a3z|apply a1z|apply a2z)|exact HB.1))));(case aL => have:=LMc46.1;omega);intro v135 w118 ho hb hg hat;rw [← Ny134.1] at ho;have n0_:=a0z.mk (Kd.c9z (ok:=(fun k_ => some k_ ≠ (.slice Ao10 t102.length co10 : Value).ownBlock ∧ some k_ ≠ (.slice Ao117 t107.length co117 : Value).ownBlock ∧ some k_ ≠ (v113 : Value).ownBlock ∧ some k_ ≠ (v117 : Value).ownBlock ∧ some k_ ≠ (.slice Ao119 t123.length co119 : Value).ownBlock)) (by (with_reducible repeat (first|apply Kd.R_alloc|apply Kd.a4z|apply Kd.a5z));exact HO_3.1) hg hat);have n1_:=a0z.mk (Kd.c9z (ok:=(fun k_ => some k_ ≠ (.slice Ao9 t101.length co9 : Value).ownBlock ∧ some k_ ≠ (.slice Ao117 t107.length co117 : Value).ownBlock ∧ some k_ ≠ (v113 : Value).ownBlock ∧ some k_ ≠ (v117 : Value).ownBlock ∧ some k_ ≠ (.slice Ao119 t123.length co119 : Value).ownBlock)) (by (with_reducible repeat (first|apply Kd.R_alloc|apply Kd.a4z|apply Kd.a5z));exact HO_4.1) hg hat);have n2_:=a0z.mk (Kd.c9z (ok:=(fun k_ => some k_ ≠ (.slice Ao9 t101.length co9 : Value).ownBlock ∧ some k_ ≠ (.slice Ao10 t102.length co10 : Value).ownBlock ∧ some k_ ≠ (v113 : Value).ownBlock ∧ some k_ ≠ (v117 : Value).ownBlock ∧ some k_ ≠ (.slice Ao119 t123.length co119 : Value).ownBlock)) (by (with_reducible repeat (first|apply Kd.R_alloc|apply Kd.a4z|apply Kd.a5z));exact HO_5.1) hg hat);have n3_:=a0z.mk (Kd.c9z (ok:=(fun k_ => some k_ ≠ (.slice Ao9 t101.length co9 : Value).ownBlock ∧ some k_ ≠ (.slice Ao10 t102.length co10 : Value).ownBlock ∧ some k_ ≠ (.slice Ao117 t107.length co117 : Value).ownBlock ∧ some k_ ≠ (v117 : Value).ownBlock ∧ some k_ ≠ (.slice Ao119 t123.length co119 : Value).ownBlock)) (by (with_reducible repeat (first|apply Kd.R_alloc|apply Kd.a4z|apply Kd.a5z));exact HO_7.1) hg hat);have n4_:=a0z.mk (Kd.c9z (ok:=(fun k_ => some k_ ≠ (.slice Ao9 t101.length co9 : Value).ownBlock ∧ some k_ ≠ (.slice Ao10 t102.length co10 : Value).ownBlock ∧ some k_ ≠ (.slice Ao117 t107.length co117 : Value).ownBlock ∧ some k_ ≠ (v113 : Value).ownBlock ∧ some k_ ≠ (.slice Ao119 t123.length co119 : Value).ownBlock)) (by (with_reducible repeat (first|apply Kd.R_alloc|apply Kd.a4z|apply Kd.a5z));exact HO_9.1) hg hat);have n5_:=a0z.mk (Kd.c9z (ok:=(fun k_ => some k_ ≠ (.slice Ao9 t101.length co9 : Value).ownBlock ∧ some k_ ≠ (.slice Ao10 t102.length co10 : Value).ownBlock ∧ some k_ ≠ (.slice Ao117 t107.length co117 : Value).ownBlock ∧ some k_ ≠ (v113 : Value).ownBlock ∧ some k_ ≠ (v117 : Value).ownBlock)) (by (with_reducible repeat (first|apply Kd.R_alloc|apply Kd.a4z|apply Kd.a5z));exact HO126.1) hg hat);have n6_:=a0z.mk (hb);have n7_:=a0z.mk (ho);clear HO_3;clear HO_4;clear HO_5;clear HO_7;clear HO_9;clear HO126;clear HB;clear HO133;have HO_3:=n0_;have HO_4:=n1_;have HO_5:=n2_;have HO_7:=n3_;have HO_9:=n4_;have HO126:=n5_;have HB:=n6_;have HO136:=n7_;clear n0_ n1_ n2_ n3_ n4_ n5_ n6_ n7_;clear ho hb hg hat;obtain ⟨Ao120,co120,eo120⟩:=Kd.d3z HO136.1;subst eo120)|((with_reducible refine b8z (f:=19) rfl ?_);refine d2z (some 99) rfl rfl Try.func19 (by kernel_rfl) rfl #[.slice Ao120 y134.length co120] rfl (by (try simp only [List.map_toArray,List.map_cons,List.map_nil]);first|done|rfl|(simp only [List.length_drop,List.length_take];rfl)) ?_;(with_reducible refine (impl_SetOf.calls kj6 _ _ y134 t137 t138 _ ?side1 ?side2 A47.1).mono ?_);(case side1 => repeat (first|exact (Kd.b4z HO136.1).2.2|(with_reducible refine Kd.C_alloc ?_ _)|(with_reducible refine Kd.C_drewN ?_ _)|(with_reducible refine Kd.C_drew ?_)));(case side2 => exact (Kd.b4z HO136.1).2.1);rintro e w121 ⟨v139,rfl,ho0,hb⟩;refine ⟨_,rfl,?_⟩;have n0_:=a0z.mk (Kd.c4z (by (with_reducible repeat (first|apply Kd.R_alloc|apply Kd.a4z|apply Kd.a5z));exact HO_3.1) (Kd.d1z ho0) hb);have n1_:=a0z.mk (Kd.c4z (by (with_reducible repeat (first|apply Kd.R_alloc|apply Kd.a4z|apply Kd.a5z));exact HO_4.1) (Kd.d1z ho0) hb);have n2_:=a0z.mk (Kd.c4z (by (with_reducible repeat (first|apply Kd.R_alloc|apply Kd.a4z|apply Kd.a5z));exact HO_5.1) (Kd.d1z ho0) hb);have n3_:=a0z.mk (Kd.c4z (by (with_reducible repeat (first|apply Kd.R_alloc|apply Kd.a4z|apply Kd.a5z));exact HO_7.1) (Kd.d1z ho0) hb);have n4_:=a0z.mk (Kd.c4z (by (with_reducible repeat (first|apply Kd.R_alloc|apply Kd.a4z|apply Kd.a5z));exact HO_9.1) (Kd.d1z ho0) hb);have n5_:=a0z.mk (Kd.c4z (by (with_reducible repeat (first|apply Kd.R_alloc|apply Kd.a4z|apply Kd.a5z));exact HO126.1) (Kd.d1z ho0) hb);have n6_:=a0z.mk (Kd.c4z (by (with_reducible repeat (first|apply Kd.R_alloc|apply Kd.a4z|apply Kd.a5z));exact HO136.1) (Kd.d1z ho0) hb);have n7_:=a0z.mk (Kd.d5z (Kd.d0z (Kd.d0z (Kd.d0z (Kd.d0z (Kd.d0z (Kd.d0z (Kd.d0z ho0 (Kd.R_lt (by (with_reducible repeat (first|apply Kd.R_alloc|apply Kd.a4z|apply Kd.a5z));exact HO_3.1))) (Kd.R_lt (by (with_reducible repeat (first|apply Kd.R_alloc|apply Kd.a4z|apply Kd.a5z));exact HO_4.1))) (Kd.R_lt (by (with_reducible repeat (first|apply Kd.R_alloc|apply Kd.a4z|apply Kd.a5z));exact HO_5.1))) (Kd.R_lt (by (with_reducible repeat (first|apply Kd.R_alloc|apply Kd.a4z|apply Kd.a5z));exact HO_7.1))) (Kd.R_lt (by (with_reducible repeat (first|apply Kd.R_alloc|apply Kd.a4z|apply Kd.a5z));exact HO_9.1))) (Kd.R_lt (by (with_reducible repeat (first|apply Kd.R_alloc|apply Kd.a4z|apply Kd.a5z));exact HO126.1))) (Kd.R_lt (by (with_reducible repeat (first|apply Kd.R_alloc|apply Kd.a4z|apply Kd.a5z));exact HO136.1))) (b1z (by repeat (first|(with_reducible first|exact HB.1|apply a3z|apply a1z|apply a2z)|exact HB.1))));have n8_:=a0z.mk (b3z (by repeat (first|(with_reducible first|exact HB.1|apply a3z|apply a1z|apply a2z)|exact HB.1)) hb);clear HO_3;clear HO_4;clear HO_5;clear HO_7;clear HO_9;clear HO126;clear HO136;clear HB;have HO_3:=n0_;have HO_4:=n1_;have HO_5:=n2_;have HO_7:=n3_;have HO_9:=n4_;have HO126:=n5_;have HO136:=n6_;have HO140:=n7_;have HB:=n8_;clear n0_ n1_ n2_ n3_ n4_ n5_ n6_ n7_ n8_;(try clear hb);(try clear hb2);(try clear hk);(try clear hi);(try clear ho0))|((with_reducible refine b8z (f:=16) rfl ?_);refine d2z (some 103) rfl rfl Try.func16 (by kernel_rfl) rfl #[.slice Ao117 t107.length co117] rfl (by (try simp only [List.map_toArray,List.map_cons,List.map_nil]);first|done|rfl|(simp only [List.length_drop,List.length_take];rfl)) ?_;(with_reducible refine (impl_SetOk.calls kj6 _ _ t107 false _ ?side1 ?side2 A48.1).mono ?_);(case side1 => repeat (first|exact (Kd.b4z HO_5.1).2.2|(with_reducible refine Kd.C_alloc ?_ _)|(with_reducible refine Kd.C_drewN ?_ _)|(with_reducible refine Kd.C_drew ?_)));(case side2 => exact (Kd.b4z HO_5.1).2.1);rintro e w122 ⟨rfl,hb⟩;refine ⟨_,rfl,?_⟩;have n0_:=a0z.mk (Kd.c3z (by (with_reducible repeat (first|apply Kd.R_alloc|apply Kd.a4z|apply Kd.a5z));exact HO_3.1) hb);have n1_:=a0z.mk (Kd.c3z (by (with_reducible repeat (first|apply Kd.R_alloc|apply Kd.a4z|apply Kd.a5z));exact HO_4.1) hb);have n2_:=a0z.mk (Kd.c3z (by (with_reducible repeat (first|apply Kd.R_alloc|apply Kd.a4z|apply Kd.a5z));exact HO_5.1) hb);have n3_:=a0z.mk (Kd.c3z (by (with_reducible repeat (first|apply Kd.R_alloc|apply Kd.a4z|apply Kd.a5z));exact HO_7.1) hb);have n4_:=a0z.mk (Kd.c3z (by (with_reducible repeat (first|apply Kd.R_alloc|apply Kd.a4z|apply Kd.a5z));exact HO_9.1) hb);have n5_:=a0z.mk (Kd.c3z (by (with_reducible repeat (first|apply Kd.R_alloc|apply Kd.a4z|apply Kd.a5z));exact HO126.1) hb);have n6_:=a0z.mk (Kd.c3z (by (with_reducible repeat (first|apply Kd.R_alloc|apply Kd.a4z|apply Kd.a5z));exact HO136.1) hb);have n7_:=a0z.mk (Kd.c3z (by (with_reducible repeat (first|apply Kd.R_alloc|apply Kd.a4z|apply Kd.a5z));exact HO140.1) hb);have n8_:=a0z.mk (b3z (by repeat (first|(with_reducible first|exact HB.1|apply a3z|apply a1z|apply a2z)|exact HB.1)) hb);clear HO_3;clear HO_4;clear HO_5;clear HO_7;clear HO_9;clear HO126;clear HO136;clear HO140;clear HB;have HO_3:=n0_;have HO_4:=n1_;have HO_5:=n2_;have HO_7:=n3_;have HO_9:=n4_;have HO126:=n5_;have HO136:=n6_;have HO140:=n7_;have HB:=n8_;clear n0_ n1_ n2_ n3_ n4_ n5_ n6_ n7_ n8_;(try clear hb);(try clear hb2);(try clear hk);(try clear hi)))
         go_ret
         exact ⟨by first|rfl|(simp [c2z,c1z] <;> rfl)|(simp [*,c2z,c1z] <;> rfl),by repeat (first|(with_reducible first|exact HB.1|apply a3z|apply a1z|apply a2z)|exact HB.1)⟩
       ·rw [if_neg c46] at H
        exact absurd H (by simp)
      ·rw [if_neg c45] at H
       exact absurd H (by simp)
     ·replace c44:=Bool.eq_false_iff.mpr c44
      subst c44
      have H1 : ((impl_SetOk.f kj6 t107).bind fun t127 => (some t127)) = some r:=by rw [if_neg (show ¬ (false = true) by decide)] at H;exact H
      clear H
      have H:=H1
      clear H1
      replace H:=Option.bind_eq_some_iff.mp H
      obtain ⟨t127,A1230,H⟩:=H
      replace H : (some t127) = some r:=H
      have A123:=a0z.mk A1230
      clear A1230
      obtain rfl:=Option.some.inj H
      go_wp2_with (first|((with_reducible refine b8z (f:=27) rfl ?_);refine d2z (some 86) rfl rfl Try.func27 (by kernel_rfl) rfl #[.slice Ao9 t101.length co9,.slice Ao10 t102.length co10] rfl (by (try simp only [List.map_toArray,List.map_cons,List.map_nil]);first|done|rfl|(simp only [List.length_drop,List.length_take];rfl)) ?_;(with_reducible refine (impl_SetLess.calls kj6 _ _ t101 _ _ t102 t123 false _ ?side1 ?side2 ?side3 ?side4 A43.1).mono ?_);(case side1 => repeat (first|exact (Kd.b4z HO_3.1).2.2|(with_reducible refine Kd.C_alloc ?_ _)|(with_reducible refine Kd.C_drewN ?_ _)|(with_reducible refine Kd.C_drew ?_)));(case side2 => exact (Kd.b4z HO_3.1).2.1);(case side3 => repeat (first|exact (Kd.b4z HO_4.1).2.2|(with_reducible refine Kd.C_alloc ?_ _)|(with_reducible refine Kd.C_drewN ?_ _)|(with_reducible refine Kd.C_drew ?_)));(case side4 => exact (Kd.b4z HO_4.1).2.1);rintro e w124 ⟨v125,rfl,ho0,hb⟩;refine ⟨_,rfl,?_⟩;have n0_:=a0z.mk (Kd.c4z (by (with_reducible repeat (first|apply Kd.R_alloc|apply Kd.a4z|apply Kd.a5z));exact HO_3.1) (Kd.d1z ho0) hb);have n1_:=a0z.mk (Kd.c4z (by (with_reducible repeat (first|apply Kd.R_alloc|apply Kd.a4z|apply Kd.a5z));exact HO_4.1) (Kd.d1z ho0) hb);have n2_:=a0z.mk (Kd.c4z (by (with_reducible repeat (first|apply Kd.R_alloc|apply Kd.a4z|apply Kd.a5z));exact HO_5.1) (Kd.d1z ho0) hb);have n3_:=a0z.mk (Kd.c4z (by (with_reducible repeat (first|apply Kd.R_alloc|apply Kd.a4z|apply Kd.a5z));exact HO_7.1) (Kd.d1z ho0) hb);have n4_:=a0z.mk (Kd.c4z (by (with_reducible repeat (first|apply Kd.R_alloc|apply Kd.a4z|apply Kd.a5z));exact HO_9.1) (Kd.d1z ho0) hb);have n5_:=a0z.mk (Kd.d5z (Kd.d0z (Kd.d0z (Kd.d0z (Kd.d0z (Kd.d0z ho0 (Kd.R_lt (by (with_reducible repeat (first|apply Kd.R_alloc|apply Kd.a4z|apply Kd.a5z));exact HO_3.1))) (Kd.R_lt (by (with_reducible repeat (first|apply Kd.R_alloc|apply Kd.a4z|apply Kd.a5z));exact HO_4.1))) (Kd.R_lt (by (with_reducible repeat (first|apply Kd.R_alloc|apply Kd.a4z|apply Kd.a5z));exact HO_5.1))) (Kd.R_lt (by (with_reducible repeat (first|apply Kd.R_alloc|apply Kd.a4z|apply Kd.a5z));exact HO_7.1))) (Kd.R_lt (by (with_reducible repeat (first|apply Kd.R_alloc|apply Kd.a4z|apply Kd.a5z));exact HO_9.1))) (b1z (by repeat (first|(with_reducible first|exact HB.1|apply a3z|apply a1z|apply a2z)|exact HB.1))));have n6_:=a0z.mk (b3z (by repeat (first|(with_reducible first|exact HB.1|apply a3z|apply a1z|apply a2z)|exact HB.1)) hb);clear HO_3;clear HO_4;clear HO_5;clear HO_7;clear HO_9;clear HB;have HO_3:=n0_;have HO_4:=n1_;have HO_5:=n2_;have HO_7:=n3_;have HO_9:=n4_;have HO126:=n5_;have HB:=n6_;clear n0_ n1_ n2_ n3_ n4_ n5_ n6_;(try clear hb);(try clear hb2);(try clear hk);(try clear hi);(try clear ho0);obtain ⟨Ao125,co125,eo125⟩:=Kd.d3z HO_5.1;subst eo125)|((with_reducible refine b8z (f:=16) rfl ?_);refine d2z (some 92) rfl rfl Try.func16 (by kernel_rfl) rfl #[.slice Ao125 t107.length co125] rfl (by (try simp only [List.map_toArray,List.map_cons,List.map_nil]);first|done|rfl|(simp only [List.length_drop,List.length_take];rfl)) ?_;(with_reducible refine (impl_SetOk.calls kj6 _ _ t107 t127 _ ?side1 ?side2 A123.1).mono ?_);(case side1 => repeat (first|exact (Kd.b4z HO_5.1).2.2|(with_reducible refine Kd.C_alloc ?_ _)|(with_reducible refine Kd.C_drewN ?_ _)|(with_reducible refine Kd.C_drew ?_)));(case side2 => exact (Kd.b4z HO_5.1).2.1);rintro e w126 ⟨rfl,hb⟩;refine ⟨_,rfl,?_⟩;have n0_:=a0z.mk (Kd.c3z (by (with_reducible repeat (first|apply Kd.R_alloc|apply Kd.a4z|apply Kd.a5z));exact HO_3.1) hb);have n1_:=a0z.mk (Kd.c3z (by (with_reducible repeat (first|apply Kd.R_alloc|apply Kd.a4z|apply Kd.a5z));exact HO_4.1) hb);have n2_:=a0z.mk (Kd.c3z (by (with_reducible repeat (first|apply Kd.R_alloc|apply Kd.a4z|apply Kd.a5z));exact HO_5.1) hb);have n3_:=a0z.mk (Kd.c3z (by (with_reducible repeat (first|apply Kd.R_alloc|apply Kd.a4z|apply Kd.a5z));exact HO_7.1) hb);have n4_:=a0z.mk (Kd.c3z (by (with_reducible repeat (first|apply Kd.R_alloc|apply Kd.a4z|apply Kd.a5z));exact HO_9.1) hb);have n5_:=a0z.mk (Kd.c3z (by (with_reducible repeat (first|apply Kd.R_alloc|apply Kd.a4z|apply Kd.a5z));exact HO126.1) hb);have n6_:=a0z.mk (b3z (by repeat (first|(with_reducible first|exact HB.1|apply a3z|apply a1z|apply a2z)|exact HB.1)) hb);clear HO_3;clear HO_4;clear HO_5;clear HO_7;clear HO_9;clear HO126;clear HB;have HO_3:=n0_;have HO_4:=n1_;have HO_5:=n2_;have HO_7:=n3_;have HO_9:=n4_;have HO126:=n5_;have HB:=n6_;clear n0_ n1_ n2_ n3_ n4_ n5_ n6_;(try clear hb);(try clear hb2);(try clear hk);(try clear hi)))
      go_ret
      exact ⟨by first|rfl|(simp [c2z,c1z] <;> rfl)|(simp [*,c2z,c1z] <;> rfl),by repeat (first|(with_reducible first|exact HB.1|apply a3z|apply a1z|apply a2z)|exact HB.1)⟩
end Go.Proofs.Ytmdhedkgpgoneaa.Q

namespace Go.Proofs.Ytmdhedkgpgoneaa.Open
open Go.RowKit Go.ChangeShapes Go.WideShapes Go.Deep Go.Proofs.YtmdhedkgpgoneaaW.PrintWords
/-- A number fits its kind. -/
def Fits (k : IntKind) (n : Int) : Prop:=(Lit.int k n).wf = true
/-- What the cells of a type say. -/
def Opens (P : Program) (w : World) (t : TypeId) {α : Type} (d : Kd α) (p : α → Prop) : Prop :=
 ∀ (H : Type) (enc : TypeId × Value → H) (base : Nat) (spare : Nat → Bool) (held : Bool) (fuel : Nat) (cs : List Value) (x : DataW H × List MemPlace),
  DataW.trod enc P w base spare held fuel t cs = some x → ∃ a,d.K w a cs ∧ p a
theorem opens_int {P : Program} {w : World} {t : TypeId} {k : IntKind} (ht : P.underlying t = some (.int k)) : Opens P w t (Kd.int k) (fun n => Fits k n):=by
 intro H enc base spare held fuel cs x h
 obtain ⟨n,rfl,_,hw⟩:=DataW.trod_int ht h
 exact ⟨n,rfl,hw⟩
theorem pick {α : Type} (n : Nat) (R : Nat → α → Prop) (h : ∀ i,i < n → ∃ a,R i a) : ∃ xs : List α,xs.length = n ∧ ∀ i a,xs[i]? = some a → R i a:=by
 induction n with
 | zero => exact ⟨[],rfl,fun i a e => by simp at e⟩
 | succ n ih =>
  obtain ⟨xs,hl,hx⟩:=ih (fun i hi => h i (by omega))
  obtain ⟨a,ha⟩:=h n (by omega)
  refine ⟨xs ++ [a],by simp [hl],fun i b e => ?_⟩
  rcases Nat.lt_or_ge i xs.length with hi|hi
  ·rw [List.getElem?_append_left hi] at e
   exact hx i b e
  ·have hlt:=(List.getElem?_eq_some_iff.1 e).1
   rw [List.length_append,List.length_singleton] at hlt
   obtain rfl : i = xs.length:=by omega
   simp at e
   subst e
   rw [hl]
   exact ha
theorem opens_slice {P : Program} {w : World} {t e : TypeId} {α : Type} {d : Kd α} {p : α → Prop} (ht : P.underlying t = some (.slice e)) (hc : P.cellsOf e = d.sz) (he : Opens P w e d p) :
  Opens P w t (Kd.slice e d) (fun xs => xs.length ≤ 9223372036854775807 ∧ ∀ y ∈ xs,p y):=by
 intro H enc base spare held fuel cs x h
 rcases open_slice ht h with ⟨rfl,_⟩|⟨a,len,cap,m,n,D,Pl,rfl,_,hl,hm,hmm,_,hi⟩
 ·exact ⟨[],⟨none,0,rfl,by simp,by simp,by simp,fun hn => by simp at hn⟩,by simp,by simp⟩
 ·have hle : len ≤ m:=by rw [hmm];split <;> omega
  obtain ⟨xs,hxl,hx⟩:=pick len (fun i y => p y ∧ ∃ c,c.length = d.sz ∧ d.K w y c ∧ ∀ j u,c[j]? = some u → w.cell? (a.add (i * d.sz + j)) = some u) (fun i hil => by
   obtain ⟨cs',h1,h2⟩:=hi i (by omega)
   obtain ⟨y,hK,hp⟩:=he _ _ _ _ _ _ _ _ h2
   obtain ⟨_,hcl,hat⟩:=World.cells?_some h1
   rw [hc] at hcl hat
   refine ⟨y,hp,cs',hcl,hK,fun j u hu => ?_⟩
   have hj:=(List.getElem?_eq_some_iff.1 hu).1
   rw [← Go.Deep.add_add,hat j (by omega),hu])
  have hmx : maxLen = 9223372036854775807:=rfl
  refine ⟨xs,⟨some a,cap,by rw [hxl],by omega,?_⟩,by omega,fun y hy => ?_⟩
  ·refine ⟨rfl,by omega,fun _ => ⟨a,rfl,fun j q hj => ?_⟩⟩
   obtain ⟨_,c,h1,h2,h3⟩:=hx j q hj
   exact ⟨c,h1,h2,h3⟩
  ·obtain ⟨i,hi2⟩:=List.getElem?_of_mem hy
   exact (hx i y hi2).1
theorem open_arg {H : Type} {enc : TypeId × Value → H} {P : Program} {w : World} {base : Nat} {spare : Nat → Bool} {held : Bool} {t : TypeId} {α : Type} {d : Kd α} {p : α → Prop} {v : Value} {dt : DataW H} {ps : List MemPlace} (he : Opens P w t d p)
  (h : DataW.Trod enc P w base spare held t v dt ps) : ∃ a,d.K w a v.cells.toList ∧ p a:=by
 obtain ⟨fuel,hf⟩:=h
 exact he _ _ _ _ _ _ _ _ hf
theorem slice_of_cells {a A : Option Addr} {len cap n c : Nat} (h : (Value.slice a len cap).cells.toList = [.slice A n c]) : A = a ∧ len = n ∧ c = cap:=by
 simp only [Value.cells,List.cons.injEq,Value.slice.injEq,and_true] at h
 exact ⟨h.1.symm,h.2.1,h.2.2.symm⟩
end Go.Proofs.Ytmdhedkgpgoneaa.Open

namespace Go.Proofs.Ytmdhedkgpgoneaa.Q
open Go.RowKit Go.Proofs.YtmdhedkgpgoneaaW.PrintWords Go.Proofs.Ytmdhedkgpgoneaa.Open
theorem op5 (w : World) : Opens Try.prog w 5 (Kd.int .u8) (fun x => Open.Fits .u8 x):=opens_int Try.underlying5
theorem op35 (w : World) : Opens Try.prog w 35 (Kd.slice 5 (Kd.int .u8)) (fun x => (x.length ≤ 9223372036854775807 ∧ ∀ y ∈ x,Open.Fits .u8 y)):=opens_slice Try.underlying35 (by kernel_rfl) (op5 w)
end Go.Proofs.Ytmdhedkgpgoneaa.Q

namespace Go.Proofs.Ytmdhedkgpgoneaa.Q
open Go.Proofs.Ytmdhedkgpgoneaa.Open
/-- The pure statement of laws_FnSetBoth. -/
def laws_FnSetBoth.Pure : Prop:=∀ (x0 : List Int),((x0.length ≤ 9223372036854775807 ∧ ∀ y ∈ x0,Open.Fits .u8 y)) → ∃ k,laws_FnSetBoth.f k x0 = some true
end Go.Proofs.Ytmdhedkgpgoneaa.Q

namespace Go.Proofs.Ytmdhedkgpgoneaa.Pure
open Go.RowKit
theorem w64 {x : Int} (h : -9223372036854775808 ≤ x) (h' : x ≤ 9223372036854775807) : wrap64 x = x:=by
 unfold wrap64
 omega
/-- A loop that leaves at the first place that isn't good. -/
theorem scan_loop {β : Type} (l0 : Nat → Int → Option β) (n K : Nat) (good : Nat → Bool) (bad fin : β)
  (hgood : ∀ k i : Nat,i < n → K ≤ k → (∀ j,j < i → good j = true) → good i = true → l0 (k + 1) (i : Int) = l0 k ((i + 1 : Nat) : Int))
  (hbad : ∀ k i : Nat,i < n → K ≤ k → (∀ j,j < i → good j = true) → good i = false → l0 (k + 1) (i : Int) = some bad)
  (hend : ∀ k : Nat,K ≤ k → l0 (k + 1) (n : Int) = some fin) :
  ∀ k,n + K < k → l0 k 0 = some (if (List.range n).all good then fin else bad):=by
 have key : ∀ (e k i : Nat),n - i = e → e + K < k → i ≤ n → (∀ j,j < i → good j = true) → l0 k (i : Int) = some (if (List.range n).all good then fin else bad):=by
  intro e
  induction e with
  | zero =>
   intro k i he hk hi hg
   obtain ⟨k,rfl⟩ : ∃ m,k = m + 1:=⟨k - 1,by omega⟩
   obtain rfl : i = n:=by omega
   rw [hend k (by omega),if_pos]
   rw [List.all_eq_true]
   exact fun x hx => hg x (List.mem_range.1 hx)
  | succ e ih =>
   intro k i he hk hi hg
   obtain ⟨k,rfl⟩ : ∃ m,k = m + 1:=⟨k - 1,by omega⟩
   cases hc : good i with
   | true =>
    rw [hgood k i (by omega) (by omega) hg hc]
    refine ih k (i + 1) (by omega) (by omega) (by omega) (fun j hj => ?_)
    by_cases h : j = i
    ·rw [h];exact hc
    ·exact hg j (by omega)
   | false =>
    rw [hbad k i (by omega) (by omega) hg hc,if_neg]
    rw [List.all_eq_true]
    intro h
    have:=h i (List.mem_range.2 (by omega))
    rw [hc] at this
    exact absurd this (by simp)
 intro k hk
 exact key n k 0 (by omega) (by omega) (by omega) (fun j hj => by omega)
end Go.Proofs.Ytmdhedkgpgoneaa.Pure

namespace Go.Proofs.Ytmdhedkgpgoneaa.Pure
open Go.RowKit Go.Proofs.Ytmdhedkgpgoneaa.Q Go.Proofs.YtmdhedkgpgoneaaW.PrintWords Go.Proofs.YtmdhedkgpgoneaaW.PrintLast Go.Proofs.YtmdhedkgpgoneaaW.PrintMore
/-- How many addresses a block of b bits has. -/
def sz (b : Int) : Int:=2 ^ (32 - b).toNat
theorem h4z (b : Int) : 0 < sz b:=Int.pow_pos (by omega)
theorem sz_le {b : Int} (h : 0 ≤ b) : sz b ≤ 4294967296:=by
 have h1 : (32 - b).toNat ≤ 32:=by omega
 have h2 : (2 : Nat) ^ (32 - b).toNat ≤ 2 ^ 32:=Nat.pow_le_pow_right (by omega) h1
 have h3 : ((2 : Nat) ^ (32 - b).toNat : Nat) ≤ 4294967296:=by simpa using h2
 unfold sz
 have h4 : ((2 ^ (32 - b).toNat : Nat) : Int) = (2 : Int) ^ (32 - b).toNat:=by norm_cast
 omega
theorem in_spec (a lo hi : Int) : spec_l1In.f a lo hi = some (decide (lo ≤ a ∧ a ≤ hi)):=by
 unfold spec_l1In.f
 by_cases h : a ≥ lo
 ·rw [if_pos h];simp [show lo ≤ a from h]
 ·rw [if_neg h];simp [show ¬ lo ≤ a from h]
theorem in_impl (a lo hi : Int) : impl_in.f a lo hi = some (decide (lo ≤ a ∧ a ≤ hi)):=by
 unfold impl_in.f
 by_cases h : a ≥ lo
 ·rw [if_pos h];simp [show lo ≤ a from h]
 ·rw [if_neg h];simp [show ¬ lo ≤ a from h]
theorem addr_spec (a : Int) : spec_l1Addr.f a = some (decide (0 ≤ a ∧ a ≤ 4294967295)):=by
 unfold spec_l1Addr.f
 rw [in_spec]
 rfl
theorem addr_impl (a : Int) : impl_isAddr.f a = some (decide (0 ≤ a ∧ a ≤ 4294967295)):=by
 unfold impl_isAddr.f
 rw [in_impl]
 rfl
theorem two_ev : ∀ (m k : Nat) (x : Int),m < k → 0 ≤ x → x * 2 ^ m ≤ 9223372036854775807 → m ≤ 62 → spec_l1Two.l0 k m x = some (x * 2 ^ m):=by
 intro m
 induction m with
 | zero =>
  intro k x hk h0 h1 _
  obtain ⟨k,rfl⟩ : ∃ j,k = j + 1:=⟨k - 1,by omega⟩
  simp only [spec_l1Two.l0]
  rw [if_neg (by omega)]
  simp
 | succ m ih =>
  intro k x hk h0 h1 hm
  obtain ⟨k,rfl⟩ : ∃ j,k = j + 1:=⟨k - 1,by omega⟩
  simp only [spec_l1Two.l0]
  rw [if_pos (by omega)]
  have e : x * 2 ^ (m + 1) = x * 2 * 2 ^ m:=by rw [Int.pow_succ];rw [Int.mul_comm (2 ^ m) 2,Int.mul_assoc]
  have p : (1 : Int) ≤ 2 ^ m:=Int.pow_pos (by omega)
  have h2 : x * 2 ≤ x * 2 * 2 ^ m:=by
   have:=Int.mul_le_mul_of_nonneg_left p (show 0 ≤ x * 2 by omega)
   omega
  rw [w64 (by omega) (by omega),w64 (by omega) (by omega),show (((m + 1 : Nat) : Int) - 1) = (m : Int) by omega,ih k (x * 2) (by omega) (by omega) (by rw [← e];exact h1) (by omega),e]
theorem size_spec {b : Int} {k : Nat} (h0 : 0 ≤ b) (h1 : b ≤ 32) (hk : 40 ≤ k) : spec_l1Size.f k b = some (sz b):=by
 unfold spec_l1Size.f spec_l1Two.f
 rw [w64 (by omega) (by omega)]
 have e : (32 - b) = (((32 - b).toNat : Nat) : Int):=by omega
 have hs:=sz_le h0
 rw [e,two_ev _ k 1 (by omega) (by omega) (by unfold sz at hs;omega) (by omega)]
 simp [sz]
theorem size_impl {a b : Int} (h0 : 0 ≤ b) (h1 : b ≤ 32) : impl_Block_size.f a b = some (sz b):=by
 unfold impl_Block_size.f
 have hs:=sz_le h0
 have hp:=h4z b
 rw [w64 (by omega) (by omega),if_pos (by omega)]
 unfold shl
 rw [show min (32 - b).toNat IntKind.i64.bits = (32 - b).toNat from Nat.min_eq_left (by show (32 - b).toNat ≤ 64;omega)]
 congr 1
 rw [Int.one_mul]
 show IntKind.i64.wrap (sz b) = sz b
 rw [IntKind.wrap_i64]
 omega
/-- A block is valid. -/
def bok (a b : Int) : Bool:=decide (0 ≤ a ∧ a ≤ 4294967295 ∧ 0 ≤ b ∧ b ≤ 32 ∧ a % sz b = 0)
theorem bok_iff {a b : Int} : bok a b = true ↔ 0 ≤ a ∧ a ≤ 4294967295 ∧ 0 ≤ b ∧ b ≤ 32 ∧ a % sz b = 0:=by
 unfold bok
 rw [decide_eq_true_iff]
theorem tmod_of {a b : Int} (h : 0 ≤ a) : Int.tmod a (sz b) = a % sz b:=Int.tmod_eq_emod_of_nonneg h
theorem ok_spec {k : Nat} (a b : Int) (hk : 40 ≤ k) : spec_BlockOk.f k a b = some (bok a b):=by
 unfold spec_BlockOk.f
 rw [addr_spec,Option.bind_some]
 by_cases h : 0 ≤ a ∧ a ≤ 4294967295
 ·rw [if_pos (by simpa using h),in_spec,Option.bind_some]
  by_cases h2 : 0 ≤ b ∧ b ≤ 32
  ·rw [if_pos (by simpa using h2),size_spec h2.1 h2.2 hk,Option.bind_some,if_neg (by have:=h4z b;omega),tmod_of h.1]
   congr 1
   unfold bok
   rw [Bool.eq_iff_iff]
   simp [h,h2]
  ·rw [if_neg (by simpa using h2)]
   congr 1
   symm
   unfold bok
   rw [decide_eq_false_iff_not]
   omega
 ·rw [if_neg (by simpa using h)]
  congr 1
  symm
  unfold bok
  rw [decide_eq_false_iff_not]
  omega
theorem ok_impl (a b : Int) : impl_BlockOk.f a b = some (bok a b):=by
 unfold impl_BlockOk.f
 rw [addr_impl,Option.bind_some]
 by_cases h : 0 ≤ a ∧ a ≤ 4294967295
 ·rw [if_pos (by simpa using h),in_impl,Option.bind_some]
  by_cases h2 : 0 ≤ b ∧ b ≤ 32
  ·rw [if_pos (by simpa using h2),size_impl h2.1 h2.2,Option.bind_some,if_neg (by have:=h4z b;omega),tmod_of h.1]
   congr 1
   unfold bok
   rw [Bool.eq_iff_iff]
   simp [h,h2]
  ·rw [if_neg (by simpa using h2)]
   congr 1
   symm
   unfold bok
   rw [decide_eq_false_iff_not]
   omega
 ·rw [if_neg (by simpa using h)]
  congr 1
  symm
  unfold bok
  rw [decide_eq_false_iff_not]
  omega
theorem last_spec {k : Nat} {a b : Int} (h : bok a b = true) (hk : 40 ≤ k) : spec_l1Last.f k a b = some (a + sz b - 1):=by
 obtain ⟨h1,h2,h3,h4,_⟩:=bok_iff.1 h
 have:=sz_le h3
 have:=h4z b
 unfold spec_l1Last.f
 rw [size_spec h3 h4 hk,Option.bind_some,w64 (x:=a + sz b) (by omega) (by omega),w64 (by omega) (by omega)]
theorem last_impl {a b : Int} (h0 : 0 ≤ a) (h1 : a ≤ 4294967296) (h3 : 0 ≤ b) (h4 : b ≤ 32) : impl_Block_last.f a b = some (a + sz b - 1):=by
 have:=sz_le h3
 have:=h4z b
 unfold impl_Block_last.f
 rw [size_impl h3 h4,Option.bind_some,w64 (x:=a + sz b) (by omega) (by omega),w64 (by omega) (by omega)]
end Go.Proofs.Ytmdhedkgpgoneaa.Pure

namespace Go.Proofs.Ytmdhedkgpgoneaa.Pure
set_option linter.unusedSimpArgs false
open Go.RowKit Go.Proofs.Ytmdhedkgpgoneaa.Q Go.Proofs.YtmdhedkgpgoneaaW.PrintWords Go.Proofs.YtmdhedkgpgoneaaW.PrintLast Go.Proofs.YtmdhedkgpgoneaaW.PrintMore
theorem sz_succ {m : Int} (h0 : 0 ≤ m) (h1 : m < 32) : sz m = 2 * sz (m + 1):=by
 unfold sz
 rw [show (32 - m).toNat = (32 - (m + 1)).toNat + 1 by omega,Int.pow_succ,Int.mul_comm]
theorem sz_32 : sz 32 = 1:=by decide
theorem i6z (a s : Int) : a / s * s = a ↔ a % s = 0:=by
 have h:=Int.emod_add_mul_ediv a s
 rw [Int.mul_comm] at h
 constructor
 ·intro e;omega
 ·intro e;omega
theorem around_ev {a m : Int} (h0 : 0 ≤ a) (h1 : a ≤ 4294967295) (m0 : 0 ≤ m) (m1 : m ≤ 32) : impl_around.f a m = some (a / sz m * sz m,m):=by
 have hs:=sz_le m0
 have hp:=h4z m
 unfold impl_around.f
 rw [w64 (by omega) (by omega),if_pos (by omega)]
 unfold shl shr
 rw [show min (32 - m).toNat IntKind.i64.bits = (32 - m).toNat from Nat.min_eq_left (by show (32 - m).toNat ≤ 64;omega)]
 show some (IntKind.i64.wrap (a / sz m * sz m),m) = _
 have e : IntKind.i64.wrap (a / sz m * sz m) = a / sz m * sz m:=by
  have h2 : a / sz m * sz m ≤ a:=Int.ediv_mul_le a (by omega)
  have h3 : 0 ≤ a / sz m:=Int.ediv_nonneg h0 (by omega)
  have h4 : 0 ≤ a / sz m * sz m:=Int.mul_nonneg h3 (by omega)
  rw [IntKind.wrap_i64]
  omega
 rw [e]
/-- A block of m bits fits at a, up to b. -/
def fits (a b m : Int) : Bool:=decide (a % sz m = 0) && decide (a + sz m - 1 ≤ b)
theorem h6z {a b m : Int} : fits a b m = true ↔ a % sz m = 0 ∧ a + sz m - 1 ≤ b:=by
 unfold fits
 simp
theorem fits_succ {a b m : Int} (h0 : 0 ≤ m) (h1 : m < 32) (h : fits a b m = true) : fits a b (m + 1) = true:=by
 rw [h6z] at h ⊢
 have hs:=sz_succ h0 h1
 have hp:=h4z (m + 1)
 refine ⟨?_,by omega⟩
 obtain ⟨q,hq⟩:=Int.dvd_of_emod_eq_zero h.1
 have e : a = sz (m + 1) * (2 * q):=by rw [hq,hs,Int.mul_comm 2,Int.mul_assoc]
 rw [e]
 exact Int.mul_emod_right _ _
theorem fits_32 {a b : Int} (h : a ≤ b) : fits a b 32 = true:=by
 rw [h6z,sz_32]
 omega
theorem fits_le {a b : Int} : ∀ (d : Nat) (m : Int),0 ≤ m → m + d ≤ 32 → fits a b m = true → fits a b (m + d) = true:=by
 intro d
 induction d with
 | zero => intro m _ _ h;simpa using h
 | succ d ih =>
  intro m h0 h1 h
  have:=ih (m + 1) (by omega) (by omega) (fits_succ h0 (by omega) h)
  rwa [show m + 1 + (d : Int) = m + ((d + 1 : Nat) : Int) by omega] at this
def mbF (a b : Int) : Nat → Int → Int
 | 0,m => m
 | n + 1,m => if fits a b m = true then m else mbF a b n (m + 1)
/-- The fewest bits of a block that fits. -/
def mb (a b : Int) : Int:=mbF a b 32 0
theorem mbF_spec {a b : Int} (hab : a ≤ b) : ∀ (n : Nat) (m : Int),0 ≤ m → m + n = 32 → (∀ j,0 ≤ j → j < m → fits a b j = false) → 0 ≤ mbF a b n m ∧ mbF a b n m ≤ 32 ∧ fits a b (mbF a b n m) = true ∧ ∀ j,0 ≤ j → j < mbF a b n m → fits a b j = false:=by
 intro n
 induction n with
 | zero =>
  intro m h0 h1 h
  obtain rfl : m = 32:=by omega
  exact ⟨show (0 : Int) ≤ 32 by decide,show (32 : Int) ≤ 32 by decide,fits_32 hab,h⟩
 | succ n ih =>
  intro m h0 h1 h
  unfold mbF
  by_cases hf : fits a b m = true
  ·rw [if_pos hf]
   exact ⟨h0,by omega,hf,h⟩
  ·rw [if_neg hf]
   refine ih (m + 1) (by omega) (by omega) (fun j hj0 hj => ?_)
   by_cases e : j = m
   ·rw [e];simpa using hf
   ·exact h j hj0 (by omega)
theorem mb_spec {a b : Int} (hab : a ≤ b) : 0 ≤ mb a b ∧ mb a b ≤ 32 ∧ fits a b (mb a b) = true ∧ ∀ j,0 ≤ j → j < mb a b → fits a b j = false :=
 mbF_spec hab 32 0 (by omega) (by omega) (fun j h0 h => by omega)
theorem mb_unique {a b m : Int} (hab : a ≤ b) (h0 : 0 ≤ m) (h1 : m ≤ 32) (hf : fits a b m = true) (hn : m = 0 ∨ fits a b (m - 1) = false) : mb a b = m:=by
 obtain ⟨p0,p1,pf,pn⟩:=mb_spec hab
 rcases Int.lt_trichotomy (mb a b) m with h|h|h
 ·have:=fits_le (m - 1 - mb a b).toNat (mb a b) p0 (by omega) pf
  rw [show mb a b + ((m - 1 - mb a b).toNat : Int) = m - 1 by omega] at this
  rcases hn with hn|hn
  ·omega
  ·rw [hn] at this
   exact absurd this (by simp)
 ·exact h
 ·have:=pn m h0 h
  rw [hf] at this
  exact absurd this (by simp)
/-- How many addresses there are. -/
def NN : Nat:=4294967296
theorem NN_eq : NN = 4294967296:=rfl
/-- The blocks of a span. -/
def cov : Nat → Int → Int → List S44
 | 0,_,_ => []
 | n + 1,a,b => if a ≤ b then ⟨a,mb a b⟩ :: cov n (a + sz (mb a b)) b else []
theorem cov_nil {n : Nat} {a b : Int} (h : b < a) : cov n a b = []:=by
 cases n with
 | zero => rfl
 | succ n => unfold cov;rw [if_neg (by omega)]
/-- A block that was just appended. -/
theorem rd_last (acc : List S44) (x : S44) : b6z (acc ++ [x]) (((acc ++ [x]).length : Int) - 1) = x:=by
 unfold b6z
 rw [show ((((acc ++ [x]).length : Nat) : Int) - 1).toNat = acc.length by rw [List.length_append,List.length_singleton];omega]
 simp [List.getD]
theorem impl_tail {acc : List S44} {a m x b : Int} {k : Nat} (h0 : 0 ≤ a) (h1 : a ≤ 4294967295) (m0 : 0 ≤ m) (m1 : m ≤ 32) (hf : a % sz m = 0) (hl : acc.length < 8796093022207) :
  ((impl_around.f a m).bind fun bt => (if acc.length < 8796093022208 then ((some (acc ++ [(⟨bt.1,bt.2⟩ : S44)] : List (S44))).bind fun y => (if 0 ≤ (wrap64 ((y.length : Int) - 1)) then (if (wrap64 ((y.length : Int) - 1)) < (y.length : Int) then ((impl_Block_last.f ((b6z y (wrap64 ((y.length : Int) - 1))).f0) ((b6z y (wrap64 ((y.length : Int) - 1))).f1)).bind fun t => (impl_span_blocks.l0 k y (wrap64 (t + 1)) x b)) else (none)) else (none))) else (none))) =
   impl_span_blocks.l0 k (acc ++ [⟨a,m⟩]) (a + sz m) x b:=by
 have hs:=sz_le m0
 have hp:=h4z m
 rw [around_ev h0 h1 m0 m1,Option.bind_some,(i6z a (sz m)).2 hf,if_pos (by omega),Option.bind_some]
 dsimp only
 have hlen : ((acc ++ [(⟨a,m⟩ : S44)]).length : Int) = acc.length + 1:=by rw [List.length_append,List.length_singleton];omega
 rw [w64 (x:=((acc ++ [(⟨a,m⟩ : S44)]).length : Int) - 1) (by omega) (by omega),if_pos (by omega),if_pos (by omega),rd_last]
 rw [last_impl h0 (by omega) m0 m1,Option.bind_some,w64 (by omega) (by omega),show a + sz m - 1 + 1 = a + sz m by omega]
theorem impl_down {acc : List S44} {a x b : Int} (h0 : 0 ≤ a) (hab : a ≤ b) (h1 : b ≤ 4294967295) (hl : acc.length < 8796093022207) :
  ∀ (n : Nat),n ≤ 32 → fits a b n = true → ∃ c,c ≤ n + 1 ∧ ∀ k,impl_span_blocks.l1 (k + c) acc a (n : Int) x b = impl_span_blocks.l0 k (acc ++ [⟨a,mb a b⟩]) (a + sz (mb a b)) x b:=by
 intro n
 induction n with
 | zero =>
  intro hn hf
  refine ⟨1,by omega,fun k => ?_⟩
  simp only [impl_span_blocks.l1]
  rw [if_neg (by omega),mb_unique hab (Int.le_refl 0) (by omega) hf (.inl rfl)]
  exact impl_tail h0 (by omega) (by omega) (by omega) (h6z.1 hf).1 hl
 | succ n ih =>
  intro hn hf
  have ew : wrap64 (((n + 1 : Nat) : Int) - 1) = (n : Int):=by rw [w64 (by omega) (by omega)];omega
  have hs:=sz_le (show (0 : Int) ≤ n by omega)
  have hp:=h4z (n : Int)
  cases hc : fits a b n with
  | true =>
   obtain ⟨c,hc1,hc2⟩:=ih (by omega) hc
   obtain ⟨g1,g2⟩:=h6z.1 hc
   refine ⟨c + 1,by omega,fun k => ?_⟩
   rw [show k + (c + 1) = (k + c) + 1 by omega]
   simp only [impl_span_blocks.l1]
   rw [if_pos (by omega),ew,around_ev h0 (by omega) (by omega) (by omega),Option.bind_some]
   dsimp only
   rw [(i6z a (sz n)).2 g1,if_pos rfl,Option.bind_some]
   dsimp only
   rw [last_impl h0 (by omega) (by omega) (by omega),Option.bind_some,if_pos (by omega)]
   exact hc2 k
  | false =>
   refine ⟨1,by omega,fun k => ?_⟩
   have hm : mb a b = ((n + 1 : Nat) : Int):=mb_unique hab (by omega) (by omega) hf (.inr (by rw [show ((n + 1 : Nat) : Int) - 1 = (n : Int) by omega];exact hc))
   have ht:=@impl_tail acc a ((n + 1 : Nat) : Int) x b k h0 (by omega) (by omega) (by omega) (h6z.1 hf).1 hl
   simp only [impl_span_blocks.l1]
   rw [if_pos (by omega),ew,around_ev h0 (by omega) (by omega) (by omega),Option.bind_some]
   dsimp only
   rw [hm]
   by_cases g1 : a % sz n = 0
   ·rw [(i6z a (sz n)).2 g1,if_pos rfl,Option.bind_some]
    dsimp only
    have g2 : ¬ a + sz n - 1 ≤ b:=by
     intro h
     rw [h6z.2 ⟨g1,h⟩] at hc
     exact absurd hc (by simp)
    rw [last_impl h0 (by omega) (by omega) (by omega),Option.bind_some,if_neg (by omega)]
    exact ht
   ·rw [if_neg (fun h => g1 ((i6z a (sz n)).1 h))]
    exact ht
theorem impl_cov {x b : Int} (h1 : b ≤ 4294967295) : ∀ (n : Nat) (a : Int) (acc : List S44),0 ≤ a → (b + 1 - a).toNat ≤ n → acc.length + n < 8796093022207 → ∀ k,40 * n + 40 ≤ k → impl_span_blocks.l0 k acc a x b = some (acc ++ cov n a b):=by
 intro n
 induction n with
 | zero =>
  intro a acc h0 hn hl k hk
  obtain ⟨k,rfl⟩ : ∃ j,k = j + 1:=⟨k - 1,by omega⟩
  simp only [impl_span_blocks.l0]
  rw [if_neg (by omega),cov_nil (by omega),List.append_nil]
 | succ n ih =>
  intro a acc h0 hn hl k hk
  obtain ⟨k,rfl⟩ : ∃ j,k = j + 1:=⟨k - 1,by omega⟩
  simp only [impl_span_blocks.l0]
  by_cases hab : a ≤ b
  ·rw [if_pos hab]
   obtain ⟨c,hc1,hc2⟩:=@impl_down acc a x b h0 hab h1 (by omega) 32 (by omega) (fits_32 hab)
   have e:=hc2 (k - c)
   rw [show k - c + c = k by omega] at e
   have hp:=h4z (mb a b)
   rw [show (32 : Int) = ((32 : Nat) : Int) from rfl,e,ih (a + sz (mb a b)) _ (by omega) (by omega) (by rw [List.length_append,List.length_singleton];omega) (k - c) (by omega)]
   conv => rhs;unfold cov
   rw [if_pos hab,List.append_assoc]
   rfl
  ·rw [if_neg hab,cov_nil (by omega),List.append_nil]
theorem blocks_ev {a b : Int} (h0 : 0 ≤ a) (h1 : b ≤ 4294967295) {k : Nat} (hk : 171798691920 ≤ k) : impl_span_blocks.f k a b = some (cov NN a b):=by
 have hN:=NN_eq
 unfold impl_span_blocks.f
 have:=@impl_cov a b h1 NN a [] h0 (by omega) (by simp;omega) k (by omega)
 rwa [List.nil_append] at this
theorem first_ev {a b : Int} (h0 : 0 ≤ a) (hab : a ≤ b) (h1 : b ≤ 4294967295) : ∀ (n : Nat) (m : Int),0 ≤ m → m + n = 32 → ∀ k,n + 41 < k → spec_l2First.l0 k a b m = some (a,mbF a b n m):=by
 intro n
 induction n with
 | zero =>
  intro m m0 hm k hk
  obtain ⟨k,rfl⟩ : ∃ j,k = j + 1:=⟨k - 1,by omega⟩
  obtain rfl : m = 32:=by omega
  simp only [spec_l2First.l0]
  rw [size_spec (by omega) (by omega) (show 40 ≤ k by omega),Option.bind_some,Option.bind_some,sz_32,if_neg (by omega),if_pos (by simp),w64 (x:=a + 1) (by omega) (by omega),w64 (by omega) (by omega),if_neg (by omega)]
  rfl
 | succ n ih =>
  intro m m0 hm k hk
  obtain ⟨k,rfl⟩ : ∃ j,k = j + 1:=⟨k - 1,by omega⟩
  have hs:=sz_le m0
  have hp:=h4z m
  simp only [spec_l2First.l0]
  rw [size_spec (by omega) (by omega) (show 40 ≤ k by omega),Option.bind_some,Option.bind_some,if_neg (by omega),tmod_of h0,w64 (x:=m + 1) (by omega) (by omega),ih (m + 1) (by omega) (by omega) k (by omega),w64 (x:=a + sz m) (by omega) (by omega),w64 (x:=a + sz m - 1) (by omega) (by omega)]
  show _ = some (a,if fits a b m = true then m else mbF a b n (m + 1))
  by_cases g1 : a % sz m = 0
  ·rw [if_pos g1]
   by_cases g2 : a + sz m - 1 ≤ b
   ·rw [if_neg (by omega),if_pos (h6z.2 ⟨g1,g2⟩)]
   ·rw [if_pos (by omega),if_neg (fun h => g2 (h6z.1 h).2)]
  ·rw [if_neg g1,if_neg (fun h => g1 (h6z.1 h).1)]
theorem rdSp (l : List S63) (i : Nat) : c6z l (i : Int) = l.getD i z63:=rfl
theorem cover_l1 (x0 : List S63) (i : Nat) (hi : i < x0.length) (hx : x0.length ≤ 1048576) (b : Int) (hb : (x0.getD i z63).f1 = b) (h1 : b ≤ 4294967295) : ∀ (n : Nat) (a : Int) (acc : List S44),0 ≤ a → (b + 1 - a).toNat ≤ n → acc.length + n < 8796093022207 →
  ∃ c,c ≤ n + 1 ∧ ∀ k,100 ≤ k → spec_l2Cover.l1 (k + c) x0 acc (i : Int) a = spec_l2Cover.l0 k x0 (acc ++ cov n a b) ((i + 1 : Nat) : Int):=by
 have ew : wrap64 ((i : Int) + 1) = ((i + 1 : Nat) : Int):=by rw [w64 (by omega) (by omega)];rfl
 intro n
 induction n with
 | zero =>
  intro a acc h0 hn hl
  refine ⟨1,by omega,fun k hk => ?_⟩
  simp only [spec_l2Cover.l1]
  rw [if_pos (by omega),if_pos (by omega),rdSp,hb,if_neg (by omega),ew,cov_nil (by omega),List.append_nil]
 | succ n ih =>
  intro a acc h0 hn hl
  by_cases hab : a ≤ b
  ·obtain ⟨p0,p1,pf,_⟩:=mb_spec hab
   have hs:=sz_le p0
   have hp:=h4z (mb a b)
   obtain ⟨c,hc1,hc2⟩:=ih (a + sz (mb a b)) (acc ++ [⟨a,mb a b⟩]) (by omega) (by omega) (by rw [List.length_append,List.length_singleton];omega)
   refine ⟨c + 1,by omega,fun k hk => ?_⟩
   rw [show k + (c + 1) = (k + c) + 1 by omega]
   simp only [spec_l2Cover.l1,spec_l2First.f]
   rw [if_pos (by omega),if_pos (by omega),rdSp,hb,if_pos hab,first_ev h0 hab h1 32 0 (by omega) (by omega) (k + c) (by omega),Option.bind_some]
   dsimp only
   rw [show mbF a b 32 0 = mb a b from rfl,if_pos (by omega),size_spec p0 p1 (by omega),Option.bind_some,w64 (by omega) (by omega),hc2 k hk]
   conv => rhs;unfold cov
   rw [if_pos hab,List.append_assoc]
   rfl
  ·refine ⟨1,by omega,fun k hk => ?_⟩
   simp only [spec_l2Cover.l1]
   rw [if_pos (by omega),if_pos (by omega),rdSp,hb,if_neg hab,ew,cov_nil (by omega),List.append_nil]
end Go.Proofs.Ytmdhedkgpgoneaa.Pure

namespace Go.Proofs.Ytmdhedkgpgoneaa.Si
/-- A span: its two ends. -/
abbrev Sn:=Int × Int
def inB (s : Sn) (p : Int) : Bool:=decide (s.1 ≤ p) && decide (p ≤ s.2)
/-- A point lies in one of the spans. -/
def memB (xs : List Sn) (p : Int) : Bool:=xs.any fun s => inB s p
theorem g3z {s : Sn} {p : Int} : inB s p = true ↔ s.1 ≤ p ∧ p ≤ s.2:=by simp [inB]
theorem memB_iff {xs : List Sn} {p : Int} : memB xs p = true ↔ ∃ s ∈ xs,s.1 ≤ p ∧ p ≤ s.2:=by simp [memB,inB]
theorem g4z (p : Int) : memB [] p = false:=rfl
theorem f5z (s : Sn) (xs : List Sn) (p : Int) : memB (s :: xs) p = (inB s p || memB xs p):=by simp [memB]
theorem h5z (xs ys : List Sn) (p : Int) : memB (xs ++ ys) p = (memB xs p || memB ys p):=by simp [memB]
/-- A span of addresses. -/
def Ok (s : Sn) : Prop:=0 ≤ s.1 ∧ s.1 ≤ s.2 ∧ s.2 ≤ 4294967295
/-- Spans in order that neither meet nor touch. -/
def Can (xs : List Sn) : Prop:=(∀ s ∈ xs,Ok s) ∧ xs.Pairwise fun s t => s.2 + 1 < t.1
theorem can_nil : Can []:=⟨fun _ h => absurd h (by simp),List.Pairwise.nil⟩
theorem can_tail {s : Sn} {xs : List Sn} (h : Can (s :: xs)) : Can xs:=⟨fun t ht => h.1 t (List.mem_cons_of_mem _ ht),(List.pairwise_cons.1 h.2).2⟩
theorem can_head {s : Sn} {xs : List Sn} (h : Can (s :: xs)) : ∀ t ∈ xs,s.2 + 1 < t.1:=(List.pairwise_cons.1 h.2).1
theorem mem_tail {s : Sn} {xs : List Sn} (h : Can (s :: xs)) (p : Int) : memB xs p = true ↔ memB (s :: xs) p = true ∧ s.2 < p:=by
 rw [f5z,Bool.or_eq_true]
 constructor
 ·intro hm
  refine ⟨.inr hm,?_⟩
  obtain ⟨t,ht,h1,_⟩:=memB_iff.1 hm
  have:=can_head h t ht
  omega
 ·rintro ⟨h1|h1,h2⟩
  ·have:=(g3z.1 h1).2
   omega
  ·exact h1
theorem start_le {s : Sn} {xs : List Sn} (h : Can (s :: xs)) {p : Int} (hp : memB (s :: xs) p = true) : s.1 ≤ p:=by
 obtain ⟨t,ht,h1,_⟩:=memB_iff.1 hp
 rcases List.mem_cons.1 ht with rfl|ht
 ·exact h1
 ·have:=can_head h t ht
  have:=(h.1 s List.mem_cons_self).2.1
  omega
theorem mem_start {s : Sn} {xs : List Sn} (h : Can (s :: xs)) : memB (s :: xs) s.1 = true:=by
 rw [f5z,g3z.2 ⟨Int.le_refl _,(h.1 s List.mem_cons_self).2.1⟩];rfl
theorem end_le {s t : Sn} {xs ys : List Sn} (hx : Can (s :: xs)) (_ : Can (t :: ys)) (e1 : s.1 = t.1) (hp : ∀ p,memB (t :: ys) p = memB (s :: xs) p) : t.2 ≤ s.2:=by
 by_cases h : t.2 ≤ s.2
 ·exact h
 ·exfalso
  have h0:=(hx.1 s List.mem_cons_self).2.1
  have h1 : memB (t :: ys) (s.2 + 1) = true:=by rw [f5z,g3z.2 ⟨by omega,by omega⟩];rfl
  rw [hp] at h1
  obtain ⟨u,hu,h2,h3⟩:=memB_iff.1 h1
  rcases List.mem_cons.1 hu with rfl|hu
  ·omega
  ·have:=can_head hx u hu
   omega
/-- The points make the canonical list. -/
theorem can_unique : ∀ (xs ys : List Sn),Can xs → Can ys → (∀ p,memB xs p = memB ys p) → xs = ys
 | [],[],_,_,_ => rfl
 | [],t :: ys,_,hy,hp => by
  have:=mem_start hy
  rw [← hp,g4z] at this
  exact absurd this (by simp)
 | s :: xs,[],hx,_,hp => by
  have:=mem_start hx
  rw [hp,g4z] at this
  exact absurd this (by simp)
 | s :: xs,t :: ys,hx,hy,hp => by
  have e1 : s.1 = t.1:=by
   have h1:=start_le hy (p:=s.1) (by rw [← hp];exact mem_start hx)
   have h2:=start_le hx (p:=t.1) (by rw [hp];exact mem_start hy)
   omega
  have e2 : s.2 = t.2:=by
   have h1:=end_le hx hy e1 (fun p => (hp p).symm)
   have h2:=end_le hy hx e1.symm hp
   omega
  obtain rfl : s = t:=Prod.ext e1 e2
  rw [can_unique xs ys (can_tail hx) (can_tail hy) (fun p => by
   rw [Bool.eq_iff_iff,mem_tail hx,mem_tail hy,hp])]
/-- Merging a sorted list: xa is done, t is the last. -/
def mrgG : List Sn → Sn → List Sn → List Sn
 | xa,t,[] => xa ++ [t]
 | xa,t,s :: r => if s.1 ≤ t.2 + 1 then mrgG xa (t.1,if t.2 < s.2 then s.2 else t.2) r else mrgG (xa ++ [t]) s r
def mrg : List Sn → List Sn
 | [] => []
 | s :: r => mrgG [] s r
theorem can_snoc {xa : List Sn} {t : Sn} : Can (xa ++ [t]) ↔ Can xa ∧ Ok t ∧ ∀ u ∈ xa,u.2 + 1 < t.1:=by
 unfold Can
 rw [List.pairwise_append]
 constructor
 ·rintro ⟨h1,h2,_,h3⟩
  exact ⟨⟨fun s hs => h1 s (by simp [hs]),h2⟩,h1 t (by simp),fun u hu => h3 u hu t (by simp)⟩
 ·rintro ⟨⟨h1,h2⟩,h3,h4⟩
  refine ⟨fun s hs => ?_,h2,List.pairwise_singleton _ _,fun u hu v hv => ?_⟩
  ·rcases List.mem_append.1 hs with hs|hs
   ·exact h1 s hs
   ·rw [List.mem_singleton.1 hs];exact h3
  ·rw [List.mem_singleton.1 hv];exact h4 u hu
theorem mrgG_spec : ∀ (r : List Sn) (xa : List Sn) (t : Sn),Can (xa ++ [t]) → (∀ s ∈ r,Ok s ∧ t.1 ≤ s.1) → r.Pairwise (fun s u => s.1 ≤ u.1) →
  Can (mrgG xa t r) ∧ ∀ p,memB (mrgG xa t r) p = (memB (xa ++ [t]) p || memB r p)
 | [],xa,t,h,_,_ => by
  refine ⟨h,fun p => ?_⟩
  show memB (xa ++ [t]) p = _
  rw [g4z,Bool.or_false]
 | s :: r,xa,t,h,hr,hs => by
  obtain ⟨h1,h2,h3⟩:=can_snoc.1 h
  obtain ⟨hs1,hs2⟩:=List.pairwise_cons.1 hs
  obtain ⟨ok,hle⟩:=hr s List.mem_cons_self
  obtain ⟨t0,t1,t2⟩:=h2
  obtain ⟨s0,s1,s2⟩:=ok
  unfold mrgG
  by_cases hc : s.1 ≤ t.2 + 1
  ·rw [if_pos hc]
   have hmx : t.2 ≤ (if t.2 < s.2 then s.2 else t.2) ∧ s.2 ≤ (if t.2 < s.2 then s.2 else t.2) ∧ ((if t.2 < s.2 then s.2 else t.2) = t.2 ∨ (if t.2 < s.2 then s.2 else t.2) = s.2):=by split <;> omega
   generalize (if t.2 < s.2 then s.2 else t.2) = m at hmx ⊢
   have hcan : Can (xa ++ [(t.1,m)]):=can_snoc.2 ⟨h1,⟨t0,by show t.1 ≤ m;omega,by show m ≤ _;omega⟩,h3⟩
   obtain ⟨c1,c2⟩:=mrgG_spec r xa (t.1,m) hcan (fun u hu => ⟨(hr u (List.mem_cons_of_mem _ hu)).1,(hr u (List.mem_cons_of_mem _ hu)).2⟩) hs2
   refine ⟨c1,fun p => ?_⟩
   rw [c2,h5z,h5z,f5z s r,Bool.or_assoc,Bool.or_assoc,← Bool.or_assoc (memB [t] p)]
   congr 2
   rw [Bool.eq_iff_iff,Bool.or_eq_true,f5z,f5z,g4z,Bool.or_false,Bool.or_false,g3z,g3z,g3z]
   show t.1 ≤ p ∧ p ≤ m ↔ _
   omega
  ·rw [if_neg hc]
   have hcan : Can (xa ++ [t] ++ [s]):=can_snoc.2 ⟨h,⟨s0,s1,s2⟩,fun u hu => by
    rcases List.mem_append.1 hu with hu|hu
    ·have:=h3 u hu
     omega
    ·rw [List.mem_singleton.1 hu];omega⟩
   obtain ⟨c1,c2⟩:=mrgG_spec r (xa ++ [t]) s hcan (fun u hu => ⟨(hr u (List.mem_cons_of_mem _ hu)).1,hs1 u hu⟩) hs2
   refine ⟨c1,fun p => ?_⟩
   rw [c2,h5z _ [s],f5z s r,f5z s [],g4z,Bool.or_false,Bool.or_assoc]
theorem mrg_spec {xs : List Sn} (hok : ∀ s ∈ xs,Ok s) (hs : xs.Pairwise fun s t => s.1 ≤ t.1) : Can (mrg xs) ∧ ∀ p,memB (mrg xs) p = memB xs p:=by
 cases xs with
 | nil => exact ⟨can_nil,fun _ => rfl⟩
 | cons s r =>
  obtain ⟨hs1,hs2⟩:=List.pairwise_cons.1 hs
  obtain ⟨c1,c2⟩:=mrgG_spec r [] s (can_snoc.2 ⟨can_nil,hok s List.mem_cons_self,fun _ h => absurd h (by simp)⟩) (fun u hu => ⟨hok u (List.mem_cons_of_mem _ hu),hs1 u hu⟩) hs2
  refine ⟨c1,fun p => ?_⟩
  show memB (mrgG [] s r) p = _
  rw [c2,List.nil_append,f5z s r,f5z s [],g4z,Bool.or_false]
theorem mrgG_length : ∀ (r xa : List Sn) (t : Sn),(mrgG xa t r).length ≤ xa.length + 1 + r.length
 | [],xa,t => by simp [mrgG]
 | s :: r,xa,t => by
  unfold mrgG
  split
  ·have:=mrgG_length r xa (t.1,if t.2 < s.2 then s.2 else t.2)
   rw [List.length_cons];omega
  ·have:=mrgG_length r (xa ++ [t]) s
   rw [List.length_append,List.length_singleton] at this
   rw [List.length_cons];omega
theorem mrg_length (xs : List Sn) : (mrg xs).length ≤ xs.length:=by
 cases xs with
 | nil => exact Nat.le_refl _
 | cons s r =>
  have:=mrgG_length r [] s
  show (mrgG [] s r).length ≤ _
  rw [List.length_cons,List.length_nil] at *
  omega
/-- Only the points' lists count. -/
theorem memB_congr {xs ys : List Sn} (h : ∀ s,s ∈ xs ↔ s ∈ ys) (p : Int) : memB xs p = memB ys p:=by
 rw [Bool.eq_iff_iff,memB_iff,memB_iff]
 exact ⟨fun ⟨s,hs,e⟩ => ⟨s,(h s).1 hs,e⟩,fun ⟨s,hs,e⟩ => ⟨s,(h s).2 hs,e⟩⟩
/-- The larger, the smaller of two numbers. -/
def hi2 (x y : Int) : Int:=if x < y then y else x
def lo2 (x y : Int) : Int:=if y < x then y else x
theorem hi2_le {x y p : Int} : hi2 x y ≤ p ↔ x ≤ p ∧ y ≤ p:=by unfold hi2;split <;> omega
theorem le_lo2 {x y p : Int} : p ≤ lo2 x y ↔ p ≤ x ∧ p ≤ y:=by unfold lo2;split <;> omega
theorem hi2_or (x y : Int) : hi2 x y = x ∨ hi2 x y = y:=by unfold hi2;split <;> simp
theorem lo2_or (x y : Int) : lo2 x y = x ∨ lo2 x y = y:=by unfold lo2;split <;> simp
/-- The meet of two spans. -/
def meet (a b : Sn) : List Sn:=if hi2 a.1 b.1 ≤ lo2 a.2 b.2 then [(hi2 a.1 b.1,lo2 a.2 b.2)] else []
def meets (a : Sn) (bs : List Sn) : List Sn:=bs.flatMap (meet a)
def both (xa bs : List Sn) : List Sn:=xa.flatMap fun a => meets a bs
theorem meet_mem {a b s : Sn} (h : s ∈ meet a b) : a.1 ≤ s.1 ∧ b.1 ≤ s.1 ∧ (s.1 = a.1 ∨ s.1 = b.1) ∧ s.2 ≤ a.2 ∧ s.2 ≤ b.2 ∧ (s.2 = a.2 ∨ s.2 = b.2) ∧ s.1 ≤ s.2:=by
 unfold meet at h
 split at h
 ·rename_i hc
  rw [List.mem_singleton.1 h]
  have h1:=hi2_le.1 (Int.le_refl (hi2 a.1 b.1))
  have h2:=le_lo2.1 (Int.le_refl (lo2 a.2 b.2))
  exact ⟨h1.1,h1.2,hi2_or _ _,h2.1,h2.2,lo2_or _ _,hc⟩
 ·exact absurd h (by simp)
theorem meet_pts (a b : Sn) (p : Int) : memB (meet a b) p = (inB a p && inB b p):=by
 rw [Bool.eq_iff_iff,Bool.and_eq_true,g3z,g3z]
 unfold meet
 split
 ·rw [f5z,g4z,Bool.or_false,g3z]
  show hi2 a.1 b.1 ≤ p ∧ p ≤ lo2 a.2 b.2 ↔ _
  rw [hi2_le,le_lo2]
  omega
 ·rename_i hc
  rw [g4z]
  refine ⟨fun h => absurd h (by simp),fun ⟨⟨h1,h2⟩,h3,h4⟩ => absurd (Int.le_trans (hi2_le.2 ⟨h1,h3⟩) (le_lo2.2 ⟨h2,h4⟩)) hc⟩
theorem memB_flatMap {α : Type} (l : List α) (f : α → List Sn) (p : Int) : memB (l.flatMap f) p = l.any fun x => memB (f x) p:=by
 induction l with
 | nil => rfl
 | cons x l ih => rw [List.flatMap_cons,h5z,ih,List.any_cons]
theorem both_pts (xa bs : List Sn) (p : Int) : memB (both xa bs) p = (memB xa p && memB bs p):=by
 unfold both
 rw [memB_flatMap,Bool.eq_iff_iff,List.any_eq_true,Bool.and_eq_true,memB_iff,memB_iff]
 unfold meets
 constructor
 ·rintro ⟨a,ha,h⟩
  rw [memB_flatMap,List.any_eq_true] at h
  obtain ⟨b,hb,h⟩:=h
  rw [meet_pts,Bool.and_eq_true,g3z,g3z] at h
  exact ⟨⟨a,ha,h.1⟩,b,hb,h.2⟩
 ·rintro ⟨⟨a,ha,h1⟩,b,hb,h2⟩
  refine ⟨a,ha,?_⟩
  rw [memB_flatMap,List.any_eq_true]
  exact ⟨b,hb,by rw [meet_pts,Bool.and_eq_true,g3z,g3z];exact ⟨h1,h2⟩⟩
theorem both_ok {xa bs : List Sn} (ha : ∀ s ∈ xa,Ok s) : ∀ s ∈ both xa bs,Ok s:=by
 intro s hs
 obtain ⟨a,h1,h2⟩:=List.mem_flatMap.1 hs
 obtain ⟨b,_,h3⟩:=List.mem_flatMap.1 h2
 have:=meet_mem h3
 obtain ⟨a0,a1,a2⟩:=ha a h1
 exact ⟨by omega,by omega,by omega⟩
theorem pairwise_flat {α : Type} {R : α → α → Prop} {β : Type} (f : β → List α) : ∀ (l : List β),(∀ x ∈ l,(f x).Pairwise R) → l.Pairwise (fun x y => ∀ a ∈ f x,∀ b ∈ f y,R a b) → (l.flatMap f).Pairwise R
 | [],_,_ => List.Pairwise.nil
 | x :: l,h1,h2 => by
  obtain ⟨h3,h4⟩:=List.pairwise_cons.1 h2
  rw [List.flatMap_cons,List.pairwise_append]
  refine ⟨h1 x List.mem_cons_self,pairwise_flat f l (fun y hy => h1 y (List.mem_cons_of_mem _ hy)) h4,fun a ha b hb => ?_⟩
  obtain ⟨y,hy,hb⟩:=List.mem_flatMap.1 hb
  exact h3 y hy a ha b hb
theorem i7z {xa bs : List Sn} (ha : Can xa) (hb : Can bs) : Can (both xa bs):=by
 refine ⟨both_ok ha.1,pairwise_flat _ xa (fun a _ => ?_) (ha.2.imp fun {a a'} h s hs t ht => ?_)⟩
 ·refine pairwise_flat _ bs (fun b _ => ?_) (hb.2.imp fun {b b'} h s hs t ht => ?_)
  ·unfold meet
   split
   ·exact List.pairwise_singleton _ _
   ·exact List.Pairwise.nil
  ·have:=meet_mem hs
   have:=meet_mem ht
   omega
 ·obtain ⟨b,_,hs⟩:=List.mem_flatMap.1 hs
  obtain ⟨b',_,ht⟩:=List.mem_flatMap.1 ht
  have:=meet_mem hs
  have:=meet_mem ht
  omega
theorem meet_length (a b : Sn) : (meet a b).length ≤ 1:=by unfold meet;split <;> simp
theorem meets_length (a : Sn) : ∀ bs : List Sn,(meets a bs).length ≤ bs.length
 | [] => Nat.le_refl _
 | b :: bs => by
  have:=meets_length a bs
  have:=meet_length a b
  show ((b :: bs).flatMap (meet a)).length ≤ _
  rw [List.flatMap_cons,List.length_append,List.length_cons]
  unfold meets at *
  omega
theorem both_length (bs : List Sn) : ∀ xa : List Sn,(both xa bs).length ≤ xa.length * bs.length
 | [] => Nat.zero_le _
 | a :: xa => by
  have h1:=both_length bs xa
  have h2:=meets_length a bs
  show ((a :: xa).flatMap fun a => meets a bs).length ≤ _
  rw [List.flatMap_cons,List.length_append,List.length_cons,Nat.succ_mul]
  unfold both at h1
  omega
/-- What is not in a list, from lo on. -/
def nt : Int → List Sn → List Sn
 | lo,[] => if lo ≤ 4294967295 then [(lo,4294967295)] else []
 | lo,s :: r => (if s.1 > lo then [(lo,s.1 - 1)] else []) ++ nt (s.2 + 1) r
theorem nt_spec : ∀ (xs : List Sn) (lo : Int),0 ≤ lo → Can xs → (∀ s ∈ xs,lo ≤ s.1) → Can (nt lo xs) ∧ (∀ s ∈ nt lo xs,lo ≤ s.1) ∧ ∀ p,memB (nt lo xs) p = (decide (lo ≤ p) && decide (p ≤ 4294967295) && !memB xs p)
 | [],lo,h0,_,_ => by
  unfold nt
  split
  ·rename_i hc
   refine ⟨⟨fun s hs => by rw [List.mem_singleton.1 hs];exact ⟨h0,hc,Int.le_refl _⟩,List.pairwise_singleton _ _⟩,fun s hs => by rw [List.mem_singleton.1 hs];exact Int.le_refl _,fun p => ?_⟩
   rw [f5z,g4z]
   simp [inB]
  ·rename_i hc
   refine ⟨can_nil,fun s hs => absurd hs (by simp),fun p => ?_⟩
   rw [g4z]
   symm
   simp
   omega
 | s :: r,lo,h0,hc,hl => by
  have hs:=hl s List.mem_cons_self
  obtain ⟨s0,s1,s2⟩:=hc.1 s List.mem_cons_self
  obtain ⟨c1,c2,c3⟩:=nt_spec r (s.2 + 1) (by omega) (can_tail hc) (fun t ht => by have:=can_head hc t ht;omega)
  have hm : ∀ p,lo ≤ p → p < s.1 → memB (s :: r) p = false:=fun p _ hp => by
   rcases hq : memB (s :: r) p with _|_
   ·rfl
   ·have:=start_le hc hq
    omega
  have hpt : ∀ p,memB (nt lo (s :: r)) p = (decide (lo ≤ p) && decide (p ≤ 4294967295) && !memB (s :: r) p):=fun p => by
   unfold nt
   rw [h5z,c3]
   by_cases h1 : lo ≤ p
   ·by_cases h2 : p < s.1
    ·rw [hm p h1 h2,if_pos (by omega),f5z,g4z,Bool.or_false,g3z.2 ⟨h1,by show p ≤ s.1 - 1;omega⟩]
     simp
     omega
    ·have e : memB (if s.1 > lo then [(lo,s.1 - 1)] else []) p = false:=by
      split
      ·rw [f5z,g4z,Bool.or_false]
       simp [inB];omega
      ·rfl
     rw [e,f5z]
     by_cases h3 : p ≤ s.2
     ·rw [g3z.2 ⟨by omega,h3⟩]
      simp;omega
     ·have : inB s p = false:=by simp [inB];omega
      rw [this,Bool.false_or,Bool.false_or]
      simp [h1,show s.2 + 1 ≤ p by omega]
   ·have e : memB (if s.1 > lo then [(lo,s.1 - 1)] else []) p = false:=by
     split
     ·rw [f5z,g4z,Bool.or_false]
      simp [inB];omega
     ·rfl
    rw [e]
    simp [h1,show ¬ s.2 + 1 ≤ p by omega]
  refine ⟨?_,?_,hpt⟩
  ·unfold nt
   split
   ·refine ⟨fun t ht => ?_,?_⟩
    ·rcases List.mem_append.1 ht with ht|ht
     ·rw [List.mem_singleton.1 ht];exact ⟨h0,by show lo ≤ s.1 - 1;omega,by show s.1 - 1 ≤ _;omega⟩
     ·exact c1.1 t ht
    ·rw [List.pairwise_append]
     refine ⟨List.pairwise_singleton _ _,c1.2,fun u hu t ht => ?_⟩
     rw [List.mem_singleton.1 hu]
     have:=c2 t ht
     show s.1 - 1 + 1 < t.1
     omega
   ·rw [List.nil_append];exact c1
  ·intro t ht
   unfold nt at ht
   rcases List.mem_append.1 ht with ht|ht
   ·split at ht
    ·rw [List.mem_singleton.1 ht];exact Int.le_refl _
    ·exact absurd ht (by simp)
   ·have:=c2 t ht
    omega
/-- What is left of a span without those of a list. -/
def cut : Sn → List Sn → List Sn
 | c,[] => if c.1 ≤ c.2 then [c] else []
 | c,b :: r => if b.2 < c.1 ∨ b.1 > c.2 then cut c r else (if c.1 < b.1 then [(c.1,b.1 - 1)] else []) ++ cut (b.2 + 1,c.2) r
theorem cut_spec : ∀ (bs : List Sn) (c : Sn),Can bs → 0 ≤ c.1 → c.2 ≤ 4294967295 → (∀ s ∈ cut c bs,Ok s) ∧ ∀ p,memB (cut c bs) p = (inB c p && !memB bs p)
 | [],c,_,h0,h1 => by
  unfold cut
  split
  ·rename_i hc
   refine ⟨fun s hs => by rw [List.mem_singleton.1 hs];exact ⟨h0,hc,h1⟩,fun p => ?_⟩
   rw [f5z,g4z]
   simp
  ·rename_i hc
   refine ⟨fun s hs => absurd hs (by simp),fun p => ?_⟩
   rw [g4z]
   symm
   simp [inB]
   omega
 | b :: r,c,hb,h0,h1 => by
  obtain ⟨b0,b1,b2⟩:=hb.1 b List.mem_cons_self
  unfold cut
  split
  ·rename_i hc
   obtain ⟨c1,c2⟩:=cut_spec r c (can_tail hb) h0 h1
   refine ⟨c1,fun p => ?_⟩
   rw [c2,f5z]
   rcases hi : inB c p with _|_
   ·rfl
   ·have:=g3z.1 hi
    have : inB b p = false:=by simp [inB];omega
    rw [this,Bool.false_or]
  ·rename_i hc
   obtain ⟨c1,c2⟩:=cut_spec r (b.2 + 1,c.2) (can_tail hb) (by show 0 ≤ b.2 + 1;omega) h1
   refine ⟨fun s hs => ?_,fun p => ?_⟩
   ·rcases List.mem_append.1 hs with hs|hs
    ·split at hs
     ·rw [List.mem_singleton.1 hs];exact ⟨h0,by show c.1 ≤ b.1 - 1;omega,by show b.1 - 1 ≤ _;omega⟩
     ·exact absurd hs (by simp)
    ·exact c1 s hs
   ·rw [h5z,c2]
    by_cases h2 : p < b.1
    ·have hn : memB (b :: r) p = false:=by
      rcases hq : memB (b :: r) p with _|_
      ·rfl
      ·have:=start_le hb hq
       omega
     have hx : inB (b.2 + 1,c.2) p = false:=by simp [inB];omega
     rw [hn,hx,Bool.false_and,Bool.or_false,Bool.not_false,Bool.and_true]
     split
     ·rw [f5z,g4z,Bool.or_false,Bool.eq_iff_iff,g3z,g3z]
      show c.1 ≤ p ∧ p ≤ b.1 - 1 ↔ _
      omega
     ·rw [g4z]
      symm
      simp [inB]
      omega
    ·have e : memB (if c.1 < b.1 then [(c.1,b.1 - 1)] else []) p = false:=by
      split
      ·rw [f5z,g4z,Bool.or_false]
       simp [inB];omega
      ·rfl
     rw [e,Bool.false_or,f5z]
     by_cases h3 : p ≤ b.2
     ·rw [g3z.2 ⟨by omega,h3⟩,show inB (b.2 + 1,c.2) p = false by simp [inB];omega]
      simp
     ·rw [show inB b p = false by simp [inB];omega,Bool.false_or]
      congr 1
      rw [Bool.eq_iff_iff,g3z,g3z]
      show b.2 + 1 ≤ p ∧ p ≤ c.2 ↔ _
      omega
theorem cut_length : ∀ (bs : List Sn) (c : Sn),(cut c bs).length ≤ bs.length + 1
 | [],c => by unfold cut;split <;> simp
 | b :: r,c => by
  have h1:=cut_length r c
  have h2:=cut_length r (b.2 + 1,c.2)
  unfold cut
  rw [List.length_cons]
  split
  ·omega
  ·rw [List.length_append]
   split <;> simp <;> omega
def cuts (xa bs : List Sn) : List Sn:=xa.flatMap fun a => cut a bs
theorem cuts_spec {xa bs : List Sn} (ha : ∀ s ∈ xa,Ok s) (hb : Can bs) : (∀ s ∈ cuts xa bs,Ok s) ∧ ∀ p,memB (cuts xa bs) p = (memB xa p && !memB bs p):=by
 constructor
 ·intro s hs
  obtain ⟨a,h1,h2⟩:=List.mem_flatMap.1 hs
  obtain ⟨a0,a1,a2⟩:=ha a h1
  exact (cut_spec bs a hb a0 a2).1 s h2
 ·intro p
  unfold cuts
  rw [memB_flatMap]
  induction xa with
  | nil => rfl
  | cons a xa ih =>
   obtain ⟨a0,a1,a2⟩:=ha a List.mem_cons_self
   rw [List.any_cons,(cut_spec bs a hb a0 a2).2,ih (fun s hs => ha s (List.mem_cons_of_mem _ hs)),f5z]
   cases inB a p <;> cases memB xa p <;> cases memB bs p <;> rfl
/-- How many points there are. -/
def wid (xs : List Sn) : Int:=(xs.map fun s => s.2 + 1 - s.1).sum
theorem wid_nil : wid [] = 0:=rfl
theorem wid_cons (s : Sn) (xs : List Sn) : wid (s :: xs) = (s.2 + 1 - s.1) + wid xs:=by simp [wid]
def cnt (f : Int → Bool) (n : Nat) : Nat:=(List.range n).countP fun i : Nat => f (i : Int)
theorem cnt_succ (f : Int → Bool) (n : Nat) : cnt f (n + 1) = cnt f n + (if f (n : Int) then 1 else 0):=by
 unfold cnt
 rw [List.range_succ,List.countP_append,List.countP_singleton]
theorem cnt_or (f g : Int → Bool) : ∀ n,cnt (fun p => f p || g p) n + cnt (fun p => f p && g p) n = cnt f n + cnt g n
 | 0 => rfl
 | n + 1 => by
  have:=cnt_or f g n
  rw [cnt_succ,cnt_succ,cnt_succ,cnt_succ]
  cases f (n : Int) <;> cases g (n : Int) <;> simp <;> omega
theorem cnt_congr {f g : Int → Bool} (h : ∀ p,f p = g p) (n : Nat) : cnt f n = cnt g n:=by
 rw [show f = g from funext h]
theorem cnt_false {f : Int → Bool} (h : ∀ p,f p = false) : ∀ n,cnt f n = 0
 | 0 => rfl
 | n + 1 => by rw [cnt_succ,cnt_false h n,h];rfl
theorem cnt_in {s : Sn} (h0 : 0 ≤ s.1) (h1 : s.1 ≤ s.2) : ∀ n : Nat,((cnt (inB s) n : Nat) : Int) = if (n : Int) ≤ s.1 then 0 else if (n : Int) ≤ s.2 then n - s.1 else s.2 + 1 - s.1
 | 0 => by rw [if_pos (by omega)];rfl
 | n + 1 => by
  have ih:=cnt_in h0 h1 n
  rw [cnt_succ]
  have e : inB s (n : Int) = decide (s.1 ≤ (n : Int) ∧ (n : Int) ≤ s.2):=by simp [inB]
  rw [e]
  push_cast
  rw [ih]
  by_cases a : s.1 ≤ (n : Int) ∧ (n : Int) ≤ s.2
  ·rw [if_pos (decide_eq_true a)]
   by_cases c1 : (n : Int) ≤ s.1 <;> by_cases c2 : (n : Int) ≤ s.2 <;> by_cases c3 : (n : Int) + 1 ≤ s.1 <;> by_cases c4 : (n : Int) + 1 ≤ s.2 <;> simp only [c1,c2,c3,c4,if_true,if_false] <;> omega
  ·rw [if_neg (fun h => a (of_decide_eq_true h))]
   by_cases c1 : (n : Int) ≤ s.1 <;> by_cases c2 : (n : Int) ≤ s.2 <;> by_cases c3 : (n : Int) + 1 ≤ s.1 <;> by_cases c4 : (n : Int) + 1 ≤ s.2 <;> simp only [c1,c2,c3,c4,if_true,if_false] <;> omega
/-- How many addresses there are. -/
def NP : Nat:=4294967296
theorem NP_eq : (NP : Int) = 4294967296:=rfl
theorem wid_cnt : ∀ {xs : List Sn},Can xs → wid xs = (cnt (memB xs) NP : Nat)
 | [],_ => by rw [cnt_false (fun p => g4z p)];rfl
 | s :: xs,h => by
  obtain ⟨s0,s1,s2⟩:=h.1 s List.mem_cons_self
  have ih:=wid_cnt (can_tail h)
  have h1:=cnt_or (inB s) (memB xs) NP
  have h2 : cnt (fun p => inB s p && memB xs p) NP = 0:=cnt_false (fun p => by
   rcases hi : inB s p with _|_
   ·rfl
   ·rcases hm : memB xs p with _|_
    ·rfl
    ·have:=((mem_tail h p).1 hm).2
     have:=(g3z.1 hi).2
     omega) _
  have h3:=cnt_in s0 s1 NP
  rw [if_neg (by rw [NP_eq];omega),if_neg (by rw [NP_eq];omega)] at h3
  have h4 : cnt (memB (s :: xs)) NP = cnt (fun p => inB s p || memB xs p) NP:=cnt_congr (fun p => f5z s xs p) _
  rw [wid_cons,ih,h4]
  have:=NP_eq
  omega
/-- Inclusion and exclusion. -/
theorem wid_union {xa bs cs ds : List Sn} (ha : Can xa) (hb : Can bs) (hc : Can cs) (hd : Can ds) (h1 : ∀ p,memB cs p = (memB xa p || memB bs p)) (h2 : ∀ p,memB ds p = (memB xa p && memB bs p)) : wid cs + wid ds = wid xa + wid bs:=by
 have:=cnt_or (memB xa) (memB bs) NP
 rw [wid_cnt ha,wid_cnt hb,wid_cnt hc,wid_cnt hd,cnt_congr h1,cnt_congr h2]
 omega
theorem wid_le {xs : List Sn} (h : Can xs) : 0 ≤ wid xs ∧ wid xs ≤ 4294967296:=by
 rw [wid_cnt h]
 have : cnt (memB xs) NP ≤ (List.range NP).length:=List.countP_le_length
 rw [List.length_range] at this
 have:=NP_eq
 omega
end Go.Proofs.Ytmdhedkgpgoneaa.Si

namespace Go.Proofs.Ytmdhedkgpgoneaa.Se
set_option linter.unusedVariables false
open Go.RowKit Go.Proofs.Ytmdhedkgpgoneaa.Q Go.Proofs.Ytmdhedkgpgoneaa.Pure Go.Proofs.Ytmdhedkgpgoneaa.Si Go.Proofs.YtmdhedkgpgoneaaW.PrintWords
/-- A block. -/
abbrev Bl:=S44
theorem bl_ext {a b : Bl} (h0 : a.f0 = b.f0) (h1 : a.f1 = b.f1) : a = b:=by
 obtain ⟨a0,a1⟩:=a
 obtain ⟨b0,b1⟩:=b
 obtain rfl : a0 = b0:=h0
 obtain rfl : a1 = b1:=h1
 rfl
instance decBl : DecidableEq Bl:=fun a b => decidable_of_iff (a.f0 = b.f0 ∧ a.f1 = b.f1) ⟨fun h => bl_ext h.1 h.2,fun h => h ▸ ⟨rfl,rfl⟩⟩
/-- The span of a block. -/
def spn (b : Bl) : Sn:=(b.f0,b.f0 + sz b.f1 - 1)
theorem sz_dvd {b : Int} (h0 : 0 ≤ b) (h1 : b ≤ 32) : ∃ q : Int,4294967296 = sz b * q:=by
 obtain ⟨n,rfl⟩ : ∃ n : Nat,b = n:=⟨b.toNat,by omega⟩
 refine ⟨2 ^ n,?_⟩
 unfold sz
 rw [← Int.pow_add,show (32 - (n : Int)).toNat + n = 32 by omega]
 rfl
theorem spn_ok {b : Bl} (h : bok b.f0 b.f1 = true) : Ok (spn b):=by
 obtain ⟨h0,h1,h2,h3,h4⟩:=bok_iff.1 h
 have hp:=h4z b.f1
 obtain ⟨q,hq⟩:=sz_dvd h2 h3
 obtain ⟨r,hr⟩:=Int.dvd_of_emod_eq_zero h4
 refine ⟨h0,by show b.f0 ≤ b.f0 + sz b.f1 - 1;omega,?_⟩
 show b.f0 + sz b.f1 - 1 ≤ 4294967295
 have hlt : sz b.f1 * r < sz b.f1 * q:=by omega
 have h5 : r < q:=Int.lt_of_mul_lt_mul_left hlt (by omega)
 have h6 : sz b.f1 * (r + 1) ≤ sz b.f1 * q:=Int.mul_le_mul_of_nonneg_left (by omega) (by omega)
 rw [Int.mul_add,Int.mul_one] at h6
 omega
/-- All blocks are valid. -/
def okB (l : List Bl) : Bool:=l.all fun b => bok b.f0 b.f1
theorem i2z {l : List Bl} : okB l = true ↔ ∀ b ∈ l,bok b.f0 b.f1 = true:=by simp [okB]
theorem okB_append (a b : List Bl) : okB (a ++ b) = (okB a && okB b):=by simp [okB]
theorem i5z {l : List Bl} (h : okB l = true) : ∀ s ∈ l.map spn,Ok s:=by
 intro s hs
 obtain ⟨b,hb,rfl⟩:=List.mem_map.1 hs
 exact spn_ok (i2z.1 h b hb)
/-- The total size of blocks. -/
def sumB (l : List Bl) : Int:=(l.map fun b => sz b.f1).sum
theorem sumB_nil : sumB [] = 0:=rfl
theorem sumB_cons (b : Bl) (l : List Bl) : sumB (b :: l) = sz b.f1 + sumB l:=by simp [sumB]
theorem sumB_append (a b : List Bl) : sumB (a ++ b) = sumB a + sumB b:=by simp [sumB]
theorem i4z : ∀ l : List Bl,(l.length : Int) ≤ sumB l
 | [] => by rw [sumB_nil];simp
 | b :: l => by
  have:=i4z l
  have:=h4z b.f1
  rw [sumB_cons,List.length_cons]
  omega
theorem cov_ok : ∀ (n : Nat) (a b : Int),0 ≤ a → b ≤ 4294967295 → ∀ x ∈ cov n a b,bok x.f0 x.f1 = true
 | 0,_,_,_,_ => fun x hx => absurd hx (by simp [cov])
 | n + 1,a,b,h0,h1 => fun x hx => by
  unfold cov at hx
  split at hx
  ·rename_i hab
   obtain ⟨p0,p1,pf,_⟩:=mb_spec hab
   have hp:=h4z (mb a b)
   rcases List.mem_cons.1 hx with rfl|hx
   ·exact bok_iff.2 ⟨h0,show a ≤ 4294967295 by omega,p0,p1,(h6z.1 pf).1⟩
   ·exact cov_ok n (a + sz (mb a b)) b (by omega) h1 x hx
  ·exact absurd hx (by simp)
theorem cov_pts (p : Int) : ∀ (n : Nat) (a b : Int),(b + 1 - a).toNat ≤ n → memB ((cov n a b).map spn) p = inB (a,b) p
 | 0,a,b,hn => by
  have : inB (a,b) p = false:=by simp [inB];omega
  rw [this];rfl
 | n + 1,a,b,hn => by
  unfold cov
  split
  ·rename_i hab
   obtain ⟨p0,p1,pf,_⟩:=mb_spec hab
   have hp:=h4z (mb a b)
   have hf:=(h6z.1 pf).2
   rw [List.map_cons,f5z,cov_pts p n (a + sz (mb a b)) b (by omega),Bool.eq_iff_iff,Bool.or_eq_true,g3z,g3z,g3z]
   show a ≤ p ∧ p ≤ a + sz (mb a b) - 1 ∨ a + sz (mb a b) ≤ p ∧ p ≤ b ↔ a ≤ p ∧ p ≤ b
   omega
  ·have : inB (a,b) p = false:=by simp [inB];omega
   rw [this];rfl
theorem cov_sum : ∀ (n : Nat) (a b : Int),(b + 1 - a).toNat ≤ n → a ≤ b + 1 → sumB (cov n a b) = b + 1 - a
 | 0,a,b,hn,h => by
  show (0 : Int) = _
  omega
 | n + 1,a,b,hn,h => by
  unfold cov
  split
  ·rename_i hab
   obtain ⟨p0,p1,pf,_⟩:=mb_spec hab
   have hp:=h4z (mb a b)
   have hf:=(h6z.1 pf).2
   rw [sumB_cons,cov_sum n (a + sz (mb a b)) b (by omega) (by omega)]
   show sz (mb a b) + _ = _
   omega
  ·show (0 : Int) = _
   omega
/-- The blocks of some spans. -/
def coS (C : List Sn) : List Bl:=C.flatMap fun s => cov NN s.1 s.2
theorem coS_nil : coS [] = []:=rfl
theorem coS_cons (s : Sn) (C : List Sn) : coS (s :: C) = cov NN s.1 s.2 ++ coS C:=by simp [coS]
theorem coS_ok {C : List Sn} (h : ∀ s ∈ C,Ok s) : okB (coS C) = true:=by
 refine i2z.2 fun b hb => ?_
 obtain ⟨s,hs,hb⟩:=List.mem_flatMap.1 hb
 exact cov_ok NN s.1 s.2 (h s hs).1 (h s hs).2.2 b hb
theorem coS_pts (p : Int) : ∀ {C : List Sn},(∀ s ∈ C,Ok s) → memB ((coS C).map spn) p = memB C p
 | [],_ => rfl
 | s :: C,h => by
  have hN:=NN_eq
  obtain ⟨s0,s1,s2⟩:=h s List.mem_cons_self
  rw [coS_cons,List.map_append,h5z,cov_pts p NN s.1 s.2 (by omega),coS_pts p (fun t ht => h t (List.mem_cons_of_mem _ ht)),f5z]
theorem coS_sum : ∀ {C : List Sn},(∀ s ∈ C,Ok s) → sumB (coS C) = wid C
 | [],_ => rfl
 | s :: C,h => by
  have hN:=NN_eq
  obtain ⟨s0,s1,s2⟩:=h s List.mem_cons_self
  rw [coS_cons,sumB_append,cov_sum NN s.1 s.2 (by omega) (by omega),coS_sum (fun t ht => h t (List.mem_cons_of_mem _ ht)),wid_cons]
theorem coS_length {C : List Sn} (h : Si.Can C) : (coS C).length ≤ 4294967296:=by
 have h1:=i4z (coS C)
 rw [coS_sum h.1] at h1
 have:=wid_le h
 omega
/-- A span into a sorted list. -/
def insP (x : Sn) : List Sn → List Sn
 | [] => [x]
 | s :: r => if s.1 < x.1 then s :: insP x r else x :: s :: r
def srt : List Sn → List Sn → List Sn
 | acc,[] => acc
 | acc,x :: r => srt (insP x acc) r
theorem mem_insP (x s : Sn) : ∀ l : List Sn,s ∈ insP x l ↔ s = x ∨ s ∈ l
 | [] => by simp [insP]
 | t :: r => by
  unfold insP
  split
  ·rw [List.mem_cons,mem_insP x s r,List.mem_cons]
   constructor
   ·rintro (h|h|h)
    ·exact .inr (.inl h)
    ·exact .inl h
    ·exact .inr (.inr h)
   ·rintro (h|h|h)
    ·exact .inr (.inl h)
    ·exact .inl h
    ·exact .inr (.inr h)
  ·rw [List.mem_cons]
theorem insP_length (x : Sn) : ∀ l : List Sn,(insP x l).length = l.length + 1
 | [] => rfl
 | t :: r => by
  unfold insP
  split
  ·rw [List.length_cons,insP_length x r,List.length_cons]
  ·rfl
theorem insP_sorted (x : Sn) : ∀ l : List Sn,(l.Pairwise fun s t => s.1 ≤ t.1) → (insP x l).Pairwise fun s t => s.1 ≤ t.1
 | [],_ => List.pairwise_singleton _ _
 | t :: r,h => by
  obtain ⟨h1,h2⟩:=List.pairwise_cons.1 h
  unfold insP
  split
  ·rename_i hc
   refine List.pairwise_cons.2 ⟨fun u hu => ?_,insP_sorted x r h2⟩
   rcases (mem_insP x u r).1 hu with rfl|hu
   ·omega
   ·exact h1 u hu
  ·rename_i hc
   refine List.pairwise_cons.2 ⟨fun u hu => ?_,h⟩
   rcases List.mem_cons.1 hu with rfl|hu
   ·omega
   ·have:=h1 u hu
    omega
theorem mem_srt (s : Sn) : ∀ (l acc : List Sn),s ∈ srt acc l ↔ s ∈ acc ∨ s ∈ l
 | [],acc => by simp [srt]
 | x :: r,acc => by
  unfold srt
  rw [mem_srt s r,mem_insP,List.mem_cons]
  constructor
  ·rintro ((h|h)|h)
   ·exact .inr (.inl h)
   ·exact .inl h
   ·exact .inr (.inr h)
  ·rintro (h|h|h)
   ·exact .inl (.inr h)
   ·exact .inl (.inl h)
   ·exact .inr h
theorem srt_length : ∀ (l acc : List Sn),(srt acc l).length = acc.length + l.length
 | [],acc => rfl
 | x :: r,acc => by
  unfold srt
  rw [srt_length r,insP_length,List.length_cons]
  omega
theorem srt_sorted : ∀ (l acc : List Sn),(acc.Pairwise fun s t => s.1 ≤ t.1) → (srt acc l).Pairwise fun s t => s.1 ≤ t.1
 | [],acc,h => h
 | x :: r,acc,h => srt_sorted r _ (insP_sorted x acc h)
/-- The canonical list of some spans. -/
def cn (xs : List Sn) : List Sn:=mrg (srt [] xs)
theorem cn_spec {xs : List Sn} (h : ∀ s ∈ xs,Ok s) : Si.Can (cn xs) ∧ ∀ p,memB (cn xs) p = memB xs p:=by
 have hm : ∀ s,s ∈ srt [] xs ↔ s ∈ xs:=fun s => by rw [mem_srt];simp
 obtain ⟨h1,h2⟩:=mrg_spec (xs:=srt [] xs) (fun s hs => h s ((hm s).1 hs)) (srt_sorted xs [] List.Pairwise.nil)
 exact ⟨h1,fun p => by rw [← memB_congr hm p];exact h2 p⟩
theorem cn_length (xs : List Sn) : (cn xs).length ≤ xs.length:=by
 have h1:=mrg_length (srt [] xs)
 rw [srt_length,List.length_nil,Nat.zero_add] at h1
 exact h1
theorem cn_of {xs C : List Sn} (h : ∀ s ∈ xs,Ok s) (hC : Si.Can C) (hp : ∀ p,memB C p = memB xs p) : cn xs = C:=by
 obtain ⟨h1,h2⟩:=cn_spec h
 exact can_unique _ _ h1 hC fun p => by rw [h2,hp]
/-- The canonical spans of blocks. -/
def ca (l : List Bl) : List Sn:=cn (l.map spn)
theorem ca_can {l : List Bl} (h : okB l = true) : Si.Can (ca l):=(cn_spec (i5z h)).1
theorem ca_length (l : List Bl) : (ca l).length ≤ l.length:=by
 have:=cn_length (l.map spn)
 rwa [List.length_map] at this
theorem ca_coS {C : List Sn} (h : Si.Can C) : ca (coS C) = C:=cn_of (i5z (coS_ok h.1)) h fun p => (coS_pts p h.1).symm
/-- Blocks are a set. -/
def isSet (l : List Bl) : Bool:=okB l && (decide (l.length ≤ 64) && decide (coS (ca l) = l))
theorem h8z {l : List Bl} : isSet l = true ↔ okB l = true ∧ l.length ≤ 64 ∧ coS (ca l) = l:=by simp [isSet]
theorem isSet_coS {C : List Sn} (h : Si.Can C) : isSet (coS C) = decide ((coS C).length ≤ 64):=by
 unfold isSet
 rw [coS_ok h.1,ca_coS h]
 simp
theorem sum_set {l : List Bl} (h : isSet l = true) : sumB l = wid (ca l):=by
 obtain ⟨h1,_,h3⟩:=h8z.1 h
 rw [← coS_sum (ca_can h1).1,h3]
/-- Blocks, if they are not too many. -/
def room (l : List Bl) : List Bl × Bool:=if l.length ≤ 64 then (l,true) else ([],false)
/-- What is asked of two sets. -/
def dual (f : List Sn → List Sn → List Sn) (a b : List Bl) : List Bl × Bool:=if isSet a = true ∧ isSet b = true then room (coS (f (ca a) (ca b))) else ([],false)
/-- The set of blocks. -/
def ofB (l : List Bl) : List Bl × Bool:=if okB l = true ∧ l.length ≤ 64 then room (coS (ca l)) else ([],false)
/-- The size of a set. -/
def szB (l : List Bl) : Int:=if isSet l = true then sumB l else 0
def less (xa bs : List Sn) : List Sn:=both xa (nt 0 bs)
theorem nt_can {xs : List Sn} (h : Si.Can xs) : Si.Can (nt 0 xs):=(nt_spec xs 0 (Int.le_refl _) h fun s hs => (h.1 s hs).1).1
theorem can_range {xs : List Sn} (h : ∀ s ∈ xs,Ok s) {p : Int} (hp : memB xs p = true) : 0 ≤ p ∧ p ≤ 4294967295:=by
 obtain ⟨s,hs,h1,h2⟩:=memB_iff.1 hp
 obtain ⟨s0,s1,s2⟩:=h s hs
 exact ⟨by omega,by omega⟩
theorem less_can {xa bs : List Sn} (ha : Si.Can xa) (hb : Si.Can bs) : Si.Can (less xa bs):=i7z ha (nt_can hb)
theorem less_pts {xa bs : List Sn} (ha : Si.Can xa) (hb : Si.Can bs) (p : Int) : memB (less xa bs) p = (memB xa p && !memB bs p):=by
 unfold less
 rw [both_pts,(nt_spec bs 0 (Int.le_refl _) hb fun s hs => (hb.1 s hs).1).2.2 p]
 rcases hm : memB xa p with _|_
 ·rfl
 ·obtain ⟨h0,h1⟩:=can_range ha.1 hm
  simp [h0,h1]
theorem cn_cuts {xa bs : List Sn} (ha : Si.Can xa) (hb : Si.Can bs) : cn (cuts xa bs) = less xa bs:=by
 obtain ⟨h1,h2⟩:=cuts_spec ha.1 hb
 exact cn_of h1 (less_can ha hb) fun p => by rw [less_pts ha hb,h2]
/-- Pairs of spans, not canonical ones: what they have in common. -/
theorem cn_both {xs ys : List Sn} (hx : ∀ s ∈ xs,Ok s) (hy : ∀ s ∈ ys,Ok s) : cn (both xs ys) = both (cn xs) (cn ys):=by
 obtain ⟨h1,h2⟩:=cn_spec hx
 obtain ⟨h3,h4⟩:=cn_spec hy
 exact cn_of (both_ok hx) (i7z h1 h3) fun p => by rw [both_pts,both_pts,h2,h4]
theorem both_comm {xa bs : List Sn} (ha : Si.Can xa) (hb : Si.Can bs) : both xa bs = both bs xa :=
 can_unique _ _ (i7z ha hb) (i7z hb ha) fun p => by rw [both_pts,both_pts,Bool.and_comm]
theorem wid_split {xa bs : List Sn} (ha : Si.Can xa) (hb : Si.Can bs) : wid (both xa bs) + wid (less xa bs) = wid xa:=by
 have h:=wid_union (xa:=both xa bs) (bs:=less xa bs) (cs:=xa) (ds:=[]) (i7z ha hb) (less_can ha hb) ha can_nil (fun p => by rw [both_pts,less_pts ha hb];cases memB xa p <;> cases memB bs p <;> rfl) (fun p => by rw [both_pts,less_pts ha hb,g4z];cases memB xa p <;> cases memB bs p <;> rfl)
 rw [wid_nil] at h
 omega
theorem ca_append {xa bs : List Sn} (ha : Si.Can xa) (hb : Si.Can bs) : ca (coS (both xa bs) ++ coS (less xa bs)) = xa:=by
 have h1:=coS_ok (i7z ha hb).1
 have h2:=coS_ok (less_can ha hb).1
 refine cn_of (i5z (by rw [okB_append,h1,h2];rfl)) ha fun p => ?_
 rw [List.map_append,h5z,coS_pts p (i7z ha hb).1,coS_pts p (less_can ha hb).1,both_pts,less_pts ha hb]
 cases memB xa p <;> cases memB bs p <;> rfl
end Go.Proofs.Ytmdhedkgpgoneaa.Se

namespace Go.Proofs.Ytmdhedkgpgoneaa.Se
set_option linter.unusedSimpArgs false
set_option linter.unusedVariables false
open Go.RowKit Go.Proofs.Ytmdhedkgpgoneaa.Q Go.Proofs.Ytmdhedkgpgoneaa.Pure Go.Proofs.Ytmdhedkgpgoneaa.Si Go.Proofs.YtmdhedkgpgoneaaW.PrintWords Go.Proofs.YtmdhedkgpgoneaaW.PrintLast Go.Proofs.YtmdhedkgpgoneaaW.PrintMore
theorem wnat {n : Nat} (h : n ≤ 1000000000000) : wrap64 ((n : Int) + 1) = ((n + 1 : Nat) : Int):=by
 rw [w64 (by omega) (by omega)];omega
theorem g2z {α : Type} (p : List α) (x : α) (r : List α) : (p ++ x :: r).length = p.length + 1 + r.length:=by simp;omega
theorem mid_get {α : Type} (p : List α) (x : α) (r : List α) (d : α) : (p ++ x :: r).getD p.length d = x:=by
 rw [List.getD_eq_getElem?_getD,List.getElem?_append_right (Nat.le_refl _),Nat.sub_self];rfl
theorem g8z {α : Type} (p : List α) (x : α) (r : List α) : p ++ x :: r = (p ++ [x]) ++ r:=by simp
theorem e8z {α : Type} (p : List α) (x : α) : (p ++ [x]).length = p.length + 1:=by simp
theorem rdB_mid (p r : List Bl) (x : Bl) : b6z (p ++ x :: r) ((p.length : Nat) : Int) = x:=mid_get p x r _
/-- A span, as the reference has it. -/
abbrev S6:=S63
def to6 (s : Sn) : S6:=⟨s.1,s.2⟩
theorem rd6_mid (p r : List Sn) (x : Sn) : c6z ((p ++ x :: r).map to6) ((p.length : Nat) : Int) = to6 x:=by
 have h:=mid_get (p.map to6) (to6 x) (r.map to6) z63
 rw [List.length_map] at h
 rw [List.map_append,List.map_cons]
 exact h
theorem rd6_last (p : List Sn) (x : Sn) : c6z ((p ++ [x]).map to6) ((p.length : Nat) : Int) = to6 x:=rd6_mid p [] x
theorem set6_last (p : List Sn) (x y : Sn) : ((p ++ [x]).map to6).set p.length (to6 y) = (p ++ [y]).map to6:=by
 rw [List.map_append,List.map_append,List.set_append_right _ _ (by rw [List.length_map];exact Nat.le_refl _),List.length_map,Nat.sub_self]
 rfl
theorem ins_loop (x0 : List Bl) (x4 : Int) (x : Sn) : ∀ (r p : List Sn),p.length + r.length ≤ 100000 → ∃ c,c ≤ r.length + 1 ∧ ∀ k,spec_l2Spans.l1 (k + c) x0 ((p ++ r).map to6) x4 (p.length : Int) x.1 x.2 = spec_l2Spans.l0 k x0 ((p ++ insP x r).map to6) (wrap64 (x4 + 1)):=by
 intro r
 induction r with
 | nil =>
  intro p hl
  refine ⟨1,by simp,fun k => ?_⟩
  have hm : ((p ++ []).map to6) = p.map to6:=by rw [List.append_nil]
  have hml : (p.map to6).length = p.length:=List.length_map ..
  have ht : (p.map to6).take p.length = p.map to6:=List.take_of_length_le (by omega)
  have hd : (p.map to6).drop p.length = []:=List.drop_eq_nil_of_le (by omega)
  rw [hm]
  simp only [spec_l2Spans.l1,Option.bind_some,List.nil_append,Int.toNat_natCast,ht,hd,List.append_nil]
  rw [if_neg (by omega),if_pos (by omega),if_pos (by omega),if_pos (by rw [List.length_nil];omega),if_pos (by simp;simp at hl;omega),if_pos (by simp;simp at hl;omega)]
  show spec_l2Spans.l0 k x0 (p.map to6 ++ [to6 x]) _ = _
  rw [insP,List.map_append]
  rfl
 | cons s r ih =>
  intro p hl
  rw [List.length_cons] at hl
  have hml : ((p ++ s :: r).map to6).length = p.length + 1 + r.length:=by rw [List.length_map,g2z]
  by_cases hc : s.1 < x.1
  ·obtain ⟨c,hc1,hc2⟩:=ih (p ++ [s]) (by rw [e8z];omega)
   refine ⟨c + 1,by rw [List.length_cons];omega,fun k => ?_⟩
   rw [show k + (c + 1) = (k + c) + 1 by omega]
   simp only [spec_l2Spans.l1]
   rw [if_pos (by omega),if_pos (by omega),rd6_mid,if_pos (show (to6 s).f0 < x.1 from hc),wnat (by omega)]
   have h:=hc2 k
   rw [e8z,← g8z] at h
   rw [h,insP,if_pos hc,← g8z]
  ·refine ⟨1,by omega,fun k => ?_⟩
   have hpl : p.length = (p.map to6).length:=(List.length_map ..).symm
   have ht : ((p ++ s :: r).map to6).take p.length = p.map to6:=by rw [List.map_append,hpl,List.take_left]
   have hd : ((p ++ s :: r).map to6).drop p.length = (s :: r).map to6:=by rw [List.map_append,hpl,List.drop_left]
   simp only [spec_l2Spans.l1,Option.bind_some,List.nil_append,Int.toNat_natCast,ht,hd]
   rw [if_pos (by omega),if_pos (by omega),rd6_mid,if_neg (show ¬ (to6 s).f0 < x.1 from hc),if_pos (by omega),if_pos (by rw [List.length_nil];omega),if_pos (by simp;omega),if_pos (by simp;omega)]
   rw [insP,if_neg hc]
   congr 1
   simp [to6]
theorem sort_loop : ∀ (r p : List Bl) (A : List Sn),A.length + r.length ≤ 1000 → p.length + r.length ≤ 1000 → okB r = true → ∃ c,c ≤ 1010 * r.length + 1 ∧ ∀ k,50 ≤ k → spec_l2Spans.l0 (k + c) (p ++ r) (A.map to6) (p.length : Int) = spec_l2Spans.l2 k ((srt A (r.map spn)).map to6) [] 0:=by
 intro r
 induction r with
 | nil =>
  intro p A _ hl _
  refine ⟨1,by simp,fun k _ => ?_⟩
  simp only [spec_l2Spans.l0]
  rw [List.append_nil,if_neg (by omega)]
  rfl
 | cons b r ih =>
  intro p A h1 h2 hok
  rw [List.length_cons] at h1 h2
  have hb:=i2z.1 hok b List.mem_cons_self
  obtain ⟨c1,hc1,hc2⟩:=ins_loop (p ++ b :: r) (p.length : Int) (spn b) A [] (by rw [List.length_nil];omega)
  obtain ⟨c3,hc3,hc4⟩:=ih (p ++ [b]) (insP (spn b) A) (by rw [insP_length];omega) (by rw [e8z];omega) (i2z.2 fun x hx => i2z.1 hok x (List.mem_cons_of_mem _ hx))
  refine ⟨c3 + c1 + 1,by rw [List.length_cons];omega,fun k hk => ?_⟩
  rw [show k + (c3 + c1 + 1) = (k + c3 + c1) + 1 by omega]
  simp only [spec_l2Spans.l0]
  rw [g2z,if_pos (by omega),if_pos (by omega),rdB_mid,last_spec hb (by omega),Option.bind_some]
  have h:=hc2 (k + c3)
  rw [List.nil_append,List.nil_append,List.length_nil] at h
  have h':=hc4 k hk
  rw [← g8z,e8z] at h'
  rw [show (0 : Int) = ((0 : Nat) : Int) from rfl]
  refine Eq.trans h ?_
  rw [wnat (by omega),h']
  rfl
theorem merge_loop : ∀ (R P xa : List Sn) (t : Sn),P.length + R.length ≤ 100000 → xa.length + R.length ≤ 100000 → (∀ s ∈ R,0 ≤ s.2 ∧ s.2 ≤ 4294967295) → 0 ≤ t.2 → t.2 ≤ 4294967295 → ∀ k,2 * R.length + 1 ≤ k →
  spec_l2Spans.l2 k ((P ++ R).map to6) ((xa ++ [t]).map to6) (P.length : Int) = some ((mrgG xa t R).map to6):=by
 intro R
 induction R with
 | nil =>
  intro P xa t hp ha _ _ _ k hk
  obtain ⟨k,rfl⟩ : ∃ j,k = j + 1:=⟨k - 1,by omega⟩
  simp only [spec_l2Spans.l2]
  rw [if_neg (by simp)]
  rfl
 | cons s R ih =>
  intro P xa t hp ha hR t0 t1 k hk
  rw [List.length_cons] at hp ha hk
  obtain ⟨k,rfl⟩ : ∃ j,k = j + 2:=⟨k - 2,by omega⟩
  obtain ⟨s0,s1⟩:=hR s List.mem_cons_self
  have hml : ((P ++ s :: R).map to6).length = P.length + 1 + R.length:=by rw [List.length_map,g2z]
  have hal : ((xa ++ [t]).map to6).length = xa.length + 1:=by rw [List.length_map,e8z]
  have hw : wrap64 (((xa.length + 1 : Nat) : Int) - 1) = (xa.length : Int):=by rw [w64 (by omega) (by omega)];omega
  simp only [spec_l2Spans.l2]
  rw [hml,hal,hw,if_pos (by omega),if_pos (by omega),if_pos (by omega),if_pos (by omega),if_pos (by omega),rd6_mid,rd6_last]
  show spec_l2Spans.j3 (k + 1) _ _ _ _ (decide (s.1 ≤ wrap64 (t.2 + 1))) = _
  rw [w64 (by omega) (by omega)]
  simp only [spec_l2Spans.j3]
  by_cases hc : s.1 ≤ t.2 + 1
  ·rw [if_pos (decide_eq_true hc),hml,hal,if_pos (by omega),if_pos (by omega),if_pos (by omega),if_pos (by omega),rd6_mid,rd6_last,Int.toNat_natCast,wnat (by omega),mrgG,if_pos hc]
   by_cases hd : t.2 < s.2
   ·rw [if_pos (show (to6 s).f1 > (to6 t).f1 from hd),if_pos hd]
    show spec_l2Spans.l2 k _ (((xa ++ [t]).map to6).set xa.length (to6 (t.1,s.2))) _ = _
    rw [set6_last]
    have h:=ih (P ++ [s]) xa (t.1,s.2) (by rw [e8z];omega) (by omega) (fun u hu => hR u (List.mem_cons_of_mem _ hu)) s0 s1 k (by omega)
    rwa [← g8z,e8z] at h
   ·rw [if_neg (show ¬ (to6 s).f1 > (to6 t).f1 from hd),if_neg hd]
    have h:=ih (P ++ [s]) xa t (by rw [e8z];omega) (by omega) (fun u hu => hR u (List.mem_cons_of_mem _ hu)) t0 t1 k (by omega)
    rwa [← g8z,e8z] at h
  ·rw [if_neg (by simpa using hc),hml,mrgG,if_neg hc,if_pos (by omega),if_pos (by omega),rd6_mid,Option.bind_some,if_pos (by simp;omega),wnat (by omega)]
   have h:=ih (P ++ [s]) (xa ++ [t]) s (by rw [e8z];omega) (by rw [e8z];omega) (fun u hu => hR u (List.mem_cons_of_mem _ hu)) s0 s1 k (by omega)
   rw [← g8z,e8z] at h
   rw [← h,List.map_append (l₁:=xa ++ [t])]
   rfl
theorem merge_all (S : List Sn) (hl : S.length ≤ 100000) (hS : ∀ s ∈ S,0 ≤ s.2 ∧ s.2 ≤ 4294967295) {k : Nat} (hk : 2 * S.length + 1 ≤ k) : spec_l2Spans.l2 k (S.map to6) [] 0 = some ((mrg S).map to6):=by
 cases S with
 | nil =>
  obtain ⟨k,rfl⟩ : ∃ j,k = j + 1:=⟨k - 1,by omega⟩
  simp only [spec_l2Spans.l2]
  rfl
 | cons s R =>
  rw [List.length_cons] at hl hk
  obtain ⟨k,rfl⟩ : ∃ j,k = j + 2:=⟨k - 2,by omega⟩
  obtain ⟨s0,s1⟩:=hS s List.mem_cons_self
  have hml : ((s :: R).map to6).length = 1 + R.length:=by rw [List.length_map,List.length_cons];omega
  have hw : wrap64 ((([] : List S6).length : Int) - 1) = -1:=by rw [List.length_nil,w64 (by omega) (by omega)];rfl
  have hz : c6z ((s :: R).map to6) 0 = to6 s:=rfl
  simp only [spec_l2Spans.l2,spec_l2Spans.j3]
  rw [hml,hw,if_pos (by omega),if_neg (by omega),if_neg (by simp),if_pos (by omega),if_pos (by omega),hz,Option.bind_some,if_pos (by simp),w64 (x:=0 + 1) (by omega) (by omega)]
  have h:=merge_loop R [s] [] s (by simp;omega) (by simp;omega) (fun u hu => hS u (List.mem_cons_of_mem _ hu)) s0 s1 k (by omega)
  exact h
theorem l2Spans_ev {l : List Bl} (h : okB l = true) (hl : l.length ≤ 1000) {k : Nat} (hk : 2000000 ≤ k) : spec_l2Spans.f k l = some ((ca l).map to6):=by
 obtain ⟨c,hc1,hc2⟩:=sort_loop l [] [] (by simpa using hl) (by simpa using hl) h
 have e:=hc2 (k - c) (by omega)
 rw [show k - c + c = k by omega] at e
 unfold spec_l2Spans.f
 refine Eq.trans e ?_
 have hsl:=srt_length (l.map spn) []
 rw [List.length_map,List.length_nil] at hsl
 refine merge_all _ (by omega) (fun s hs => ?_) (by omega)
 rcases (mem_srt s (l.map spn) []).1 hs with hs|hs
 ·exact absurd hs (by simp)
 ·obtain ⟨s0,s1,s2⟩:=i5z h s hs
  exact ⟨by omega,s2⟩
theorem cov_any : ∀ (n m : Nat) (a b : Int),(b + 1 - a).toNat ≤ n → (b + 1 - a).toNat ≤ m → cov n a b = cov m a b
 | 0,m,a,b,hn,hm => by rw [cov_nil (n:=0) (by omega),cov_nil (n:=m) (by omega)]
 | n + 1,0,a,b,hn,hm => by rw [cov_nil (n:=n + 1) (by omega),cov_nil (n:=0) (by omega)]
 | n + 1,m + 1,a,b,hn,hm => by
  unfold cov
  by_cases hab : a ≤ b
  ·have hp:=h4z (mb a b)
   rw [if_pos hab,if_pos hab,cov_any n m (a + sz (mb a b)) b (by omega) (by omega)]
  ·rw [if_neg hab,if_neg hab]
theorem cov_len {a b : Int} (n : Nat) (h : a ≤ b + 1) (hn : (b + 1 - a).toNat ≤ n) : ((cov n a b).length : Int) ≤ b + 1 - a:=by
 have h1:=i4z (cov n a b)
 rwa [cov_sum n a b hn h] at h1
theorem cover_loop : ∀ (R P : List Sn) (acc : List Bl),P.length + R.length ≤ 1000000 → (∀ s ∈ R,Ok s) → (acc.length : Int) + wid R ≤ 5000000000 → ∀ k : Nat,wid R + 2 * R.length + 200 ≤ (k : Int) →
  spec_l2Cover.l0 k ((P ++ R).map to6) acc (P.length : Int) = some (acc ++ coS R):=by
 intro R
 induction R with
 | nil =>
  intro P acc _ _ _ k hk
  rw [wid_nil] at hk
  obtain ⟨k,rfl⟩ : ∃ j,k = j + 1:=⟨k - 1,by omega⟩
  simp only [spec_l2Cover.l0]
  rw [if_neg (by simp),coS_nil,List.append_nil]
 | cons s R ih =>
  intro P acc hl hR hw k hk
  rw [List.length_cons] at hl hk
  have hN:=NN_eq
  obtain ⟨s0,s1,s2⟩:=hR s List.mem_cons_self
  have hw0 : 0 ≤ wid R:=by
   have h1:=i4z (coS R)
   rw [coS_sum (fun t ht => hR t (List.mem_cons_of_mem _ ht))] at h1
   omega
  rw [wid_cons] at hw hk
  obtain ⟨k,rfl⟩ : ∃ j,k = j + 1:=⟨k - 1,by omega⟩
  have hml : ((P ++ s :: R).map to6).length = P.length + 1 + R.length:=by rw [List.length_map,g2z]
  simp only [spec_l2Cover.l0]
  rw [hml,if_pos (by omega),if_pos (by omega),rd6_mid]
  have hg : ((P ++ s :: R).map to6).getD P.length z63 = to6 s:=by
   have:=rd6_mid P R s
   unfold c6z at this
   rwa [Int.toNat_natCast] at this
  obtain ⟨c,hc1,hc2⟩:=cover_l1 ((P ++ s :: R).map to6) P.length (by omega) (by omega) s.2 (by rw [hg];rfl) s2 (s.2 + 1 - s.1).toNat s.1 acc s0 (Nat.le_refl _) (by omega)
  have e:=hc2 (k - c) (by omega)
  rw [show k - c + c = k by omega,cov_any _ NN s.1 s.2 (Nat.le_refl _) (by omega)] at e
  refine Eq.trans e ?_
  have hcl:=cov_len (a:=s.1) (b:=s.2) NN (by omega) (by omega)
  have h:=ih (P ++ [s]) (acc ++ cov NN s.1 s.2) (by rw [e8z];omega) (fun t ht => hR t (List.mem_cons_of_mem _ ht)) (by rw [List.length_append];push_cast;omega) (k - c) (by omega)
  rw [← g8z,e8z] at h
  rw [h,coS_cons,List.append_assoc]
theorem cover_ev' {C : List Sn} (h : Si.Can C) (hl : C.length ≤ 100000) {k : Nat} (hk : 5000000000 ≤ k) : spec_l2Cover.f k (C.map to6) = some (coS C):=by
 have hw:=wid_le h
 unfold spec_l2Cover.f
 have e:=cover_loop C [] [] (by simp;omega) h.1 (by simp;omega) k (by omega)
 exact e
/-- Two lists of blocks, compared one by one. -/
theorem all_eq (a b : List Bl) (h : a.length = b.length) : ((List.range a.length).all fun i => decide (b6z a (i : Int) = b6z b (i : Int))) = decide (a = b):=by
 rw [Bool.eq_iff_iff,List.all_eq_true,decide_eq_true_iff]
 constructor
 ·intro hh
  refine List.ext_getElem h fun i h1 h2 => ?_
  have:=of_decide_eq_true (hh i (List.mem_range.2 h1))
  unfold b6z at this
  rw [Int.toNat_natCast,List.getD_eq_getElem?_getD,List.getD_eq_getElem?_getD,List.getElem?_eq_getElem h1,List.getElem?_eq_getElem h2] at this
  exact this
 ·rintro rfl i _
  exact decide_eq_true rfl
theorem ne_blk (x y : Bl) : (!(x.f0 == y.f0) || !(x.f1 == y.f1)) = !decide (x = y):=by
 by_cases h : x = y
 ·subst h;simp
 ·rw [decide_eq_false h]
  by_cases h0 : x.f0 = y.f0
  ·have h1 : ¬ x.f1 = y.f1:=fun h1 => h (bl_ext h0 h1)
   simp [h0,h1]
  ·simp [h0]
theorem same_ev (a b : List Bl) (hl : a.length ≤ 1000000000) {k : Nat} (hk : a.length + 10 < k) : spec_l2Same.f k a b = some (decide (a = b)):=by
 unfold spec_l2Same.f
 by_cases h : a.length = b.length
 ·rw [if_pos (by omega),← all_eq a b h]
  have hs:=scan_loop (fun k i => spec_l2Same.l0 k a b i) a.length 1 (fun i => decide (b6z a (i : Int) = b6z b (i : Int))) false true (fun k i hi _ _ hg => ?_) (fun k i hi _ _ hg => ?_) (fun k _ => ?_) k (by omega)
  ·refine Eq.trans hs ?_
   generalize ((List.range a.length).all fun i => decide (b6z a (i : Int) = b6z b (i : Int))) = q
   cases q <;> rfl
  ·simp only [spec_l2Same.l0]
   rw [if_pos (by omega),if_pos (by omega),if_pos (by omega),ne_blk,hg,if_neg (by simp),wnat (by omega)]
  ·simp only [spec_l2Same.l0]
   rw [if_pos (by omega),if_pos (by omega),if_pos (by omega),ne_blk,hg,if_pos (by simp)]
  ·simp only [spec_l2Same.l0]
   rw [if_neg (by omega)]
 ·rw [if_neg (by omega),decide_eq_false fun e => h (by rw [e])]
theorem okB_range (l : List Bl) : ((List.range l.length).all fun i => bok (b6z l (i : Int)).f0 (b6z l (i : Int)).f1) = okB l:=by
 rw [Bool.eq_iff_iff,List.all_eq_true,i2z]
 have hg : ∀ i (h : i < l.length),b6z l (i : Int) = l[i]:=fun i h => by
  unfold b6z
  rw [Int.toNat_natCast,List.getD_eq_getElem?_getD,List.getElem?_eq_getElem h];rfl
 constructor
 ·intro hh b hb
  obtain ⟨i,hi,rfl⟩:=List.mem_iff_getElem.1 hb
  have:=hh i (List.mem_range.2 hi)
  rwa [hg i hi] at this
 ·intro hh i hi
  rw [hg i (List.mem_range.1 hi)]
  exact hh _ (List.getElem_mem _)
theorem blocks_spec (l : List Bl) (hl : l.length ≤ 1000000000) {k : Nat} (hk : l.length + 50 < k) : spec_l2Blocks.f k l = some (okB l && decide (l.length ≤ 64)):=by
 unfold spec_l2Blocks.f
 rw [← okB_range l]
 have hs:=scan_loop (fun k i => spec_l2Blocks.l0 k l i) l.length 42 (fun i => bok (b6z l (i : Int)).f0 (b6z l (i : Int)).f1) false (decide (l.length ≤ 64)) (fun k i hi hk _ hg => ?_) (fun k i hi hk _ hg => ?_) (fun k _ => ?_) k (by omega)
 ·refine Eq.trans hs ?_
  generalize ((List.range l.length).all fun i => bok (b6z l (i : Int)).f0 (b6z l (i : Int)).f1) = q
  cases q <;> rfl
 ·simp only [spec_l2Blocks.l0]
  rw [if_pos (by omega),if_pos (by omega),ok_spec _ _ (by omega),Option.bind_some,hg,if_pos rfl,wnat (by omega)]
 ·simp only [spec_l2Blocks.l0]
  rw [if_pos (by omega),if_pos (by omega),ok_spec _ _ (by omega),Option.bind_some,hg,if_neg (by simp)]
 ·simp only [spec_l2Blocks.l0]
  rw [if_neg (by omega)]
  congr 1
  rw [Bool.eq_iff_iff,decide_eq_true_iff,decide_eq_true_iff]
  omega
theorem room_spec (l : List Bl) : spec_l2Room.f l = some (room l):=by
 unfold spec_l2Room.f room
 by_cases h : l.length ≤ 64
 ·rw [if_neg (by omega),if_pos h]
 ·rw [if_pos (by omega),if_neg h]
theorem setOk_spec (l : List Bl) (hl : l.length ≤ 100000000) {k : Nat} (hk : 5000000000 ≤ k) : spec_SetOk.f k l = some (isSet l):=by
 unfold spec_SetOk.f isSet
 rw [blocks_spec l (by omega) (by omega),Option.bind_some]
 by_cases h : okB l = true
 ·by_cases h2 : l.length ≤ 64
  ·have hcl:=ca_length l
   rw [h,if_pos (by simp [h2]),l2Spans_ev h (by omega) (by omega),Option.bind_some,cover_ev' (ca_can h) (by omega) hk,Option.bind_some,same_ev _ _ (by omega) (by omega),Option.bind_some,decide_eq_true h2,Bool.true_and,Bool.true_and]
   congr 1
   rw [Bool.eq_iff_iff,decide_eq_true_iff,decide_eq_true_iff]
   exact eq_comm
  ·rw [if_neg (by simp [h2]),decide_eq_false h2]
   simp
 ·rw [if_neg (by simp [h])]
  simp [h]
theorem setOf_spec (l : List Bl) (hl : l.length ≤ 100000000) {k : Nat} (hk : 5000000000 ≤ k) : spec_SetOf.f k l = some (ofB l):=by
 unfold spec_SetOf.f ofB
 rw [blocks_spec l (by omega) (by omega),Option.bind_some]
 by_cases h : okB l = true ∧ l.length ≤ 64
 ·have hcl:=ca_length l
  have h2:=h.2
  rw [if_pos (by simp [h.1,h.2]),if_pos h,l2Spans_ev h.1 (by omega) (by omega),Option.bind_some,cover_ev' (ca_can h.1) (by omega) hk,Option.bind_some,room_spec,Option.bind_some]
 ·rw [if_neg (by simpa using h),if_neg h]
theorem both_in (xa bs : List Sn) (hbl : bs.length ≤ 1000) (Q T : List Sn) (a : Sn) (hQ : xa = Q ++ a :: T) : ∀ (R P acc : List Sn),bs = P ++ R → acc.length + R.length ≤ 1000000 → ∀ k,
  spec_l2Both.l1 (k + (2 * R.length + 1)) (xa.map to6) (bs.map to6) (acc.map to6) (Q.length : Int) (P.length : Int) = spec_l2Both.l0 k (xa.map to6) (bs.map to6) ((acc ++ meets a R).map to6) (wrap64 ((Q.length : Int) + 1)):=by
 intro R
 induction R with
 | nil =>
  intro P acc hb _ k
  have hml : (bs.map to6).length = P.length:=by rw [List.length_map,hb,List.append_nil]
  rw [show k + (2 * ([] : List Sn).length + 1) = k + 1 by simp]
  simp only [spec_l2Both.l1]
  rw [hml,if_neg (by omega),show meets a [] = [] from rfl,List.append_nil]
 | cons b R ih =>
  intro P acc hb hl k
  rw [List.length_cons] at hl
  have hml : (bs.map to6).length = P.length + 1 + R.length:=by rw [List.length_map,hb,g2z]
  have hal : (xa.map to6).length = Q.length + 1 + T.length:=by rw [List.length_map,hQ,g2z]
  have hra : c6z (xa.map to6) (Q.length : Int) = to6 a:=by rw [hQ,rd6_mid]
  have hrb : c6z (bs.map to6) (P.length : Int) = to6 b:=by rw [hb,rd6_mid]
  have hbl' : P.length + 1 + R.length ≤ 1000:=by rw [← g2z P b R,← hb];exact hbl
  rw [show k + (2 * (b :: R).length + 1) = (k + (2 * R.length + 1)) + 1 + 1 by rw [List.length_cons];omega]
  have hj : spec_l2Both.l1 ((k + (2 * R.length + 1)) + 1 + 1) (xa.map to6) (bs.map to6) (acc.map to6) (Q.length : Int) (P.length : Int) = spec_l2Both.j2 ((k + (2 * R.length + 1)) + 1) (xa.map to6) (bs.map to6) (acc.map to6) (Q.length : Int) (P.length : Int) (hi2 a.1 b.1) a.2:=by
   simp only [spec_l2Both.l1]
   rw [hml,hal,if_pos (by omega),if_pos (by omega),if_pos (by omega),if_pos (by omega),hra,hrb]
   unfold hi2
   by_cases hc : a.1 < b.1
   ·rw [if_pos (show (to6 b).f0 > (to6 a).f0 from hc),if_pos hc];rfl
   ·rw [if_neg (show ¬ (to6 b).f0 > (to6 a).f0 from hc),if_neg hc];rfl
  rw [hj]
  have hstep : spec_l2Both.j2 ((k + (2 * R.length + 1)) + 1) (xa.map to6) (bs.map to6) (acc.map to6) (Q.length : Int) (P.length : Int) (hi2 a.1 b.1) a.2 = spec_l2Both.l1 (k + (2 * R.length + 1)) (xa.map to6) (bs.map to6) ((acc ++ meet a b).map to6) (Q.length : Int) ((P ++ [b]).length : Int):=by
   simp only [spec_l2Both.j2]
   rw [hml,if_pos (by omega),if_pos (by omega),hrb,wnat (by omega),e8z,List.length_map]
   unfold meet lo2
   by_cases hc : b.2 < a.2
   ·rw [if_pos (show (to6 b).f1 < a.2 from hc),if_pos hc]
    by_cases hd : hi2 a.1 b.1 ≤ b.2
    ·rw [if_pos (show hi2 a.1 b.1 ≤ (to6 b).f1 from hd),if_pos hd,if_pos (by omega),List.map_append]
     rfl
    ·rw [if_neg (show ¬ hi2 a.1 b.1 ≤ (to6 b).f1 from hd),if_neg hd,List.append_nil]
   ·rw [if_neg (show ¬ (to6 b).f1 < a.2 from hc),if_neg hc]
    by_cases hd : hi2 a.1 b.1 ≤ a.2
    ·rw [if_pos hd,if_pos hd,if_pos (by omega),List.map_append]
     rfl
    ·rw [if_neg hd,if_neg hd,List.append_nil]
  rw [hstep]
  have hm:=meet_length a b
  rw [ih (P ++ [b]) (acc ++ meet a b) (by rw [hb,g8z]) (by rw [List.length_append];omega) k]
  rw [show meets a (b :: R) = meet a b ++ meets a R from List.flatMap_cons ..,List.append_assoc]
theorem both_out (xa bs : List Sn) (hbl : bs.length ≤ 100) : ∀ (R P acc : List Sn),xa = P ++ R → P.length + R.length ≤ 100 → acc.length + 100 * R.length ≤ 100000 → ∀ k,300 * R.length + 1 ≤ k →
  spec_l2Both.l0 k (xa.map to6) (bs.map to6) (acc.map to6) (P.length : Int) = some ((acc ++ both R bs).map to6):=by
 intro R
 induction R with
 | nil =>
  intro P acc ha _ _ k hk
  obtain ⟨k,rfl⟩ : ∃ j,k = j + 1:=⟨k - 1,by omega⟩
  simp only [spec_l2Both.l0]
  rw [if_neg (by rw [List.length_map,ha,List.append_nil];omega),show both [] bs = [] from rfl,List.append_nil]
 | cons a R ih =>
  intro P acc ha hl hc k hk
  rw [List.length_cons] at hl hc hk
  obtain ⟨k,rfl⟩ : ∃ j,k = j + (2 * bs.length + 1) + 1:=⟨k - (2 * bs.length + 1) - 1,by omega⟩
  have hal : (xa.map to6).length = P.length + 1 + R.length:=by rw [List.length_map,ha,g2z]
  have hm:=meets_length a bs
  simp only [spec_l2Both.l0]
  rw [hal,if_pos (by omega)]
  refine Eq.trans (both_in xa bs (by omega) P R a ha bs [] acc rfl (by omega) k) ?_
  rw [wnat (by omega)]
  have h:=ih (P ++ [a]) (acc ++ meets a bs) (by rw [ha,g8z]) (by rw [e8z];omega) (by rw [List.length_append];omega) k (by omega)
  rw [e8z] at h
  rw [h,show both (a :: R) bs = meets a bs ++ both R bs from List.flatMap_cons ..,List.append_assoc]
theorem l2Both_ev {xa bs : List Sn} (ha : xa.length ≤ 100) (hb : bs.length ≤ 100) {k : Nat} (hk : 100000 ≤ k) : spec_l2Both.f k (xa.map to6) (bs.map to6) = some ((both xa bs).map to6):=by
 unfold spec_l2Both.f
 exact both_out xa bs hb xa [] [] rfl (by simpa using ha) (by simp;omega) k (by omega)
theorem both_len64 {a b : List Sn} (ha : a.length ≤ 66) (hb : b.length ≤ 66) : (both a b).length ≤ 5000:=by
 have h1:=both_length b a
 have h2 : a.length * b.length ≤ 66 * 66:=Nat.mul_le_mul ha hb
 omega
theorem setBoth_spec (a b : List Bl) (ha : a.length ≤ 100000000) (hb : b.length ≤ 100000000) {k : Nat} (hk : 5000000001 ≤ k) : spec_SetBoth.f k a b = some (dual both a b):=by
 obtain ⟨k,rfl⟩ : ∃ j,k = j + 1:=⟨k - 1,by omega⟩
 unfold spec_SetBoth.f dual
 rw [setOk_spec a ha (by omega),Option.bind_some]
 by_cases h1 : isSet a = true
 ·rw [if_pos h1,setOk_spec b hb (by omega),Option.bind_some]
  simp only [spec_SetBoth.j0]
  by_cases h2 : isSet b = true
  ·obtain ⟨a1,a2,a3⟩:=h8z.1 h1
   obtain ⟨b1,b2,b3⟩:=h8z.1 h2
   have hal:=ca_length a
   have hbl:=ca_length b
   have hl:=both_len64 (a:=ca a) (b:=ca b) (by omega) (by omega)
   rw [if_neg (by simp [h2]),if_pos ⟨h1,h2⟩,l2Spans_ev a1 (by omega) (by omega),Option.bind_some,l2Spans_ev b1 (by omega) (by omega),Option.bind_some,l2Both_ev (by omega) (by omega) (by omega),Option.bind_some,cover_ev' (i7z (ca_can a1) (ca_can b1)) (by omega) (by omega),Option.bind_some,room_spec,Option.bind_some]
  ·rw [if_pos (by simp [h2]),if_neg (fun h => h2 h.2)]
 ·rw [if_neg h1]
  simp only [spec_SetBoth.j0]
  rw [if_pos trivial,if_neg (fun h => h1 h.1)]
end Go.Proofs.Ytmdhedkgpgoneaa.Se
