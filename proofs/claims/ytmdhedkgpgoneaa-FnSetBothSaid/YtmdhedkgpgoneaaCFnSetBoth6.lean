/- The law FnSetBoth (part 6 of 8): for every input the call answers true and its arguments read afterwards as before. No condition beyond the row's own. -/
import Derived.Test.YtmdhedkgpgoneaaCFnSetBoth5
namespace Go.Proofs.Ytmdhedkgpgoneaa.Q
open Go.RowKit Go.Proofs.YtmdhedkgpgoneaaW.PrintWords Go.Proofs.YtmdhedkgpgoneaaW.PrintLast Go.Proofs.YtmdhedkgpgoneaaW.PrintMore
attribute [local go_sem] e4z e2z e7z e6z d8z d7z e3z e1z
set_option linter.unusedVariables false
set_option linter.unusedSimpArgs false
def spec_SetOf.f (k : Nat) (l0 : List (S44)) : Option ((List (S44)) × Bool):=(spec_l2Blocks.f k l0).bind fun t101 => (if t101 = true then ((spec_l2Spans.f k l0).bind fun t102 => ((spec_l2Cover.f k t102).bind fun t105 => ((spec_l2Room.f t105).bind fun bt108 => (some (bt108.1,bt108.2))))) else (some ((([] : List (S44))),false)))
set_option maxHeartbeats 8000000 in
set_option maxRecDepth 100000 in
theorem spec_SetOf.calls (k : Nat) (A0 : Option Addr) (c0 : Nat) (l0 : List (S44)) (r1 : List (S44)) (r2 : Bool) (w : World) (hr0 : Kd.C k44 w A0 l0.length l0) (hc0 : l0.length ≤ c0) (h : spec_SetOf.f k l0 = some (r1,r2)) :
  Calls Try.prog 18 #[.slice A0 l0.length c0] w fun e w' => ∃ v0_ : Value,e = .returned (.tuple #[v0_,.bool r2]) ∧ Kd.R k44 44 w' w.heap.size (fun _ => True) v0_ r1 ∧ Below w.heap.size w w':=by
 have HR0:=a0z.mk hr0
 have HC0:=a0z.mk hc0
 clear hr0 hc0
 have HB:=a0z.mk (Below.refl w.heap.size w)
 have H : ((spec_l2Blocks.f k l0).bind fun t101 => (if t101 = true then ((spec_l2Spans.f k l0).bind fun t102 => ((spec_l2Cover.f k t102).bind fun t105 => ((spec_l2Room.f t105).bind fun bt108 => (some (bt108.1,bt108.2))))) else (some ((([] : List (S44))),false)))) = some (r1,r2):=h
 clear h
 replace H:=Option.bind_eq_some_iff.mp H
 obtain ⟨t101,A20,H⟩:=H
 replace H : (if t101 = true then ((spec_l2Spans.f k l0).bind fun t102 => ((spec_l2Cover.f k t102).bind fun t105 => ((spec_l2Room.f t105).bind fun bt108 => (some (bt108.1,bt108.2))))) else (some ((([] : List (S44))),false))) = some (r1,r2):=H
 have A2:=a0z.mk A20
 clear A20
 by_cases c3 : t101 = true
 ·subst c3
  have H1 : ((spec_l2Spans.f k l0).bind fun t102 => ((spec_l2Cover.f k t102).bind fun t105 => ((spec_l2Room.f t105).bind fun bt108 => (some (bt108.1,bt108.2))))) = some (r1,r2):=by rw [if_pos rfl] at H;exact H
  clear H
  have H:=H1
  clear H1
  replace H:=Option.bind_eq_some_iff.mp H
  obtain ⟨t102,A40,H⟩:=H
  replace H : ((spec_l2Cover.f k t102).bind fun t105 => ((spec_l2Room.f t105).bind fun bt108 => (some (bt108.1,bt108.2)))) = some (r1,r2):=H
  have A4:=a0z.mk A40
  clear A40
  replace H:=Option.bind_eq_some_iff.mp H
  obtain ⟨t105,A50,H⟩:=H
  replace H : ((spec_l2Room.f t105).bind fun bt108 => (some (bt108.1,bt108.2))) = some (r1,r2):=H
  have A5:=a0z.mk A50
  clear A50
  replace H:=Option.bind_eq_some_iff.mp H
  obtain ⟨⟨t108,t111⟩,A60,H⟩:=H
  replace H : (some (t108,t111)) = some (r1,r2):=H
  have A6:=a0z.mk A60
  clear A60
  simp only [Option.some.injEq,Prod.mk.injEq] at H
  obtain ⟨rfl,rfl⟩:=H
  go_enter Try.func18,Try.ntmps18
  go_wp2_with (first|((with_reducible refine b8z (f:=32) rfl ?_);refine d2z (some 5) rfl rfl Try.func32 (by kernel_rfl) rfl #[.slice A0 l0.length c0] rfl (by (try simp only [List.map_toArray,List.map_cons,List.map_nil]);first|done|rfl|(simp only [List.length_drop,List.length_take];rfl)) ?_;(with_reducible refine (spec_l2Blocks.calls k _ _ l0 true _ ?side1 ?side2 A2.1).mono ?_);(case side1 => repeat (first|exact HR0.1|(with_reducible refine Kd.C_alloc ?_ _)|(with_reducible refine Kd.C_drewN ?_ _)|(with_reducible refine Kd.C_drew ?_)));(case side2 => exact HC0.1);rintro e w7 ⟨rfl,hb⟩;refine ⟨_,rfl,?_⟩;have n0_:=a0z.mk (b3z (by repeat (first|(with_reducible first|exact HB.1|apply a3z|apply a1z|apply a2z)|exact HB.1)) hb);clear HB;have HB:=n0_;clear n0_;(try clear hb);(try clear hb2);(try clear hk);(try clear hi))|((with_reducible refine b8z (f:=35) rfl ?_);refine d2z (some 9) rfl rfl Try.func35 (by kernel_rfl) rfl #[.slice A0 l0.length c0] rfl (by (try simp only [List.map_toArray,List.map_cons,List.map_nil]);first|done|rfl|(simp only [List.length_drop,List.length_take];rfl)) ?_;(with_reducible refine (spec_l2Spans.calls k _ _ l0 t102 _ ?side1 ?side2 A4.1).mono ?_);(case side1 => repeat (first|exact (Kd.f2z HR0.1 HB.1)|(with_reducible refine Kd.C_alloc ?_ _)|(with_reducible refine Kd.C_drewN ?_ _)|(with_reducible refine Kd.C_drew ?_)));(case side2 => exact HC0.1);rintro e w8 ⟨v103,rfl,ho0,hb⟩;refine ⟨_,rfl,?_⟩;have n0_:=a0z.mk (Kd.d5z ho0 (b1z (by repeat (first|(with_reducible first|exact HB.1|apply a3z|apply a1z|apply a2z)|exact HB.1))));have n1_:=a0z.mk (b3z (by repeat (first|(with_reducible first|exact HB.1|apply a3z|apply a1z|apply a2z)|exact HB.1)) hb);clear HB;have HO104:=n0_;have HB:=n1_;clear n0_ n1_;(try clear hb);(try clear hb2);(try clear hk);(try clear hi);(try clear ho0);obtain ⟨Ao9,co9,eo9⟩:=Kd.d3z HO104.1;subst eo9)|((with_reducible refine b8z (f:=34) rfl ?_);refine d2z (some 10) rfl rfl Try.func34 (by kernel_rfl) rfl #[.slice Ao9 t102.length co9] rfl (by (try simp only [List.map_toArray,List.map_cons,List.map_nil]);first|done|rfl|(simp only [List.length_drop,List.length_take];rfl)) ?_;(with_reducible refine (spec_l2Cover.calls k _ _ t102 t105 _ ?side1 ?side2 A5.1).mono ?_);(case side1 => repeat (first|exact (Kd.b4z HO104.1).2.2|(with_reducible refine Kd.C_alloc ?_ _)|(with_reducible refine Kd.C_drewN ?_ _)|(with_reducible refine Kd.C_drew ?_)));(case side2 => exact (Kd.b4z HO104.1).2.1);rintro e w10 ⟨v106,rfl,ho0,hb⟩;refine ⟨_,rfl,?_⟩;have n0_:=a0z.mk (Kd.c3z (by (with_reducible repeat (first|apply Kd.R_alloc|apply Kd.a4z|apply Kd.a5z));exact HO104.1) hb);have n1_:=a0z.mk (Kd.d5z ho0 (b1z (by repeat (first|(with_reducible first|exact HB.1|apply a3z|apply a1z|apply a2z)|exact HB.1))));have n2_:=a0z.mk (b3z (by repeat (first|(with_reducible first|exact HB.1|apply a3z|apply a1z|apply a2z)|exact HB.1)) hb);clear HO104;clear HB;have HO104:=n0_;have HO107:=n1_;have HB:=n2_;clear n0_ n1_ n2_;(try clear hb);(try clear hb2);(try clear hk);(try clear hi);(try clear ho0);obtain ⟨Ao11,co11,eo11⟩:=Kd.d3z HO107.1;subst eo11)|((with_reducible refine b8z (f:=42) rfl ?_);refine d2z (some 11) rfl rfl Try.func42 (by kernel_rfl) rfl #[.slice Ao11 t105.length co11] rfl (by (try simp only [List.map_toArray,List.map_cons,List.map_nil]);first|done|rfl|(simp only [List.length_drop,List.length_take];rfl)) ?_;(with_reducible refine (spec_l2Room.calls (fun k_ => some k_ = (.slice Ao11 t105.length co11 : Value).ownBlock) (.slice Ao11 t105.length co11) t105 t108 t111 w _ ?side1 ?side2 A6.1).mono ?_);(case side1 => repeat (first|(with_reducible first|exact HB.1|apply a3z|apply a1z|apply a2z)|exact HB.1));(case side2 => exact Kd.R_tight rfl HO107.1);rintro e w12 ⟨v109,rfl,ho0,hb,hkp⟩;refine ⟨_,rfl,?_⟩;have n0_:=a0z.mk (Kd.b5z (ok':=fun k_ => True) (Kd.R_keptB ((Kd.i9z HO104.1 (Kd.R_typed HO107.1) (by decide))) hkp (fun k_ hk_ hs_ => (hk_.2) hs_)) (fun k_ hk_ => trivial));have n1_:=a0z.mk (Kd.b5z (ok':=fun k_ => True) ho0 (fun k_ hk_ => trivial));have n2_:=a0z.mk (hb);clear HO104;clear HB;clear HO107;have HO104:=n0_;have HO110:=n1_;have HB:=n2_;clear n0_ n1_ n2_;(try clear hb);(try clear hkp);(try clear ho0)))
  go_ret2
  exact ⟨_,by first|rfl|(simp [c2z,c1z] <;> rfl)|(simp [*,c2z,c1z] <;> rfl),by (with_reducible repeat (first|apply Kd.R_alloc|apply Kd.a4z|apply Kd.a5z));exact HO110.1,by repeat (first|(with_reducible first|exact HB.1|apply a3z|apply a1z|apply a2z)|exact HB.1)⟩
 ·replace c3:=Bool.eq_false_iff.mpr c3
  subst c3
  have H1 : (some ((([] : List (S44))),false)) = some (r1,r2):=by rw [if_neg (show ¬ (false = true) by decide)] at H;exact H
  clear H
  have H:=H1
  clear H1
  obtain ⟨y112,hy112⟩ : ∃ y_ : List (S44),y_ = (([] : List (S44))):=⟨_,rfl⟩
  replace H : (some (y112,false)) = some (r1,r2):=by first|(rw [hy112];with_reducible exact H)|(have H2_:=(Option.bind_some _ _).symm.trans H;rw [hy112];with_reducible exact H2_)|(have H2_:=(Option.bind_some _ _).symm.trans H;with_reducible exact H2_)|with_reducible exact H|(rw [hy112];exact H)|exact H
  have Ny112:=a0z.mk hy112
  clear hy112
  simp only [Option.some.injEq,Prod.mk.injEq] at H
  obtain ⟨rfl,rfl⟩:=H
  go_enter Try.func18,Try.ntmps18
  go_wp2_with (first|((with_reducible refine b8z (f:=32) rfl ?_);refine d2z (some 5) rfl rfl Try.func32 (by kernel_rfl) rfl #[.slice A0 l0.length c0] rfl (by (try simp only [List.map_toArray,List.map_cons,List.map_nil]);first|done|rfl|(simp only [List.length_drop,List.length_take];rfl)) ?_;(with_reducible refine (spec_l2Blocks.calls k _ _ l0 false _ ?side1 ?side2 A2.1).mono ?_);(case side1 => repeat (first|exact HR0.1|(with_reducible refine Kd.C_alloc ?_ _)|(with_reducible refine Kd.C_drewN ?_ _)|(with_reducible refine Kd.C_drew ?_)));(case side2 => exact HC0.1);rintro e w13 ⟨rfl,hb⟩;refine ⟨_,rfl,?_⟩;have n0_:=a0z.mk (b3z (by repeat (first|(with_reducible first|exact HB.1|apply a3z|apply a1z|apply a2z)|exact HB.1)) hb);clear HB;have HB:=n0_;clear n0_;(try clear hb);(try clear hb2);(try clear hk);(try clear hi))|((with_reducible refine d4z (N:=7) rfl ?_);refine Kd.R_lit k44 _ 44 ?hg (N:=7) ?hd (xs:=([] : List (S44))) (inner:=[]) (ok:=fun _ => True) (okp:=fun _ => True) ?hr ?hp (fun _ hk => hk) trivial (Below.refl _ _) (Nat.le_refl _) (by simp) ?_;(case hd => rfl);(case hg => rfl);(case hr => first|(go_simp;done)|(go_simp;rfl));(case hp => exact (Reps.none _ _));intro v113 w14 ho15 hb hg_ hnew_;clear hg_ hnew_;(first|rw [← Ny112.1] at ho15|(simp only [Int.reduceToNat] at ho15;rw [← Ny112.1] at ho15));have n0_:=a0z.mk (Kd.d5z ho15 (b1z (by repeat (first|(with_reducible first|exact HB.1|apply a3z|apply a1z|apply a2z)|exact HB.1))));have n1_:=a0z.mk (b3z (by repeat (first|(with_reducible first|exact HB.1|apply a3z|apply a1z|apply a2z)|exact HB.1)) hb);clear HB;have HO114:=n0_;have HB:=n1_;clear n0_ n1_;clear hb ho15))
  go_ret2
  exact ⟨_,by first|rfl|(simp [c2z,c1z] <;> rfl)|(simp [*,c2z,c1z] <;> rfl),by (with_reducible repeat (first|apply Kd.R_alloc|apply Kd.a4z|apply Kd.a5z));exact HO114.1,by repeat (first|(with_reducible first|exact HB.1|apply a3z|apply a1z|apply a2z)|exact HB.1)⟩
end Go.Proofs.Ytmdhedkgpgoneaa.Q

namespace Go.Proofs.Ytmdhedkgpgoneaa.Q
open Go.RowKit Go.Proofs.YtmdhedkgpgoneaaW.PrintWords Go.Proofs.YtmdhedkgpgoneaaW.PrintLast Go.Proofs.YtmdhedkgpgoneaaW.PrintMore
attribute [local go_sem] e4z e2z e7z e6z d8z d7z e3z e1z
set_option linter.unusedVariables false
set_option linter.unusedSimpArgs false
def spec_l12Set.f (k : Nat) (s0_0 : List Int) (s0_1 : Int) : Option ((List (S44)) × Int):=(spec_l12Blocks.f k s0_0 s0_1).bind fun bt101 => ((spec_SetOf.f k bt101.1).bind fun bt105 => (if bt105.2 = true then (some (bt105.1,bt101.2)) else (some ((([] : List (S44))),bt101.2))))
set_option maxHeartbeats 8000000 in
set_option maxRecDepth 100000 in
theorem spec_l12Set.calls (k : Nat) (g : Nat) (s0_0 : List Int) (s0_1 : Int) (r1 : List (S44)) (r2 : Int) (w0 w : World) (hI : IsS76 w0 w g s0_0 s0_1) (hB : Below w0.heap.size w0 w) (h : spec_l12Set.f k s0_0 s0_1 = some (r1,r2)) :
  Calls Try.prog 66 #[.pointer (some ⟨g,0,none⟩)] w fun e w' => ∃ v0_ : Value,e = .returned (v0_) ∧ Kd.R k44 44 w' w.heap.size (fun _ => True) v0_ r1 ∧ IsS76 w0 w' g s0_0 r2 ∧ Below w0.heap.size w0 w' ∧ b9z w w' g none:=by
 have HI0:=a0z.mk hI
 have HK:=a0z.mk (b9z.refl w g none)
 have HL:=a0z.mk hB.size
 clear hI
 have HW0:=a0z.mk hB.size
 have HB:=a0z.mk hB
 clear hB
 have H : ((spec_l12Blocks.f k s0_0 s0_1).bind fun bt101 => ((spec_SetOf.f k bt101.1).bind fun bt105 => (if bt105.2 = true then (some (bt105.1,bt101.2)) else (some ((([] : List (S44))),bt101.2))))) = some (r1,r2):=h
 clear h
 replace H:=Option.bind_eq_some_iff.mp H
 obtain ⟨⟨t101,t104⟩,A20,H⟩:=H
 replace H : ((spec_SetOf.f k t101).bind fun bt105 => (if bt105.2 = true then (some (bt105.1,t104)) else (some ((([] : List (S44))),t104)))) = some (r1,r2):=H
 have A2:=a0z.mk A20
 clear A20
 replace H:=Option.bind_eq_some_iff.mp H
 obtain ⟨⟨t105,t106⟩,A30,H⟩:=H
 replace H : (if t106 = true then (some (t105,t104)) else (some ((([] : List (S44))),t104))) = some (r1,r2):=H
 have A3:=a0z.mk A30
 clear A30
 by_cases c4 : t106 = true
 ·subst c4
  have H1 : (some (t105,t104)) = some (r1,r2):=by rw [if_pos rfl] at H;exact H
  clear H
  have H:=H1
  clear H1
  simp only [Option.some.injEq,Prod.mk.injEq] at H
  obtain ⟨rfl,rfl⟩:=H
  go_enter Try.func66,Try.ntmps66
  go_wp2_with (first|((with_reducible refine b8z (f:=65) rfl ?_);refine d2z (some 7) rfl rfl Try.func65 (by kernel_rfl) rfl #[.pointer (some ⟨g,0,none⟩)] rfl (by (try simp only [List.map_toArray,List.map_cons,List.map_nil]);first|done|rfl|(simp only [List.length_drop,List.length_take];rfl)) ?_;(with_reducible refine (spec_l12Blocks.calls k g s0_0 s0_1 t101 t104 w0 _ ?side1 ?side2 A2.1).mono ?_);(case side1 => repeat (first|(with_reducible first|exact HI0.1|apply IsS76.alloc|apply IsS76.drewN|apply IsS76.drew|apply IsS76.set_1)|exact HI0.1));(case side2 => repeat (first|(with_reducible first|exact HB.1|apply a3z|apply a1z|apply a2z|refine a6z ?_ (IsS76.ge HI0.1))|exact HB.1));rintro e w5 ⟨v102,rfl,ho0,hi,hb,hk⟩;refine ⟨_,rfl,?_⟩;have n0_:=a0z.mk (Kd.d5z ho0 (f1z (w:=w) (g:=g) (row:=none) (by repeat (first|(with_reducible first|exact HK.1|apply b9z.set_|apply c5z|apply c7z|apply keep_alloc)|exact HK.1))));have n1_:=a0z.mk (b9z.trans (by repeat (first|(with_reducible first|exact HK.1|apply b9z.set_|apply c5z|apply c7z|apply keep_alloc)|exact HK.1)) hk (.inl rfl));have n2_:=a0z.mk (hb);have n3_:=a0z.mk (hi);clear HK;clear HB;clear HI0;have HO103:=n0_;have HK:=n1_;have HB:=n2_;have HI0:=n3_;clear n0_ n1_ n2_ n3_;(try clear hb);(try clear hb2);(try clear hk);(try clear hi);(try clear ho0);obtain ⟨Ao6,co6,eo6⟩:=Kd.d3z HO103.1;subst eo6)|((with_reducible refine b8z (f:=18) rfl ?_);refine d2z (some 8) rfl rfl Try.func18 (by kernel_rfl) rfl #[.slice Ao6 t101.length co6] rfl (by (try simp only [List.map_toArray,List.map_cons,List.map_nil]);first|done|rfl|(simp only [List.length_drop,List.length_take];rfl)) ?_;(with_reducible refine (spec_SetOf.calls k _ _ t101 t105 true _ ?side1 ?side2 A3.1).mono ?_);(case side1 => repeat (first|exact (Kd.b4z HO103.1).2.2|(with_reducible refine Kd.C_alloc ?_ _)|(with_reducible refine Kd.C_drewN ?_ _)|(with_reducible refine Kd.C_drew ?_)));(case side2 => exact (Kd.b4z HO103.1).2.1);rintro e w7 ⟨v107,rfl,ho0,hb⟩;refine ⟨_,rfl,?_⟩;have n0_:=a0z.mk (Kd.c4z (by (with_reducible repeat (first|apply Kd.R_alloc|apply Kd.a4z|apply Kd.a5z));exact HO103.1) (Kd.d1z ho0) hb);have n1_:=a0z.mk (Kd.d5z (Kd.d0z ho0 (Kd.R_lt (by (with_reducible repeat (first|apply Kd.R_alloc|apply Kd.a4z|apply Kd.a5z));exact HO103.1))) (f1z (w:=w) (g:=g) (row:=none) (by repeat (first|(with_reducible first|exact HK.1|apply b9z.set_|apply c5z|apply c7z|apply keep_alloc)|exact HK.1))));have n2_:=a0z.mk (IsS76.below (by repeat (first|(with_reducible first|exact HI0.1|apply IsS76.alloc|apply IsS76.drewN|apply IsS76.drew|apply IsS76.set_1)|exact HI0.1)) hb);have n3_:=a0z.mk (b9z.trans (by repeat (first|(with_reducible first|exact HK.1|apply b9z.set_|apply c5z|apply c7z|apply keep_alloc)|exact HK.1)) (b9z.of_below hb g none) (.inl rfl));have n4_:=a0z.mk (b3z (by repeat (first|(with_reducible first|exact HB.1|apply a3z|apply a1z|apply a2z|refine a6z ?_ (IsS76.ge HI0.1))|exact HB.1)) hb);clear HO103;clear HI0;clear HK;clear HB;have HO103:=n0_;have HO108:=n1_;have HI0:=n2_;have HK:=n3_;have HB:=n4_;clear n0_ n1_ n2_ n3_ n4_;(try clear hb);(try clear hb2);(try clear hk);(try clear hi);(try clear ho0)))
  go_ret
  exact ⟨_,by first|rfl|(simp [c2z,c1z] <;> rfl)|(simp [*,c2z,c1z] <;> rfl),by (with_reducible repeat (first|apply Kd.R_alloc|apply Kd.a4z|apply Kd.a5z));exact Kd.b5z HO108.1 (fun _ hk => trivial),by repeat (first|(with_reducible first|exact HI0.1|apply IsS76.alloc|apply IsS76.drewN|apply IsS76.drew|apply IsS76.set_1)|exact HI0.1),by repeat (first|(with_reducible first|exact HB.1|apply a3z|apply a1z|apply a2z|refine a6z ?_ (IsS76.ge HI0.1))|exact HB.1),by repeat (first|(with_reducible first|exact HK.1|apply b9z.set_|apply c5z|apply c7z|apply keep_alloc)|exact HK.1)⟩
 ·replace c4:=Bool.eq_false_iff.mpr c4
  subst c4
  have H1 : (some ((([] : List (S44))),t104)) = some (r1,r2):=by rw [if_neg (show ¬ (false = true) by decide)] at H;exact H
  clear H
  have H:=H1
  clear H1
  obtain ⟨y109,hy109⟩ : ∃ y_ : List (S44),y_ = (([] : List (S44))):=⟨_,rfl⟩
  replace H : (some (y109,t104)) = some (r1,r2):=by first|(rw [hy109];with_reducible exact H)|(have H2_:=(Option.bind_some _ _).symm.trans H;rw [hy109];with_reducible exact H2_)|(have H2_:=(Option.bind_some _ _).symm.trans H;with_reducible exact H2_)|with_reducible exact H|(rw [hy109];exact H)|exact H
  have Ny109:=a0z.mk hy109
  clear hy109
  simp only [Option.some.injEq,Prod.mk.injEq] at H
  obtain ⟨rfl,rfl⟩:=H
  go_enter Try.func66,Try.ntmps66
  go_wp2_with (first|((with_reducible refine b8z (f:=65) rfl ?_);refine d2z (some 7) rfl rfl Try.func65 (by kernel_rfl) rfl #[.pointer (some ⟨g,0,none⟩)] rfl (by (try simp only [List.map_toArray,List.map_cons,List.map_nil]);first|done|rfl|(simp only [List.length_drop,List.length_take];rfl)) ?_;(with_reducible refine (spec_l12Blocks.calls k g s0_0 s0_1 t101 t104 w0 _ ?side1 ?side2 A2.1).mono ?_);(case side1 => repeat (first|(with_reducible first|exact HI0.1|apply IsS76.alloc|apply IsS76.drewN|apply IsS76.drew|apply IsS76.set_1)|exact HI0.1));(case side2 => repeat (first|(with_reducible first|exact HB.1|apply a3z|apply a1z|apply a2z|refine a6z ?_ (IsS76.ge HI0.1))|exact HB.1));rintro e w8 ⟨v102,rfl,ho0,hi,hb,hk⟩;refine ⟨_,rfl,?_⟩;have n0_:=a0z.mk (Kd.d5z ho0 (f1z (w:=w) (g:=g) (row:=none) (by repeat (first|(with_reducible first|exact HK.1|apply b9z.set_|apply c5z|apply c7z|apply keep_alloc)|exact HK.1))));have n1_:=a0z.mk (b9z.trans (by repeat (first|(with_reducible first|exact HK.1|apply b9z.set_|apply c5z|apply c7z|apply keep_alloc)|exact HK.1)) hk (.inl rfl));have n2_:=a0z.mk (hb);have n3_:=a0z.mk (hi);clear HK;clear HB;clear HI0;have HO103:=n0_;have HK:=n1_;have HB:=n2_;have HI0:=n3_;clear n0_ n1_ n2_ n3_;(try clear hb);(try clear hb2);(try clear hk);(try clear hi);(try clear ho0);obtain ⟨Ao9,co9,eo9⟩:=Kd.d3z HO103.1;subst eo9)|((with_reducible refine b8z (f:=18) rfl ?_);refine d2z (some 8) rfl rfl Try.func18 (by kernel_rfl) rfl #[.slice Ao9 t101.length co9] rfl (by (try simp only [List.map_toArray,List.map_cons,List.map_nil]);first|done|rfl|(simp only [List.length_drop,List.length_take];rfl)) ?_;(with_reducible refine (spec_SetOf.calls k _ _ t101 t105 false _ ?side1 ?side2 A3.1).mono ?_);(case side1 => repeat (first|exact (Kd.b4z HO103.1).2.2|(with_reducible refine Kd.C_alloc ?_ _)|(with_reducible refine Kd.C_drewN ?_ _)|(with_reducible refine Kd.C_drew ?_)));(case side2 => exact (Kd.b4z HO103.1).2.1);rintro e w10 ⟨v107,rfl,ho0,hb⟩;refine ⟨_,rfl,?_⟩;have n0_:=a0z.mk (Kd.c4z (by (with_reducible repeat (first|apply Kd.R_alloc|apply Kd.a4z|apply Kd.a5z));exact HO103.1) (Kd.d1z ho0) hb);have n1_:=a0z.mk (Kd.d5z (Kd.d0z ho0 (Kd.R_lt (by (with_reducible repeat (first|apply Kd.R_alloc|apply Kd.a4z|apply Kd.a5z));exact HO103.1))) (f1z (w:=w) (g:=g) (row:=none) (by repeat (first|(with_reducible first|exact HK.1|apply b9z.set_|apply c5z|apply c7z|apply keep_alloc)|exact HK.1))));have n2_:=a0z.mk (IsS76.below (by repeat (first|(with_reducible first|exact HI0.1|apply IsS76.alloc|apply IsS76.drewN|apply IsS76.drew|apply IsS76.set_1)|exact HI0.1)) hb);have n3_:=a0z.mk (b9z.trans (by repeat (first|(with_reducible first|exact HK.1|apply b9z.set_|apply c5z|apply c7z|apply keep_alloc)|exact HK.1)) (b9z.of_below hb g none) (.inl rfl));have n4_:=a0z.mk (b3z (by repeat (first|(with_reducible first|exact HB.1|apply a3z|apply a1z|apply a2z|refine a6z ?_ (IsS76.ge HI0.1))|exact HB.1)) hb);clear HO103;clear HI0;clear HK;clear HB;have HO103:=n0_;have HO108:=n1_;have HI0:=n2_;have HK:=n3_;have HB:=n4_;clear n0_ n1_ n2_ n3_ n4_;(try clear hb);(try clear hb2);(try clear hk);(try clear hi);(try clear ho0))|((with_reducible refine d4z (N:=13) rfl ?_);refine Kd.R_lit k44 _ 44 ?hg (N:=13) ?hd (xs:=([] : List (S44))) (inner:=[]) (ok:=fun _ => True) (okp:=fun _ => True) ?hr ?hp (fun _ hk => hk) trivial (Below.refl _ _) (Nat.le_refl _) (by simp) ?_;(case hd => rfl);(case hg => rfl);(case hr => first|(go_simp;done)|(go_simp;rfl));(case hp => exact (Reps.none _ _));intro v110 w11 ho12 hb hg_ hnew_;clear hg_ hnew_;(first|rw [← Ny109.1] at ho12|(simp only [Int.reduceToNat] at ho12;rw [← Ny109.1] at ho12));have n0_:=a0z.mk (Kd.c4z (by (with_reducible repeat (first|apply Kd.R_alloc|apply Kd.a4z|apply Kd.a5z));exact HO103.1) (Kd.d1z ho12) hb);have n1_:=a0z.mk (Kd.c4z (by (with_reducible repeat (first|apply Kd.R_alloc|apply Kd.a4z|apply Kd.a5z));exact HO108.1) (Kd.d1z ho12) hb);have n2_:=a0z.mk (Kd.d5z (Kd.d0z (Kd.d0z ho12 (Kd.R_lt (by (with_reducible repeat (first|apply Kd.R_alloc|apply Kd.a4z|apply Kd.a5z));exact HO103.1))) (Kd.R_lt (by (with_reducible repeat (first|apply Kd.R_alloc|apply Kd.a4z|apply Kd.a5z));exact HO108.1))) (f1z (w:=w) (g:=g) (row:=none) (by repeat (first|(with_reducible first|exact HK.1|apply b9z.set_|apply c5z|apply c7z|apply keep_alloc)|exact HK.1))));have n3_:=a0z.mk (IsS76.below (by repeat (first|(with_reducible first|exact HI0.1|apply IsS76.alloc|apply IsS76.drewN|apply IsS76.drew|apply IsS76.set_1)|exact HI0.1)) hb);have n4_:=a0z.mk (b9z.trans (by repeat (first|(with_reducible first|exact HK.1|apply b9z.set_|apply c5z|apply c7z|apply keep_alloc)|exact HK.1)) (b9z.of_below hb g none) (.inl rfl));have n5_:=a0z.mk (b3z (by repeat (first|(with_reducible first|exact HB.1|apply a3z|apply a1z|apply a2z|refine a6z ?_ (IsS76.ge HI0.1))|exact HB.1)) hb);clear HO103;clear HO108;clear HI0;clear HK;clear HB;have HO103:=n0_;have HO108:=n1_;have HO111:=n2_;have HI0:=n3_;have HK:=n4_;have HB:=n5_;clear n0_ n1_ n2_ n3_ n4_ n5_;clear hb ho12))
  go_ret
  exact ⟨_,by first|rfl|(simp [c2z,c1z] <;> rfl)|(simp [*,c2z,c1z] <;> rfl),by (with_reducible repeat (first|apply Kd.R_alloc|apply Kd.a4z|apply Kd.a5z));exact Kd.b5z HO111.1 (fun _ hk => trivial),by repeat (first|(with_reducible first|exact HI0.1|apply IsS76.alloc|apply IsS76.drewN|apply IsS76.drew|apply IsS76.set_1)|exact HI0.1),by repeat (first|(with_reducible first|exact HB.1|apply a3z|apply a1z|apply a2z|refine a6z ?_ (IsS76.ge HI0.1))|exact HB.1),by repeat (first|(with_reducible first|exact HK.1|apply b9z.set_|apply c5z|apply c7z|apply keep_alloc)|exact HK.1)⟩
end Go.Proofs.Ytmdhedkgpgoneaa.Q

namespace Go.Proofs.Ytmdhedkgpgoneaa.Q
open Go.RowKit Go.Proofs.YtmdhedkgpgoneaaW.PrintWords Go.Proofs.YtmdhedkgpgoneaaW.PrintLast Go.Proofs.YtmdhedkgpgoneaaW.PrintMore
attribute [local go_sem] e4z e2z e7z e6z d8z d7z e3z e1z
set_option linter.unusedVariables false
set_option linter.unusedSimpArgs false
def spec_l12AnyBlock.f (k : Nat) (s0_0 : List Int) (s0_1 : Int) : Option (Int × Int × Int):=(spec_l12Block.f k s0_0 s0_1).bind fun bt102 => ((spec_l1Rd_pick.f k s0_0 bt102.2.2 16).bind fun bt106 => (if bt106.1 = 0 then ((spec_l1Rd_one.f k s0_0 bt106.2 (([1,(-1),256] : List Int))).bind fun bt111 => (some (wrap64 (bt102.1 + bt111.1),bt102.2.1,bt111.2))) else (if bt106.1 = 1 then ((spec_l1Rd_one.f k s0_0 bt106.2 (([(-1),33,0,32] : List Int))).bind fun bt116 => (some (bt102.1,bt116.1,bt116.2))) else (some (bt102.1,bt102.2.1,bt106.2)))))
def spec_l12AnyBlock.T4 : Bool × List (List Nat × List Nat):=(true,[([],[]),([0],[0]),([],[]),([],[]),([2,3],[2,3]),([1,4],[1,4]),([0,1,2,3,4,5],[]),([6,5,4,0,1,2,3,4,5],[5,6])])
def spec_l12AnyBlock.B4 : List Nat:=[0,1,0,0,12,31,63,127]
theorem spec_l12AnyBlock.tab4 : rtab .any (opsOf Try.f67 4) = spec_l12AnyBlock.T4:=by kernel_rfl
theorem spec_l12AnyBlock.bits4 : waitsOk spec_l12AnyBlock.T4.2 spec_l12AnyBlock.B4 = true:=by kernel_rfl
set_option maxHeartbeats 8000000 in
set_option maxRecDepth 100000 in
theorem spec_l12AnyBlock.calls (k : Nat) (g : Nat) (s0_0 : List Int) (s0_1 : Int) (r1 : Int) (r2 : Int) (r3 : Int) (w0 w : World) (hI : IsS76 w0 w g s0_0 s0_1) (hB : Below w0.heap.size w0 w) (h : spec_l12AnyBlock.f k s0_0 s0_1 = some (r1,r2,r3)) :
  Calls Try.prog 67 #[.pointer (some ⟨g,0,none⟩)] w fun e w' => e = .returned (.agg #[.int .i64 r1,.int .i64 r2]) ∧ IsS76 w0 w' g s0_0 r3 ∧ Below w0.heap.size w0 w' ∧ b9z w w' g none:=by
 have hu44:=Try.underlying44
 have HI0:=a0z.mk hI
 have HK:=a0z.mk (b9z.refl w g none)
 have HL:=a0z.mk hB.size
 clear hI
 have HW0:=a0z.mk hB.size
 have HB:=a0z.mk hB
 clear hB
 have H : ((spec_l12Block.f k s0_0 s0_1).bind fun bt102 => ((spec_l1Rd_pick.f k s0_0 bt102.2.2 16).bind fun bt106 => (if bt106.1 = 0 then ((spec_l1Rd_one.f k s0_0 bt106.2 (([1,(-1),256] : List Int))).bind fun bt111 => (some (wrap64 (bt102.1 + bt111.1),bt102.2.1,bt111.2))) else (if bt106.1 = 1 then ((spec_l1Rd_one.f k s0_0 bt106.2 (([(-1),33,0,32] : List Int))).bind fun bt116 => (some (bt102.1,bt116.1,bt116.2))) else (some (bt102.1,bt102.2.1,bt106.2)))))) = some (r1,r2,r3):=h
 clear h
 replace H:=Option.bind_eq_some_iff.mp H
 obtain ⟨⟨t102,t103,t104⟩,A20,H⟩:=H
 replace H : ((spec_l1Rd_pick.f k s0_0 t104 16).bind fun bt106 => (if bt106.1 = 0 then ((spec_l1Rd_one.f k s0_0 bt106.2 (([1,(-1),256] : List Int))).bind fun bt111 => (some (wrap64 (t102 + bt111.1),t103,bt111.2))) else (if bt106.1 = 1 then ((spec_l1Rd_one.f k s0_0 bt106.2 (([(-1),33,0,32] : List Int))).bind fun bt116 => (some (t102,bt116.1,bt116.2))) else (some (t102,t103,bt106.2))))) = some (r1,r2,r3):=H
 have A2:=a0z.mk A20
 clear A20
 replace H:=Option.bind_eq_some_iff.mp H
 obtain ⟨⟨t106,t107⟩,A30,H⟩:=H
 replace H : (if t106 = 0 then ((spec_l1Rd_one.f k s0_0 t107 (([1,(-1),256] : List Int))).bind fun bt111 => (some (wrap64 (t102 + bt111.1),t103,bt111.2))) else (if t106 = 1 then ((spec_l1Rd_one.f k s0_0 t107 (([(-1),33,0,32] : List Int))).bind fun bt116 => (some (t102,bt116.1,bt116.2))) else (some (t102,t103,t107)))) = some (r1,r2,r3):=H
 have A3:=a0z.mk A30
 clear A30
 by_cases c4 : t106 = 0
 ·rw [if_pos c4] at H
  have c4b0 : (t106 == 0) = true:=beq_iff_eq.mpr c4
  have c4b1 : (t106 != 0) = false:=bne_eq_false_iff_eq.mpr c4
  clear c4
  obtain ⟨y108,hy108⟩ : ∃ y_ : List Int,y_ = (([1,(-1),256] : List Int)):=⟨_,rfl⟩
  replace H : ((spec_l1Rd_one.f k s0_0 t107 y108).bind fun bt111 => (some (wrap64 (t102 + bt111.1),t103,bt111.2))) = some (r1,r2,r3):=by first|(rw [hy108];with_reducible exact H)|(have H2_:=(Option.bind_some _ _).symm.trans H;rw [hy108];with_reducible exact H2_)|(have H2_:=(Option.bind_some _ _).symm.trans H;with_reducible exact H2_)|with_reducible exact H|(rw [hy108];exact H)|exact H
  have Ny108:=a0z.mk hy108
  clear hy108
  replace H:=Option.bind_eq_some_iff.mp H
  obtain ⟨⟨t111,t112⟩,A50,H⟩:=H
  replace H : (some (wrap64 (t102 + t111),t103,t112)) = some (r1,r2,r3):=H
  have A5:=a0z.mk A50
  clear A50
  simp only [Option.some.injEq,Prod.mk.injEq] at H
  obtain ⟨rfl,rfl,rfl⟩:=H
  go_enter Try.func67,Try.ntmps67
  try go_wp2_with (first|((with_reducible refine d4z (N:=2) rfl ?_);refine e0z ?hg (N:=2) ?hd (cs:=#[.int .i64 0,.int .i64 0]) (t:=44) ?hr ?_;(case hd => rfl);(case hg => rfl);(case hr => first|(go_simp;done)|(go_simp;rfl));intro gb101 hg w6 hbox hb;have n0_:=a0z.mk (IsS76.below (by repeat (first|(with_reducible first|exact HI0.1|apply IsS76.alloc|apply IsS76.drewN|apply IsS76.drew|apply IsS76.set_1)|exact HI0.1)) hb);have n1_:=a0z.mk (b9z.trans (by repeat (first|(with_reducible first|exact HK.1|apply b9z.set_|apply c5z|apply c7z|apply keep_alloc)|exact HK.1)) (b9z.of_below hb g none) (.inl rfl));have n2_:=a0z.mk (b3z (by repeat (first|(with_reducible first|exact HB.1|apply a3z|apply a1z|apply a2z|refine a6z ?_ (IsS76.ge HI0.1))|exact HB.1)) hb);have n3_:=a0z.mk (hbox);have n4_:=a0z.mk ((by rw [hg];exact (f1z (w:=w) (g:=g) (row:=none) (by repeat (first|(with_reducible first|exact HK.1|apply b9z.set_|apply c5z|apply c7z|apply keep_alloc)|exact HK.1))) : w.heap.size ≤ gb101));have n5_:=a0z.mk ((Nat.le_trans HW0.1 (by rw [hg];exact (f1z (w:=w) (g:=g) (row:=none) (by repeat (first|(with_reducible first|exact HK.1|apply b9z.set_|apply c5z|apply c7z|apply keep_alloc)|exact HK.1))) : w.heap.size ≤ gb101) : w0.heap.size ≤ gb101));have n6_:=a0z.mk ((by rw [hg];exact Nat.ne_of_lt (IsS76.lt (show IsS76 w0 _ g s0_0 s0_1 from by repeat (first|(with_reducible first|exact HI0.1|apply IsS76.alloc|apply IsS76.drewN|apply IsS76.drew|apply IsS76.set_1)|exact HI0.1))) : g ≠ gb101));have n7_:=a0z.mk ((by rw [hg];exact Nat.ne_of_gt (IsS76.lt (show IsS76 w0 _ g s0_0 s0_1 from by repeat (first|(with_reducible first|exact HI0.1|apply IsS76.alloc|apply IsS76.drewN|apply IsS76.drew|apply IsS76.set_1)|exact HI0.1))) : gb101 ≠ g));clear HI0;clear HK;clear HB;have HI0:=n0_;have HK:=n1_;have HB:=n2_;have BK101:=n3_;have GW101:=n4_;have GE101:=n5_;have NB0_101:=n6_;have NB101_0:=n7_;clear n0_ n1_ n2_ n3_ n4_ n5_ n6_ n7_;clear hb hbox hg)|((with_reducible refine b8z (f:=78) rfl ?_);refine d2z (some 5) rfl rfl Try.func78 (by kernel_rfl) rfl #[.pointer (some ⟨g,0,none⟩)] rfl (by (try simp only [List.map_toArray,List.map_cons,List.map_nil]);first|done|rfl|(simp only [List.length_drop,List.length_take];rfl)) ?_;(with_reducible refine (spec_l12Block.calls k g s0_0 s0_1 t102 t103 t104 w0 _ ?side1 ?side2 A2.1).mono ?_);(case side1 => repeat (first|(with_reducible first|exact HI0.1|apply IsS76.alloc|apply IsS76.drewN|apply IsS76.drew|apply IsS76.set_1|refine IsS76.far ?_ NB0_101.1 _)|exact HI0.1));(case side2 => repeat (first|(with_reducible first|exact HB.1|apply a3z|apply a1z|apply a2z|refine a6z ?_ (IsS76.ge HI0.1)|refine a6z ?_ GE101.1)|exact HB.1));rintro e w7 ⟨rfl,hi,hb,hk⟩;refine ⟨_,rfl,?_⟩;have n0_:=a0z.mk (b9z.blk hk (g':=gb101) (o:=.cells #[.int .i64 0,.int .i64 0] 44 (0,0)) (by (with_reducible repeat (first|refine a8z ?_ _|refine a9z ?_|refine a7z ?_ _));exact BK101.1) NB101_0.1 (by simp));have n1_:=a0z.mk (b9z.trans (by repeat (first|(with_reducible first|exact HK.1|apply b9z.set_|apply c5z|apply c7z|apply keep_alloc|refine e9z ?_ GW101.1 _)|exact HK.1)) hk (.inl rfl));have n2_:=a0z.mk (hb);have n3_:=a0z.mk (hi);clear BK101;clear HK;clear HB;clear HI0;have BK101:=n0_;have HK:=n1_;have HB:=n2_;have HI0:=n3_;clear n0_ n1_ n2_ n3_;(try clear hb);(try clear hb2);(try clear hk);(try clear hi))|((with_reducible refine d4z (N:=3) rfl ?_);refine e0z ?hg (N:=3) ?hd (cs:=#[.int .i64 0,.int .i64 0]) (t:=44) ?hr ?_;(case hd => rfl);(case hg => rfl);(case hr => first|(go_simp;done)|(go_simp;rfl));intro gb105 hg w8 hbox hb;have n0_:=a0z.mk (IsS76.below (by repeat (first|(with_reducible first|exact HI0.1|apply IsS76.alloc|apply IsS76.drewN|apply IsS76.drew|apply IsS76.set_1|refine IsS76.far ?_ NB0_101.1 _)|exact HI0.1)) hb);have n1_:=a0z.mk (d9z (g:=gb101) (o:=.cells #[.int .i64 0,.int .i64 0] 44 (0,0)) (by (with_reducible repeat (first|refine a8z ?_ _|refine a9z ?_|refine a7z ?_ _));exact BK101.1) hb);have n2_:=a0z.mk (b9z.trans (by repeat (first|(with_reducible first|exact HK.1|apply b9z.set_|apply c5z|apply c7z|apply keep_alloc|refine e9z ?_ GW101.1 _)|exact HK.1)) (b9z.of_below hb g none) (.inl rfl));have n3_:=a0z.mk (b3z (by repeat (first|(with_reducible first|exact HB.1|apply a3z|apply a1z|apply a2z|refine a6z ?_ (IsS76.ge HI0.1)|refine a6z ?_ GE101.1)|exact HB.1)) hb);have n4_:=a0z.mk (hbox);have n5_:=a0z.mk ((by rw [hg];exact (f1z (w:=w) (g:=g) (row:=none) (by repeat (first|(with_reducible first|exact HK.1|apply b9z.set_|apply c5z|apply c7z|apply keep_alloc|refine e9z ?_ GW101.1 _)|exact HK.1))) : w.heap.size ≤ gb105));have n6_:=a0z.mk ((Nat.le_trans HW0.1 (by rw [hg];exact (f1z (w:=w) (g:=g) (row:=none) (by repeat (first|(with_reducible first|exact HK.1|apply b9z.set_|apply c5z|apply c7z|apply keep_alloc|refine e9z ?_ GW101.1 _)|exact HK.1))) : w.heap.size ≤ gb105) : w0.heap.size ≤ gb105));have n7_:=a0z.mk ((by rw [hg];exact Nat.ne_of_lt (g7z (g:=gb101) (o:=.cells #[.int .i64 0,.int .i64 0] 44 (0,0)) (by (with_reducible repeat (first|refine a8z ?_ _|refine a9z ?_|refine a7z ?_ _));exact BK101.1)) : gb101 ≠ gb105));have n8_:=a0z.mk ((by rw [hg];exact Nat.ne_of_gt (g7z (g:=gb101) (o:=.cells #[.int .i64 0,.int .i64 0] 44 (0,0)) (by (with_reducible repeat (first|refine a8z ?_ _|refine a9z ?_|refine a7z ?_ _));exact BK101.1)) : gb105 ≠ gb101));have n9_:=a0z.mk ((by rw [hg];exact Nat.ne_of_lt (IsS76.lt (show IsS76 w0 _ g s0_0 t104 from by repeat (first|(with_reducible first|exact HI0.1|apply IsS76.alloc|apply IsS76.drewN|apply IsS76.drew|apply IsS76.set_1|refine IsS76.far ?_ NB0_101.1 _)|exact HI0.1))) : g ≠ gb105));have n10_:=a0z.mk ((by rw [hg];exact Nat.ne_of_gt (IsS76.lt (show IsS76 w0 _ g s0_0 t104 from by repeat (first|(with_reducible first|exact HI0.1|apply IsS76.alloc|apply IsS76.drewN|apply IsS76.drew|apply IsS76.set_1|refine IsS76.far ?_ NB0_101.1 _)|exact HI0.1))) : gb105 ≠ g));clear HI0;clear BK101;clear HK;clear HB;have HI0:=n0_;have BK101:=n1_;have HK:=n2_;have HB:=n3_;have BK105:=n4_;have GW105:=n5_;have GE105:=n6_;have NB101_105:=n7_;have NB105_101:=n8_;have NB0_105:=n9_;have NB105_0:=n10_;clear n0_ n1_ n2_ n3_ n4_ n5_ n6_ n7_ n8_ n9_ n10_;clear hb hbox hg;have hnb9:=NB105_101.1;have hnc9:=NB101_105.1;have hnb10:=NB105_0.1;have hnc10:=NB0_105.1;have hcz11_0 : w8.cell? ⟨gb105,0,none⟩ = some (.int .i64 0):=(b2z BK105.1 0).trans rfl;have hcz11_1 : w8.cell? ⟨gb105,1,none⟩ = some (.int .i64 0):=(b2z BK105.1 1).trans rfl;have hfz11_0:=b7z BK105.1 0;have hfz11_1:=b7z BK105.1 1)|((with_reducible refine b8z (f:=64) rfl ?_);refine d2z (some 7) rfl rfl Try.func64 (by kernel_rfl) rfl #[.pointer (some ⟨g,0,none⟩),.int .i64 16] rfl (by (try simp only [List.map_toArray,List.map_cons,List.map_nil]);first|done|rfl|(simp only [List.length_drop,List.length_take];rfl)) ?_;(with_reducible refine (spec_l1Rd_pick.calls k g s0_0 t104 16 t106 t107 w0 _ ?side1 ?side2 A3.1).mono ?_);(case side1 => repeat (first|(with_reducible first|exact HI0.1|apply IsS76.alloc|apply IsS76.drewN|apply IsS76.drew|apply IsS76.set_1|refine IsS76.far ?_ NB0_101.1 _|refine IsS76.far ?_ NB0_105.1 _)|exact HI0.1));(case side2 => repeat (first|(with_reducible first|exact HB.1|apply a3z|apply a1z|apply a2z|refine a6z ?_ (IsS76.ge HI0.1)|refine a6z ?_ GE101.1|refine a6z ?_ GE105.1)|exact HB.1));rintro e w12 ⟨rfl,hi,hb,hk⟩;refine ⟨_,rfl,?_⟩;have n0_:=a0z.mk (b9z.blk hk (g':=gb101) (o:=.cells #[.int .i64 0,.int .i64 0] 44 (0,0)) (by (with_reducible repeat (first|refine a8z ?_ _|refine a9z ?_|refine a7z ?_ _));refine f6z ?_ NB101_105.1 _;(with_reducible repeat (first|refine a8z ?_ _|refine a9z ?_|refine a7z ?_ _));refine f6z ?_ NB101_105.1 _;(with_reducible repeat (first|refine a8z ?_ _|refine a9z ?_|refine a7z ?_ _));exact BK101.1) NB101_0.1 (by simp));have n1_:=a0z.mk (b9z.blk hk (g':=gb105) (o:=.cells #[.int .i64 t102,.int .i64 t103] 44 (0,0)) (by (with_reducible repeat (first|refine a8z ?_ _|refine a9z ?_|refine a7z ?_ _));refine d6z (cs:=#[.int .i64 t102,.int .i64 0]) ?_ 1 _ rfl;(with_reducible repeat (first|refine a8z ?_ _|refine a9z ?_|refine a7z ?_ _));refine d6z (cs:=#[.int .i64 0,.int .i64 0]) ?_ 0 _ rfl;(with_reducible repeat (first|refine a8z ?_ _|refine a9z ?_|refine a7z ?_ _));exact BK105.1) NB105_0.1 (by simp));have n2_:=a0z.mk (b9z.trans (by repeat (first|(with_reducible first|exact HK.1|apply b9z.set_|apply c5z|apply c7z|apply keep_alloc|refine e9z ?_ GW101.1 _|refine e9z ?_ GW105.1 _)|exact HK.1)) hk (.inl rfl));have n3_:=a0z.mk (hb);have n4_:=a0z.mk (hi);clear BK101;clear BK105;clear HK;clear HB;clear HI0;have BK101:=n0_;have BK105:=n1_;have HK:=n2_;have HB:=n3_;have HI0:=n4_;clear n0_ n1_ n2_ n3_ n4_;(try clear hb);(try clear hb2);(try clear hk);(try clear hi)))
  have n0_:=a0z.mk (a9z BK101.1)
  have n1_:=a0z.mk (a9z BK105.1)
  have n2_:=a0z.mk (IsS76.drew HI0.1)
  have n3_:=a0z.mk (c7z HK.1)
  have n4_:=a0z.mk (a2z HB.1)
  clear BK101
  clear BK105
  clear HI0
  clear HK
  clear HB
  have BK101:=n0_
  have BK105:=n1_
  have HI0:=n2_
  have HK:=n3_
  have HB:=n4_
  clear n0_ n1_ n2_ n3_ n4_
  refine g9z (n:=8) (S:=fun w' => w'.cell? ⟨gb105,0,none⟩ = some (.int .i64 t102) ∧ w'.cell? ⟨gb105,1,none⟩ = some (.int .i64 t103)) (ds:=[7]) #[false,false,false,false,false,false,false,false] (by kernel_rfl) rfl rfl ⟨(b2z BK105.1 0).trans rfl,(b2z BK105.1 1).trans rfl⟩ (fun hHeld => ?_);refine f8z spec_l12AnyBlock.tab4 spec_l12AnyBlock.bits4 (fun HT_ HW_ => ?_)
  generalize w12.drew = w13 at BK101 BK105 HI0 HK HB hHeld ⊢
  refine pure_ (i:=0) (N:=some 10) (v:=?_) (a':=?_) #[true,false,false,false,false,false,false,false] rfl rfl (c0z HT_.1 (by kernel_rfl)) (fun _ _ _ h => h) (Or.inl ⟨by rfl,?_⟩) ?_ ?_
  rotate_left
  ·intro w'
   go_simp
   with_reducible rfl
  rotate_left
  ·simp only [Act.put,sA_,sZ_,sS_,i64_w,i32_w]
   rfl
  refine pure_ (i:=2) (N:=some 12) (v:=?_) (a':=?_) #[true,false,true,false,false,false,false,false] rfl rfl (c0z HT_.1 (by kernel_rfl)) (fun _ _ _ h => h) (Or.inl ⟨by rfl,?_⟩) ?_ ?_
  rotate_left
  ·intro w'
   go_simp
   with_reducible rfl
  rotate_left
  ·simp only [Act.put,sA_,sZ_,sS_,i64_w,i32_w]
   rfl
  refine take_ (i:=1) (N:=some 11) (v:=?_) (a':=?_) #[true,true,true,false,false,false,false,false] rfl rfl (f3z HT_.1 HW_.1 (by kernel_rfl)) (fun _ _ _ h => h) (Or.inl ⟨by rfl,?_⟩) hHeld ?_ ?_
  rotate_left
  ·rintro w' ⟨s0,s1⟩
   go_simp
   with_reducible rfl
  rotate_left
  ·simp only [Act.put,sA_,sZ_,sS_,i64_w,i32_w]
   rfl
  refine one_ (i:=3) (N:=some 13) #[true,true,true,true,false,false,false,false] rfl rfl (f9z HT_.1 (by kernel_rfl)) (by decide) (fun K hK => ?_)
  refine Kd.h3z (Kd.int .i64) _ 3 ?hg (N:=13) ?hd (xs:=([1,(-1),256] : List Int)) (inner:=[.int .i64 1,.int .i64 (-1),.int .i64 256]) (ok:=fun _ => True) (okp:=fun _ => True) ?hr ?hp (fun _ hk => hk) trivial (Below.refl _ _) (Nat.le_refl _) (by simp) ?_;(case hd => rfl);(case hg => rfl);(case hr => first|(go_simp;done)|(go_simp;rfl));(case hp => exact (Reps.one (show Kd.M (Kd.int .i64) _ _ _ 1 [.int .i64 1] from rfl) (Reps.one (show Kd.M (Kd.int .i64) _ _ _ (-1) [.int .i64 (-1)] from rfl) (Reps.one (show Kd.M (Kd.int .i64) _ _ _ 256 [.int .i64 256] from rfl) (Reps.none _ _)))))
  intro v109 w14 ho15 hb hg_ hnew_
  clear hg_ hnew_
  (first|rw [← Ny108.1] at ho15|(simp only [Int.reduceToNat] at ho15;rw [← Ny108.1] at ho15))
  have n0_:=a0z.mk (Kd.d5z ho15 (f1z (w:=w) (g:=g) (row:=none) (by repeat (first|(with_reducible first|exact HK.1|apply b9z.set_|apply c5z|apply c7z|apply keep_alloc|refine e9z ?_ GW101.1 _|refine e9z ?_ GW105.1 _)|exact HK.1))))
  have n1_:=a0z.mk (IsS76.below (by repeat (first|(with_reducible first|exact HI0.1|apply IsS76.alloc|apply IsS76.drewN|apply IsS76.drew|apply IsS76.set_1|refine IsS76.far ?_ NB0_101.1 _|refine IsS76.far ?_ NB0_105.1 _)|exact HI0.1)) hb)
  have n2_:=a0z.mk (d9z (g:=gb101) (o:=.cells #[.int .i64 0,.int .i64 0] 44 (0,0)) (by (with_reducible repeat (first|refine a8z ?_ _|refine a9z ?_|refine a7z ?_ _));exact BK101.1) hb)
  have n3_:=a0z.mk (d9z (g:=gb105) (o:=.cells #[.int .i64 t102,.int .i64 t103] 44 (0,0)) (by (with_reducible repeat (first|refine a8z ?_ _|refine a9z ?_|refine a7z ?_ _));exact BK105.1) hb)
  have n4_:=a0z.mk (b9z.trans (by repeat (first|(with_reducible first|exact HK.1|apply b9z.set_|apply c5z|apply c7z|apply keep_alloc|refine e9z ?_ GW101.1 _|refine e9z ?_ GW105.1 _)|exact HK.1)) (b9z.of_below hb g none) (.inl rfl))
  have n5_:=a0z.mk (b3z (by repeat (first|(with_reducible first|exact HB.1|apply a3z|apply a1z|apply a2z|refine a6z ?_ (IsS76.ge HI0.1)|refine a6z ?_ GE101.1|refine a6z ?_ GE105.1)|exact HB.1)) hb)
  clear HI0
  clear BK101
  clear BK105
  clear HK
  clear HB
  have HO110:=n0_
  have HI0:=n1_
  have BK101:=n2_
  have BK105:=n3_
  have HK:=n4_
  have HB:=n5_
  clear n0_ n1_ n2_ n3_ n4_ n5_
  clear hb ho15
  obtain ⟨Ao16,co16,eo16⟩:=Kd.d3z HO110.1
  (first|subst eo16|(injection eo16 with f1_ f2_ f3_;have f4_:=f1_.symm;have f5_:=f3_.symm;clear f1_ f2_ f3_;subst f4_;subst f5_))
  refine hK.out _ _ ⟨(b2z BK105.1 0).trans rfl,(b2z BK105.1 1).trans rfl⟩ (fun hHeld => ?_)
  clear hK K
  refine norm_ (a':=?_) ?_ ?_
  rotate_left
  ·show Act.put _ (some 13) _ = _
   simp only [Act.put,sA_,sZ_,sS_,i64_w,i32_w]
   rfl
  refine one_ (i:=4) (N:=some 14) #[true,true,true,true,true,false,false,false] rfl rfl (f9z HT_.1 (by kernel_rfl)) (by decide) (fun K hK => ?_)
  refine goes_ Try.func79 (by kernel_rfl) rfl #[.pointer (some ⟨g,0,none⟩),.slice Ao16 y108.length co16] (by rfl) rfl rfl (by (try simp only [List.map_toArray,List.map_cons,List.map_nil]);first|done|rfl|(simp only [List.length_drop,List.length_take];rfl)) ?_
  with_reducible refine (spec_l1Rd_one.calls k g s0_0 t107 _ _ y108 t111 t112 w0 _ ?side1 ?side2 ?side3 ?side4 ?side5 A5.1).mono ?_
  (case side1 => repeat (first|(with_reducible first|exact HI0.1|apply IsS76.alloc|apply IsS76.drewN|apply IsS76.drew|apply IsS76.set_1|refine IsS76.far ?_ NB0_101.1 _|refine IsS76.far ?_ NB0_105.1 _)|exact HI0.1))
  (case side2 => repeat (first|(with_reducible first|exact HB.1|apply a3z|apply a1z|apply a2z|refine a6z ?_ (IsS76.ge HI0.1)|refine a6z ?_ GE101.1|refine a6z ?_ GE105.1)|exact HB.1))
  (case side3 => repeat (first|exact (Kd.b4z HO110.1).2.2|(with_reducible refine Kd.C_alloc ?_ _)|(with_reducible refine Kd.C_drewN ?_ _)|(with_reducible refine Kd.C_drew ?_)))
  (case side4 => exact (Kd.b4z HO110.1).2.1)
  (case side5 => exact far_slice (IsS76.own_ne HI0.1 HO110.1 (by decide)))
  rintro e w17 ⟨rfl,hi,hb,hk⟩
  refine ⟨_,rfl,?_⟩
  have n0_:=a0z.mk (b9z.blk hk (g':=gb101) (o:=.cells #[.int .i64 0,.int .i64 0] 44 (0,0)) (by (with_reducible repeat (first|refine a8z ?_ _|refine a9z ?_|refine a7z ?_ _));exact BK101.1) NB101_0.1 (by simp))
  have n1_:=a0z.mk (b9z.blk hk (g':=gb105) (o:=.cells #[.int .i64 t102,.int .i64 t103] 44 (0,0)) (by (with_reducible repeat (first|refine a8z ?_ _|refine a9z ?_|refine a7z ?_ _));exact BK105.1) NB105_0.1 (by simp))
  have n2_:=a0z.mk (Kd.b5z (Kd.R_keep (IsS76.apart (show IsS76 w0 _ g s0_0 t107 from by repeat (first|(with_reducible first|exact HI0.1|apply IsS76.alloc|apply IsS76.drewN|apply IsS76.drew|apply IsS76.set_1|refine IsS76.far ?_ NB0_101.1 _|refine IsS76.far ?_ NB0_105.1 _)|exact HI0.1)) (by (with_reducible repeat (first|apply Kd.R_alloc|apply Kd.a4z|apply Kd.a5z));exact HO110.1) (by decide)) hk (fun _ h => h.2)) (fun _ h => h.1))
  have n3_:=a0z.mk (b9z.trans (by repeat (first|(with_reducible first|exact HK.1|apply b9z.set_|apply c5z|apply c7z|apply keep_alloc|refine e9z ?_ GW101.1 _|refine e9z ?_ GW105.1 _)|exact HK.1)) hk (.inl rfl))
  have n4_:=a0z.mk (hb)
  have n5_:=a0z.mk (hi)
  clear BK101
  clear BK105
  clear HO110
  clear HK
  clear HB
  clear HI0
  have BK101:=n0_
  have BK105:=n1_
  have HO110:=n2_
  have HK:=n3_
  have HB:=n4_
  have HI0:=n5_
  clear n0_ n1_ n2_ n3_ n4_ n5_
  (try clear hb)
  (try clear hb2)
  (try clear hk)
  (try clear hi)
  refine hK.out _ _ ⟨(b2z BK105.1 0).trans rfl,(b2z BK105.1 1).trans rfl⟩ (fun hHeld => ?_)
  clear hK K
  refine norm_ (a':=?_) ?_ ?_
  rotate_left
  ·show Act.put _ (some 14) _ = _
   simp only [Act.put,sA_,sZ_,sS_,i64_w,i32_w]
   rfl
  refine pure_ (i:=5) (N:=some 15) (v:=?_) (a':=?_) #[true,true,true,true,true,true,false,false] rfl rfl (c0z HT_.1 (by kernel_rfl)) (fun _ _ _ h => h) (Or.inl ⟨by rfl,?_⟩) ?_ ?_
  rotate_left
  ·intro w'
   go_simp
   with_reducible rfl
  rotate_left
  ·simp only [Act.put,sA_,sZ_,sS_,i64_w,i32_w]
   rfl
  refine pure_ (i:=6) (N:=some 16) (v:=?_) (a':=?_) #[true,true,true,true,true,true,true,false] rfl rfl (c0z HT_.1 (by kernel_rfl)) (fun _ _ _ h => h) (Or.inl ⟨by rfl,?_⟩) ?_ ?_
  rotate_left
  ·intro w'
   go_simp
   with_reducible rfl
  rotate_left
  ·simp only [Act.put,sA_,sZ_,sS_,i64_w,i32_w]
   rfl
  refine last_ (i:=7) (N:=none) #[true,true,true,true,true,true,true,true] rfl rfl (f9z HT_.1 (by kernel_rfl)) (by decide) (fun K hK => ?_)
  have hs18 : w17.cell? ⟨gb105,0,none⟩ = some (.int .i64 t102):=(b2z BK105.1 0).trans rfl
  have hfs18:=b7z BK105.1 0
  have hns18_0:=NB101_105.1
  have hms18_0:=NB105_101.1
  refine skip_ (w1:=?_) (by rfl) rfl ?_ ?_
  rotate_left
  ·go_simp
   rfl
  refine hK.out _ _ ?_
  clear hK K
  refine done_ (g5z HT_.1 (by kernel_rfl)) ?_
  have hcz19_0 : w17.cell? ⟨gb105,0,none⟩ = some (.int .i64 t102):=(b2z BK105.1 0).trans rfl
  have hcz19_1 : w17.cell? ⟨gb105,1,none⟩ = some (.int .i64 t103):=(b2z BK105.1 1).trans rfl
  have hfz19_0:=b7z BK105.1 0
  have hfz19_1:=b7z BK105.1 1
  have hnb20:=NB101_0.1
  have hnc20:=NB0_101.1
  have hcz21_0 : w17.cell? ⟨gb101,0,none⟩ = some (.int .i64 0):=(b2z BK101.1 0).trans rfl
  have hcz21_1 : w17.cell? ⟨gb101,1,none⟩ = some (.int .i64 0):=(b2z BK101.1 1).trans rfl
  have hfz21_0:=b7z BK101.1 0
  have hfz21_1:=b7z BK101.1 1
  try go_wp2
  refine bodyPost_ret (results_cell_row rfl _ _ gb101 44 #[.int .i64 (wrap64 (t102 + t111)),.int .i64 t103] (0,0) _ rfl (by (with_reducible repeat (first|refine a8z ?_ _|refine a9z ?_|refine a7z ?_ _));refine d6z (cs:=#[.int .i64 (wrap64 (t102 + t111)),.int .i64 0]) ?_ 1 _ rfl;(with_reducible repeat (first|refine a8z ?_ _|refine a9z ?_|refine a7z ?_ _));refine d6z (cs:=#[.int .i64 0,.int .i64 0]) ?_ 0 _ rfl;(with_reducible repeat (first|refine a8z ?_ _|refine a9z ?_|refine a7z ?_ _));refine f6z ?_ NB101_105.1 _;(with_reducible repeat (first|refine a8z ?_ _|refine a9z ?_|refine a7z ?_ _));exact BK101.1) Try.underlying44 rfl (by kernel_rfl)) rfl ?_
  exact ⟨by first|rfl|(simp [c2z,c1z] <;> rfl)|(simp [*,c2z,c1z] <;> rfl),by repeat (first|(with_reducible first|exact HI0.1|apply IsS76.alloc|apply IsS76.drewN|apply IsS76.drew|apply IsS76.set_1|refine IsS76.far ?_ NB0_101.1 _|refine IsS76.far ?_ NB0_105.1 _)|exact HI0.1),by repeat (first|(with_reducible first|exact HB.1|apply a3z|apply a1z|apply a2z|refine a6z ?_ (IsS76.ge HI0.1)|refine a6z ?_ GE101.1|refine a6z ?_ GE105.1)|exact HB.1),by repeat (first|(with_reducible first|exact HK.1|apply b9z.set_|apply c5z|apply c7z|apply keep_alloc|refine e9z ?_ GW101.1 _|refine e9z ?_ GW105.1 _)|exact HK.1)⟩
 ·rw [if_neg c4] at H
  have c4b0 : (t106 == 0) = false:=beq_eq_false_iff_ne.mpr c4
  have c4b1 : (t106 != 0) = true:=bne_iff_ne.mpr c4
  by_cases c22 : t106 = 1
  ·rw [if_pos c22] at H
   have c22b0 : (t106 == 1) = true:=beq_iff_eq.mpr c22
   have c22b1 : (t106 != 1) = false:=bne_eq_false_iff_eq.mpr c22
   clear c22
   obtain ⟨y113,hy113⟩ : ∃ y_ : List Int,y_ = (([(-1),33,0,32] : List Int)):=⟨_,rfl⟩
   replace H : ((spec_l1Rd_one.f k s0_0 t107 y113).bind fun bt116 => (some (t102,bt116.1,bt116.2))) = some (r1,r2,r3):=by first|(rw [hy113];with_reducible exact H)|(have H2_:=(Option.bind_some _ _).symm.trans H;rw [hy113];with_reducible exact H2_)|(have H2_:=(Option.bind_some _ _).symm.trans H;with_reducible exact H2_)|with_reducible exact H|(rw [hy113];exact H)|exact H
   have Ny113:=a0z.mk hy113
   clear hy113
   replace H:=Option.bind_eq_some_iff.mp H
   obtain ⟨⟨t116,t117⟩,A230,H⟩:=H
   replace H : (some (t102,t116,t117)) = some (r1,r2,r3):=H
   have A23:=a0z.mk A230
   clear A230
   simp only [Option.some.injEq,Prod.mk.injEq] at H
   obtain ⟨rfl,rfl,rfl⟩:=H
   go_enter Try.func67,Try.ntmps67
   go_wp2_with (first|((with_reducible refine d4z (N:=2) rfl ?_);refine e0z ?hg (N:=2) ?hd (cs:=#[.int .i64 0,.int .i64 0]) (t:=44) ?hr ?_;(case hd => rfl);(case hg => rfl);(case hr => first|(go_simp;done)|(go_simp;rfl));intro gb101 hg w24 hbox hb;have n0_:=a0z.mk (IsS76.below (by repeat (first|(with_reducible first|exact HI0.1|apply IsS76.alloc|apply IsS76.drewN|apply IsS76.drew|apply IsS76.set_1)|exact HI0.1)) hb);have n1_:=a0z.mk (b9z.trans (by repeat (first|(with_reducible first|exact HK.1|apply b9z.set_|apply c5z|apply c7z|apply keep_alloc)|exact HK.1)) (b9z.of_below hb g none) (.inl rfl));have n2_:=a0z.mk (b3z (by repeat (first|(with_reducible first|exact HB.1|apply a3z|apply a1z|apply a2z|refine a6z ?_ (IsS76.ge HI0.1))|exact HB.1)) hb);have n3_:=a0z.mk (hbox);have n4_:=a0z.mk ((by rw [hg];exact (f1z (w:=w) (g:=g) (row:=none) (by repeat (first|(with_reducible first|exact HK.1|apply b9z.set_|apply c5z|apply c7z|apply keep_alloc)|exact HK.1))) : w.heap.size ≤ gb101));have n5_:=a0z.mk ((Nat.le_trans HW0.1 (by rw [hg];exact (f1z (w:=w) (g:=g) (row:=none) (by repeat (first|(with_reducible first|exact HK.1|apply b9z.set_|apply c5z|apply c7z|apply keep_alloc)|exact HK.1))) : w.heap.size ≤ gb101) : w0.heap.size ≤ gb101));have n6_:=a0z.mk ((by rw [hg];exact Nat.ne_of_lt (IsS76.lt (show IsS76 w0 _ g s0_0 s0_1 from by repeat (first|(with_reducible first|exact HI0.1|apply IsS76.alloc|apply IsS76.drewN|apply IsS76.drew|apply IsS76.set_1)|exact HI0.1))) : g ≠ gb101));have n7_:=a0z.mk ((by rw [hg];exact Nat.ne_of_gt (IsS76.lt (show IsS76 w0 _ g s0_0 s0_1 from by repeat (first|(with_reducible first|exact HI0.1|apply IsS76.alloc|apply IsS76.drewN|apply IsS76.drew|apply IsS76.set_1)|exact HI0.1))) : gb101 ≠ g));clear HI0;clear HK;clear HB;have HI0:=n0_;have HK:=n1_;have HB:=n2_;have BK101:=n3_;have GW101:=n4_;have GE101:=n5_;have NB0_101:=n6_;have NB101_0:=n7_;clear n0_ n1_ n2_ n3_ n4_ n5_ n6_ n7_;clear hb hbox hg)|((with_reducible refine b8z (f:=78) rfl ?_);refine d2z (some 5) rfl rfl Try.func78 (by kernel_rfl) rfl #[.pointer (some ⟨g,0,none⟩)] rfl (by (try simp only [List.map_toArray,List.map_cons,List.map_nil]);first|done|rfl|(simp only [List.length_drop,List.length_take];rfl)) ?_;(with_reducible refine (spec_l12Block.calls k g s0_0 s0_1 t102 t103 t104 w0 _ ?side1 ?side2 A2.1).mono ?_);(case side1 => repeat (first|(with_reducible first|exact HI0.1|apply IsS76.alloc|apply IsS76.drewN|apply IsS76.drew|apply IsS76.set_1|refine IsS76.far ?_ NB0_101.1 _)|exact HI0.1));(case side2 => repeat (first|(with_reducible first|exact HB.1|apply a3z|apply a1z|apply a2z|refine a6z ?_ (IsS76.ge HI0.1)|refine a6z ?_ GE101.1)|exact HB.1));rintro e w25 ⟨rfl,hi,hb,hk⟩;refine ⟨_,rfl,?_⟩;have n0_:=a0z.mk (b9z.blk hk (g':=gb101) (o:=.cells #[.int .i64 0,.int .i64 0] 44 (0,0)) (by (with_reducible repeat (first|refine a8z ?_ _|refine a9z ?_|refine a7z ?_ _));exact BK101.1) NB101_0.1 (by simp));have n1_:=a0z.mk (b9z.trans (by repeat (first|(with_reducible first|exact HK.1|apply b9z.set_|apply c5z|apply c7z|apply keep_alloc|refine e9z ?_ GW101.1 _)|exact HK.1)) hk (.inl rfl));have n2_:=a0z.mk (hb);have n3_:=a0z.mk (hi);clear BK101;clear HK;clear HB;clear HI0;have BK101:=n0_;have HK:=n1_;have HB:=n2_;have HI0:=n3_;clear n0_ n1_ n2_ n3_;(try clear hb);(try clear hb2);(try clear hk);(try clear hi))|((with_reducible refine d4z (N:=3) rfl ?_);refine e0z ?hg (N:=3) ?hd (cs:=#[.int .i64 0,.int .i64 0]) (t:=44) ?hr ?_;(case hd => rfl);(case hg => rfl);(case hr => first|(go_simp;done)|(go_simp;rfl));intro gb105 hg w26 hbox hb;have n0_:=a0z.mk (IsS76.below (by repeat (first|(with_reducible first|exact HI0.1|apply IsS76.alloc|apply IsS76.drewN|apply IsS76.drew|apply IsS76.set_1|refine IsS76.far ?_ NB0_101.1 _)|exact HI0.1)) hb);have n1_:=a0z.mk (d9z (g:=gb101) (o:=.cells #[.int .i64 0,.int .i64 0] 44 (0,0)) (by (with_reducible repeat (first|refine a8z ?_ _|refine a9z ?_|refine a7z ?_ _));exact BK101.1) hb);have n2_:=a0z.mk (b9z.trans (by repeat (first|(with_reducible first|exact HK.1|apply b9z.set_|apply c5z|apply c7z|apply keep_alloc|refine e9z ?_ GW101.1 _)|exact HK.1)) (b9z.of_below hb g none) (.inl rfl));have n3_:=a0z.mk (b3z (by repeat (first|(with_reducible first|exact HB.1|apply a3z|apply a1z|apply a2z|refine a6z ?_ (IsS76.ge HI0.1)|refine a6z ?_ GE101.1)|exact HB.1)) hb);have n4_:=a0z.mk (hbox);have n5_:=a0z.mk ((by rw [hg];exact (f1z (w:=w) (g:=g) (row:=none) (by repeat (first|(with_reducible first|exact HK.1|apply b9z.set_|apply c5z|apply c7z|apply keep_alloc|refine e9z ?_ GW101.1 _)|exact HK.1))) : w.heap.size ≤ gb105));have n6_:=a0z.mk ((Nat.le_trans HW0.1 (by rw [hg];exact (f1z (w:=w) (g:=g) (row:=none) (by repeat (first|(with_reducible first|exact HK.1|apply b9z.set_|apply c5z|apply c7z|apply keep_alloc|refine e9z ?_ GW101.1 _)|exact HK.1))) : w.heap.size ≤ gb105) : w0.heap.size ≤ gb105));have n7_:=a0z.mk ((by rw [hg];exact Nat.ne_of_lt (g7z (g:=gb101) (o:=.cells #[.int .i64 0,.int .i64 0] 44 (0,0)) (by (with_reducible repeat (first|refine a8z ?_ _|refine a9z ?_|refine a7z ?_ _));exact BK101.1)) : gb101 ≠ gb105));have n8_:=a0z.mk ((by rw [hg];exact Nat.ne_of_gt (g7z (g:=gb101) (o:=.cells #[.int .i64 0,.int .i64 0] 44 (0,0)) (by (with_reducible repeat (first|refine a8z ?_ _|refine a9z ?_|refine a7z ?_ _));exact BK101.1)) : gb105 ≠ gb101));have n9_:=a0z.mk ((by rw [hg];exact Nat.ne_of_lt (IsS76.lt (show IsS76 w0 _ g s0_0 t104 from by repeat (first|(with_reducible first|exact HI0.1|apply IsS76.alloc|apply IsS76.drewN|apply IsS76.drew|apply IsS76.set_1|refine IsS76.far ?_ NB0_101.1 _)|exact HI0.1))) : g ≠ gb105));have n10_:=a0z.mk ((by rw [hg];exact Nat.ne_of_gt (IsS76.lt (show IsS76 w0 _ g s0_0 t104 from by repeat (first|(with_reducible first|exact HI0.1|apply IsS76.alloc|apply IsS76.drewN|apply IsS76.drew|apply IsS76.set_1|refine IsS76.far ?_ NB0_101.1 _)|exact HI0.1))) : gb105 ≠ g));clear HI0;clear BK101;clear HK;clear HB;have HI0:=n0_;have BK101:=n1_;have HK:=n2_;have HB:=n3_;have BK105:=n4_;have GW105:=n5_;have GE105:=n6_;have NB101_105:=n7_;have NB105_101:=n8_;have NB0_105:=n9_;have NB105_0:=n10_;clear n0_ n1_ n2_ n3_ n4_ n5_ n6_ n7_ n8_ n9_ n10_;clear hb hbox hg;have hnb27:=NB105_101.1;have hnc27:=NB101_105.1;have hnb28:=NB105_0.1;have hnc28:=NB0_105.1;have hcz29_0 : w26.cell? ⟨gb105,0,none⟩ = some (.int .i64 0):=(b2z BK105.1 0).trans rfl;have hcz29_1 : w26.cell? ⟨gb105,1,none⟩ = some (.int .i64 0):=(b2z BK105.1 1).trans rfl;have hfz29_0:=b7z BK105.1 0;have hfz29_1:=b7z BK105.1 1)|((with_reducible refine b8z (f:=64) rfl ?_);refine d2z (some 7) rfl rfl Try.func64 (by kernel_rfl) rfl #[.pointer (some ⟨g,0,none⟩),.int .i64 16] rfl (by (try simp only [List.map_toArray,List.map_cons,List.map_nil]);first|done|rfl|(simp only [List.length_drop,List.length_take];rfl)) ?_;(with_reducible refine (spec_l1Rd_pick.calls k g s0_0 t104 16 t106 t107 w0 _ ?side1 ?side2 A3.1).mono ?_);(case side1 => repeat (first|(with_reducible first|exact HI0.1|apply IsS76.alloc|apply IsS76.drewN|apply IsS76.drew|apply IsS76.set_1|refine IsS76.far ?_ NB0_101.1 _|refine IsS76.far ?_ NB0_105.1 _)|exact HI0.1));(case side2 => repeat (first|(with_reducible first|exact HB.1|apply a3z|apply a1z|apply a2z|refine a6z ?_ (IsS76.ge HI0.1)|refine a6z ?_ GE101.1|refine a6z ?_ GE105.1)|exact HB.1));rintro e w30 ⟨rfl,hi,hb,hk⟩;refine ⟨_,rfl,?_⟩;have n0_:=a0z.mk (b9z.blk hk (g':=gb101) (o:=.cells #[.int .i64 0,.int .i64 0] 44 (0,0)) (by (with_reducible repeat (first|refine a8z ?_ _|refine a9z ?_|refine a7z ?_ _));refine f6z ?_ NB101_105.1 _;(with_reducible repeat (first|refine a8z ?_ _|refine a9z ?_|refine a7z ?_ _));refine f6z ?_ NB101_105.1 _;(with_reducible repeat (first|refine a8z ?_ _|refine a9z ?_|refine a7z ?_ _));exact BK101.1) NB101_0.1 (by simp));have n1_:=a0z.mk (b9z.blk hk (g':=gb105) (o:=.cells #[.int .i64 t102,.int .i64 t103] 44 (0,0)) (by (with_reducible repeat (first|refine a8z ?_ _|refine a9z ?_|refine a7z ?_ _));refine d6z (cs:=#[.int .i64 t102,.int .i64 0]) ?_ 1 _ rfl;(with_reducible repeat (first|refine a8z ?_ _|refine a9z ?_|refine a7z ?_ _));refine d6z (cs:=#[.int .i64 0,.int .i64 0]) ?_ 0 _ rfl;(with_reducible repeat (first|refine a8z ?_ _|refine a9z ?_|refine a7z ?_ _));exact BK105.1) NB105_0.1 (by simp));have n2_:=a0z.mk (b9z.trans (by repeat (first|(with_reducible first|exact HK.1|apply b9z.set_|apply c5z|apply c7z|apply keep_alloc|refine e9z ?_ GW101.1 _|refine e9z ?_ GW105.1 _)|exact HK.1)) hk (.inl rfl));have n3_:=a0z.mk (hb);have n4_:=a0z.mk (hi);clear BK101;clear BK105;clear HK;clear HB;clear HI0;have BK101:=n0_;have BK105:=n1_;have HK:=n2_;have HB:=n3_;have HI0:=n4_;clear n0_ n1_ n2_ n3_ n4_;(try clear hb);(try clear hb2);(try clear hk);(try clear hi))|((with_reducible refine d4z (N:=20) rfl ?_);refine Kd.R_lit (Kd.int .i64) _ 3 ?hg (N:=20) ?hd (xs:=([(-1),33,0,32] : List Int)) (inner:=[.int .i64 (-1),.int .i64 33,.int .i64 0,.int .i64 32]) (ok:=fun _ => True) (okp:=fun _ => True) ?hr ?hp (fun _ hk => hk) trivial (Below.refl _ _) (Nat.le_refl _) (by simp) ?_;(case hd => rfl);(case hg => rfl);(case hr => first|(go_simp;done)|(go_simp;rfl));(case hp => exact (Reps.one (show Kd.M (Kd.int .i64) _ _ _ (-1) [.int .i64 (-1)] from rfl) (Reps.one (show Kd.M (Kd.int .i64) _ _ _ 33 [.int .i64 33] from rfl) (Reps.one (show Kd.M (Kd.int .i64) _ _ _ 0 [.int .i64 0] from rfl) (Reps.one (show Kd.M (Kd.int .i64) _ _ _ 32 [.int .i64 32] from rfl) (Reps.none _ _))))));intro v114 w31 ho32 hb hg_ hnew_;clear hg_ hnew_;(first|rw [← Ny113.1] at ho32|(simp only [Int.reduceToNat] at ho32;rw [← Ny113.1] at ho32));have n0_:=a0z.mk (Kd.d5z ho32 (f1z (w:=w) (g:=g) (row:=none) (by repeat (first|(with_reducible first|exact HK.1|apply b9z.set_|apply c5z|apply c7z|apply keep_alloc|refine e9z ?_ GW101.1 _|refine e9z ?_ GW105.1 _)|exact HK.1))));have n1_:=a0z.mk (IsS76.below (by repeat (first|(with_reducible first|exact HI0.1|apply IsS76.alloc|apply IsS76.drewN|apply IsS76.drew|apply IsS76.set_1|refine IsS76.far ?_ NB0_101.1 _|refine IsS76.far ?_ NB0_105.1 _)|exact HI0.1)) hb);have n2_:=a0z.mk (d9z (g:=gb101) (o:=.cells #[.int .i64 0,.int .i64 0] 44 (0,0)) (by (with_reducible repeat (first|refine a8z ?_ _|refine a9z ?_|refine a7z ?_ _));exact BK101.1) hb);have n3_:=a0z.mk (d9z (g:=gb105) (o:=.cells #[.int .i64 t102,.int .i64 t103] 44 (0,0)) (by (with_reducible repeat (first|refine a8z ?_ _|refine a9z ?_|refine a7z ?_ _));exact BK105.1) hb);have n4_:=a0z.mk (b9z.trans (by repeat (first|(with_reducible first|exact HK.1|apply b9z.set_|apply c5z|apply c7z|apply keep_alloc|refine e9z ?_ GW101.1 _|refine e9z ?_ GW105.1 _)|exact HK.1)) (b9z.of_below hb g none) (.inl rfl));have n5_:=a0z.mk (b3z (by repeat (first|(with_reducible first|exact HB.1|apply a3z|apply a1z|apply a2z|refine a6z ?_ (IsS76.ge HI0.1)|refine a6z ?_ GE101.1|refine a6z ?_ GE105.1)|exact HB.1)) hb);clear HI0;clear BK101;clear BK105;clear HK;clear HB;have HO115:=n0_;have HI0:=n1_;have BK101:=n2_;have BK105:=n3_;have HK:=n4_;have HB:=n5_;clear n0_ n1_ n2_ n3_ n4_ n5_;clear hb ho32;obtain ⟨Ao33,co33,eo33⟩:=Kd.d3z HO115.1;subst eo33)|((with_reducible refine b8z (f:=79) rfl ?_);refine d2z (some 21) rfl rfl Try.func79 (by kernel_rfl) rfl #[.pointer (some ⟨g,0,none⟩),.slice Ao33 y113.length co33] rfl (by (try simp only [List.map_toArray,List.map_cons,List.map_nil]);first|done|rfl|(simp only [List.length_drop,List.length_take];rfl)) ?_;(with_reducible refine (spec_l1Rd_one.calls k g s0_0 t107 _ _ y113 t116 t117 w0 _ ?side1 ?side2 ?side3 ?side4 ?side5 A23.1).mono ?_);(case side1 => repeat (first|(with_reducible first|exact HI0.1|apply IsS76.alloc|apply IsS76.drewN|apply IsS76.drew|apply IsS76.set_1|refine IsS76.far ?_ NB0_101.1 _|refine IsS76.far ?_ NB0_105.1 _)|exact HI0.1));(case side2 => repeat (first|(with_reducible first|exact HB.1|apply a3z|apply a1z|apply a2z|refine a6z ?_ (IsS76.ge HI0.1)|refine a6z ?_ GE101.1|refine a6z ?_ GE105.1)|exact HB.1));(case side3 => repeat (first|exact (Kd.b4z HO115.1).2.2|(with_reducible refine Kd.C_alloc ?_ _)|(with_reducible refine Kd.C_drewN ?_ _)|(with_reducible refine Kd.C_drew ?_)));(case side4 => exact (Kd.b4z HO115.1).2.1);(case side5 => exact far_slice (IsS76.own_ne HI0.1 HO115.1 (by decide)));rintro e w34 ⟨rfl,hi,hb,hk⟩;refine ⟨_,rfl,?_⟩;have n0_:=a0z.mk (b9z.blk hk (g':=gb101) (o:=.cells #[.int .i64 0,.int .i64 0] 44 (0,0)) (by (with_reducible repeat (first|refine a8z ?_ _|refine a9z ?_|refine a7z ?_ _));exact BK101.1) NB101_0.1 (by simp));have n1_:=a0z.mk (b9z.blk hk (g':=gb105) (o:=.cells #[.int .i64 t102,.int .i64 t103] 44 (0,0)) (by (with_reducible repeat (first|refine a8z ?_ _|refine a9z ?_|refine a7z ?_ _));exact BK105.1) NB105_0.1 (by simp));have n2_:=a0z.mk (Kd.b5z (Kd.R_keep (IsS76.apart (show IsS76 w0 _ g s0_0 t107 from by repeat (first|(with_reducible first|exact HI0.1|apply IsS76.alloc|apply IsS76.drewN|apply IsS76.drew|apply IsS76.set_1|refine IsS76.far ?_ NB0_101.1 _|refine IsS76.far ?_ NB0_105.1 _)|exact HI0.1)) (by (with_reducible repeat (first|apply Kd.R_alloc|apply Kd.a4z|apply Kd.a5z));exact HO115.1) (by decide)) hk (fun _ h => h.2)) (fun _ h => h.1));have n3_:=a0z.mk (b9z.trans (by repeat (first|(with_reducible first|exact HK.1|apply b9z.set_|apply c5z|apply c7z|apply keep_alloc|refine e9z ?_ GW101.1 _|refine e9z ?_ GW105.1 _)|exact HK.1)) hk (.inl rfl));have n4_:=a0z.mk (hb);have n5_:=a0z.mk (hi);clear BK101;clear BK105;clear HO115;clear HK;clear HB;clear HI0;have BK101:=n0_;have BK105:=n1_;have HO115:=n2_;have HK:=n3_;have HB:=n4_;have HI0:=n5_;clear n0_ n1_ n2_ n3_ n4_ n5_;(try clear hb);(try clear hb2);(try clear hk);(try clear hi);have hcz35_0 : w34.cell? ⟨gb105,0,none⟩ = some (.int .i64 t102):=(b2z BK105.1 0).trans rfl;have hcz35_1 : w34.cell? ⟨gb105,1,none⟩ = some (.int .i64 t103):=(b2z BK105.1 1).trans rfl;have hfz35_0:=b7z BK105.1 0;have hfz35_1:=b7z BK105.1 1;have hnb36:=NB101_0.1;have hnc36:=NB0_101.1;have hcz37_0 : w34.cell? ⟨gb101,0,none⟩ = some (.int .i64 0):=(b2z BK101.1 0).trans rfl;have hcz37_1 : w34.cell? ⟨gb101,1,none⟩ = some (.int .i64 0):=(b2z BK101.1 1).trans rfl;have hfz37_0:=b7z BK101.1 0;have hfz37_1:=b7z BK101.1 1))
   refine bodyPost_ret (results_cell_row rfl _ _ gb101 44 #[.int .i64 t102,.int .i64 t116] (0,0) _ rfl (by (with_reducible repeat (first|refine a8z ?_ _|refine a9z ?_|refine a7z ?_ _));refine d6z (cs:=#[.int .i64 t102,.int .i64 0]) ?_ 1 _ rfl;(with_reducible repeat (first|refine a8z ?_ _|refine a9z ?_|refine a7z ?_ _));refine d6z (cs:=#[.int .i64 0,.int .i64 0]) ?_ 0 _ rfl;(with_reducible repeat (first|refine a8z ?_ _|refine a9z ?_|refine a7z ?_ _));refine f6z ?_ NB101_105.1 _;(with_reducible repeat (first|refine a8z ?_ _|refine a9z ?_|refine a7z ?_ _));exact BK101.1) Try.underlying44 rfl (by kernel_rfl)) rfl ?_
   exact ⟨by first|rfl|(simp [c2z,c1z] <;> rfl)|(simp [*,c2z,c1z] <;> rfl),by repeat (first|(with_reducible first|exact HI0.1|apply IsS76.alloc|apply IsS76.drewN|apply IsS76.drew|apply IsS76.set_1|refine IsS76.far ?_ NB0_101.1 _|refine IsS76.far ?_ NB0_105.1 _)|exact HI0.1),by repeat (first|(with_reducible first|exact HB.1|apply a3z|apply a1z|apply a2z|refine a6z ?_ (IsS76.ge HI0.1)|refine a6z ?_ GE101.1|refine a6z ?_ GE105.1)|exact HB.1),by repeat (first|(with_reducible first|exact HK.1|apply b9z.set_|apply c5z|apply c7z|apply keep_alloc|refine e9z ?_ GW101.1 _|refine e9z ?_ GW105.1 _)|exact HK.1)⟩
  ·rw [if_neg c22] at H
   have c22b0 : (t106 == 1) = false:=beq_eq_false_iff_ne.mpr c22
   have c22b1 : (t106 != 1) = true:=bne_iff_ne.mpr c22
   simp only [Option.some.injEq,Prod.mk.injEq] at H
   obtain ⟨rfl,rfl,rfl⟩:=H
   go_enter Try.func67,Try.ntmps67
   go_wp2_with (first|((with_reducible refine d4z (N:=2) rfl ?_);refine e0z ?hg (N:=2) ?hd (cs:=#[.int .i64 0,.int .i64 0]) (t:=44) ?hr ?_;(case hd => rfl);(case hg => rfl);(case hr => first|(go_simp;done)|(go_simp;rfl));intro gb101 hg w38 hbox hb;have n0_:=a0z.mk (IsS76.below (by repeat (first|(with_reducible first|exact HI0.1|apply IsS76.alloc|apply IsS76.drewN|apply IsS76.drew|apply IsS76.set_1)|exact HI0.1)) hb);have n1_:=a0z.mk (b9z.trans (by repeat (first|(with_reducible first|exact HK.1|apply b9z.set_|apply c5z|apply c7z|apply keep_alloc)|exact HK.1)) (b9z.of_below hb g none) (.inl rfl));have n2_:=a0z.mk (b3z (by repeat (first|(with_reducible first|exact HB.1|apply a3z|apply a1z|apply a2z|refine a6z ?_ (IsS76.ge HI0.1))|exact HB.1)) hb);have n3_:=a0z.mk (hbox);have n4_:=a0z.mk ((by rw [hg];exact (f1z (w:=w) (g:=g) (row:=none) (by repeat (first|(with_reducible first|exact HK.1|apply b9z.set_|apply c5z|apply c7z|apply keep_alloc)|exact HK.1))) : w.heap.size ≤ gb101));have n5_:=a0z.mk ((Nat.le_trans HW0.1 (by rw [hg];exact (f1z (w:=w) (g:=g) (row:=none) (by repeat (first|(with_reducible first|exact HK.1|apply b9z.set_|apply c5z|apply c7z|apply keep_alloc)|exact HK.1))) : w.heap.size ≤ gb101) : w0.heap.size ≤ gb101));have n6_:=a0z.mk ((by rw [hg];exact Nat.ne_of_lt (IsS76.lt (show IsS76 w0 _ g s0_0 s0_1 from by repeat (first|(with_reducible first|exact HI0.1|apply IsS76.alloc|apply IsS76.drewN|apply IsS76.drew|apply IsS76.set_1)|exact HI0.1))) : g ≠ gb101));have n7_:=a0z.mk ((by rw [hg];exact Nat.ne_of_gt (IsS76.lt (show IsS76 w0 _ g s0_0 s0_1 from by repeat (first|(with_reducible first|exact HI0.1|apply IsS76.alloc|apply IsS76.drewN|apply IsS76.drew|apply IsS76.set_1)|exact HI0.1))) : gb101 ≠ g));clear HI0;clear HK;clear HB;have HI0:=n0_;have HK:=n1_;have HB:=n2_;have BK101:=n3_;have GW101:=n4_;have GE101:=n5_;have NB0_101:=n6_;have NB101_0:=n7_;clear n0_ n1_ n2_ n3_ n4_ n5_ n6_ n7_;clear hb hbox hg)|((with_reducible refine b8z (f:=78) rfl ?_);refine d2z (some 5) rfl rfl Try.func78 (by kernel_rfl) rfl #[.pointer (some ⟨g,0,none⟩)] rfl (by (try simp only [List.map_toArray,List.map_cons,List.map_nil]);first|done|rfl|(simp only [List.length_drop,List.length_take];rfl)) ?_;(with_reducible refine (spec_l12Block.calls k g s0_0 s0_1 t102 t103 t104 w0 _ ?side1 ?side2 A2.1).mono ?_);(case side1 => repeat (first|(with_reducible first|exact HI0.1|apply IsS76.alloc|apply IsS76.drewN|apply IsS76.drew|apply IsS76.set_1|refine IsS76.far ?_ NB0_101.1 _)|exact HI0.1));(case side2 => repeat (first|(with_reducible first|exact HB.1|apply a3z|apply a1z|apply a2z|refine a6z ?_ (IsS76.ge HI0.1)|refine a6z ?_ GE101.1)|exact HB.1));rintro e w39 ⟨rfl,hi,hb,hk⟩;refine ⟨_,rfl,?_⟩;have n0_:=a0z.mk (b9z.blk hk (g':=gb101) (o:=.cells #[.int .i64 0,.int .i64 0] 44 (0,0)) (by (with_reducible repeat (first|refine a8z ?_ _|refine a9z ?_|refine a7z ?_ _));exact BK101.1) NB101_0.1 (by simp));have n1_:=a0z.mk (b9z.trans (by repeat (first|(with_reducible first|exact HK.1|apply b9z.set_|apply c5z|apply c7z|apply keep_alloc|refine e9z ?_ GW101.1 _)|exact HK.1)) hk (.inl rfl));have n2_:=a0z.mk (hb);have n3_:=a0z.mk (hi);clear BK101;clear HK;clear HB;clear HI0;have BK101:=n0_;have HK:=n1_;have HB:=n2_;have HI0:=n3_;clear n0_ n1_ n2_ n3_;(try clear hb);(try clear hb2);(try clear hk);(try clear hi))|((with_reducible refine d4z (N:=3) rfl ?_);refine e0z ?hg (N:=3) ?hd (cs:=#[.int .i64 0,.int .i64 0]) (t:=44) ?hr ?_;(case hd => rfl);(case hg => rfl);(case hr => first|(go_simp;done)|(go_simp;rfl));intro gb105 hg w40 hbox hb;have n0_:=a0z.mk (IsS76.below (by repeat (first|(with_reducible first|exact HI0.1|apply IsS76.alloc|apply IsS76.drewN|apply IsS76.drew|apply IsS76.set_1|refine IsS76.far ?_ NB0_101.1 _)|exact HI0.1)) hb);have n1_:=a0z.mk (d9z (g:=gb101) (o:=.cells #[.int .i64 0,.int .i64 0] 44 (0,0)) (by (with_reducible repeat (first|refine a8z ?_ _|refine a9z ?_|refine a7z ?_ _));exact BK101.1) hb);have n2_:=a0z.mk (b9z.trans (by repeat (first|(with_reducible first|exact HK.1|apply b9z.set_|apply c5z|apply c7z|apply keep_alloc|refine e9z ?_ GW101.1 _)|exact HK.1)) (b9z.of_below hb g none) (.inl rfl));have n3_:=a0z.mk (b3z (by repeat (first|(with_reducible first|exact HB.1|apply a3z|apply a1z|apply a2z|refine a6z ?_ (IsS76.ge HI0.1)|refine a6z ?_ GE101.1)|exact HB.1)) hb);have n4_:=a0z.mk (hbox);have n5_:=a0z.mk ((by rw [hg];exact (f1z (w:=w) (g:=g) (row:=none) (by repeat (first|(with_reducible first|exact HK.1|apply b9z.set_|apply c5z|apply c7z|apply keep_alloc|refine e9z ?_ GW101.1 _)|exact HK.1))) : w.heap.size ≤ gb105));have n6_:=a0z.mk ((Nat.le_trans HW0.1 (by rw [hg];exact (f1z (w:=w) (g:=g) (row:=none) (by repeat (first|(with_reducible first|exact HK.1|apply b9z.set_|apply c5z|apply c7z|apply keep_alloc|refine e9z ?_ GW101.1 _)|exact HK.1))) : w.heap.size ≤ gb105) : w0.heap.size ≤ gb105));have n7_:=a0z.mk ((by rw [hg];exact Nat.ne_of_lt (g7z (g:=gb101) (o:=.cells #[.int .i64 0,.int .i64 0] 44 (0,0)) (by (with_reducible repeat (first|refine a8z ?_ _|refine a9z ?_|refine a7z ?_ _));exact BK101.1)) : gb101 ≠ gb105));have n8_:=a0z.mk ((by rw [hg];exact Nat.ne_of_gt (g7z (g:=gb101) (o:=.cells #[.int .i64 0,.int .i64 0] 44 (0,0)) (by (with_reducible repeat (first|refine a8z ?_ _|refine a9z ?_|refine a7z ?_ _));exact BK101.1)) : gb105 ≠ gb101));have n9_:=a0z.mk ((by rw [hg];exact Nat.ne_of_lt (IsS76.lt (show IsS76 w0 _ g s0_0 t104 from by repeat (first|(with_reducible first|exact HI0.1|apply IsS76.alloc|apply IsS76.drewN|apply IsS76.drew|apply IsS76.set_1|refine IsS76.far ?_ NB0_101.1 _)|exact HI0.1))) : g ≠ gb105));have n10_:=a0z.mk ((by rw [hg];exact Nat.ne_of_gt (IsS76.lt (show IsS76 w0 _ g s0_0 t104 from by repeat (first|(with_reducible first|exact HI0.1|apply IsS76.alloc|apply IsS76.drewN|apply IsS76.drew|apply IsS76.set_1|refine IsS76.far ?_ NB0_101.1 _)|exact HI0.1))) : gb105 ≠ g));clear HI0;clear BK101;clear HK;clear HB;have HI0:=n0_;have BK101:=n1_;have HK:=n2_;have HB:=n3_;have BK105:=n4_;have GW105:=n5_;have GE105:=n6_;have NB101_105:=n7_;have NB105_101:=n8_;have NB0_105:=n9_;have NB105_0:=n10_;clear n0_ n1_ n2_ n3_ n4_ n5_ n6_ n7_ n8_ n9_ n10_;clear hb hbox hg;have hnb41:=NB105_101.1;have hnc41:=NB101_105.1;have hnb42:=NB105_0.1;have hnc42:=NB0_105.1;have hcz43_0 : w40.cell? ⟨gb105,0,none⟩ = some (.int .i64 0):=(b2z BK105.1 0).trans rfl;have hcz43_1 : w40.cell? ⟨gb105,1,none⟩ = some (.int .i64 0):=(b2z BK105.1 1).trans rfl;have hfz43_0:=b7z BK105.1 0;have hfz43_1:=b7z BK105.1 1)|((with_reducible refine b8z (f:=64) rfl ?_);refine d2z (some 7) rfl rfl Try.func64 (by kernel_rfl) rfl #[.pointer (some ⟨g,0,none⟩),.int .i64 16] rfl (by (try simp only [List.map_toArray,List.map_cons,List.map_nil]);first|done|rfl|(simp only [List.length_drop,List.length_take];rfl)) ?_;(with_reducible refine (spec_l1Rd_pick.calls k g s0_0 t104 16 t106 t107 w0 _ ?side1 ?side2 A3.1).mono ?_);(case side1 => repeat (first|(with_reducible first|exact HI0.1|apply IsS76.alloc|apply IsS76.drewN|apply IsS76.drew|apply IsS76.set_1|refine IsS76.far ?_ NB0_101.1 _|refine IsS76.far ?_ NB0_105.1 _)|exact HI0.1));(case side2 => repeat (first|(with_reducible first|exact HB.1|apply a3z|apply a1z|apply a2z|refine a6z ?_ (IsS76.ge HI0.1)|refine a6z ?_ GE101.1|refine a6z ?_ GE105.1)|exact HB.1));rintro e w44 ⟨rfl,hi,hb,hk⟩;refine ⟨_,rfl,?_⟩;have n0_:=a0z.mk (b9z.blk hk (g':=gb101) (o:=.cells #[.int .i64 0,.int .i64 0] 44 (0,0)) (by (with_reducible repeat (first|refine a8z ?_ _|refine a9z ?_|refine a7z ?_ _));refine f6z ?_ NB101_105.1 _;(with_reducible repeat (first|refine a8z ?_ _|refine a9z ?_|refine a7z ?_ _));refine f6z ?_ NB101_105.1 _;(with_reducible repeat (first|refine a8z ?_ _|refine a9z ?_|refine a7z ?_ _));exact BK101.1) NB101_0.1 (by simp));have n1_:=a0z.mk (b9z.blk hk (g':=gb105) (o:=.cells #[.int .i64 t102,.int .i64 t103] 44 (0,0)) (by (with_reducible repeat (first|refine a8z ?_ _|refine a9z ?_|refine a7z ?_ _));refine d6z (cs:=#[.int .i64 t102,.int .i64 0]) ?_ 1 _ rfl;(with_reducible repeat (first|refine a8z ?_ _|refine a9z ?_|refine a7z ?_ _));refine d6z (cs:=#[.int .i64 0,.int .i64 0]) ?_ 0 _ rfl;(with_reducible repeat (first|refine a8z ?_ _|refine a9z ?_|refine a7z ?_ _));exact BK105.1) NB105_0.1 (by simp));have n2_:=a0z.mk (b9z.trans (by repeat (first|(with_reducible first|exact HK.1|apply b9z.set_|apply c5z|apply c7z|apply keep_alloc|refine e9z ?_ GW101.1 _|refine e9z ?_ GW105.1 _)|exact HK.1)) hk (.inl rfl));have n3_:=a0z.mk (hb);have n4_:=a0z.mk (hi);clear BK101;clear BK105;clear HK;clear HB;clear HI0;have BK101:=n0_;have BK105:=n1_;have HK:=n2_;have HB:=n3_;have HI0:=n4_;clear n0_ n1_ n2_ n3_ n4_;(try clear hb);(try clear hb2);(try clear hk);(try clear hi);have hcz45_0 : w44.cell? ⟨gb105,0,none⟩ = some (.int .i64 t102):=(b2z BK105.1 0).trans rfl;have hcz45_1 : w44.cell? ⟨gb105,1,none⟩ = some (.int .i64 t103):=(b2z BK105.1 1).trans rfl;have hfz45_0:=b7z BK105.1 0;have hfz45_1:=b7z BK105.1 1;have hnb46:=NB101_0.1;have hnc46:=NB0_101.1;have hcz47_0 : w44.cell? ⟨gb101,0,none⟩ = some (.int .i64 0):=(b2z BK101.1 0).trans rfl;have hcz47_1 : w44.cell? ⟨gb101,1,none⟩ = some (.int .i64 0):=(b2z BK101.1 1).trans rfl;have hfz47_0:=b7z BK101.1 0;have hfz47_1:=b7z BK101.1 1))
   refine bodyPost_ret (results_cell_row rfl _ _ gb101 44 #[.int .i64 t102,.int .i64 t103] (0,0) _ rfl (by (with_reducible repeat (first|refine a8z ?_ _|refine a9z ?_|refine a7z ?_ _));refine d6z (cs:=#[.int .i64 t102,.int .i64 0]) ?_ 1 _ rfl;(with_reducible repeat (first|refine a8z ?_ _|refine a9z ?_|refine a7z ?_ _));refine d6z (cs:=#[.int .i64 0,.int .i64 0]) ?_ 0 _ rfl;(with_reducible repeat (first|refine a8z ?_ _|refine a9z ?_|refine a7z ?_ _));exact BK101.1) Try.underlying44 rfl (by kernel_rfl)) rfl ?_
   exact ⟨by first|rfl|(simp [c2z,c1z] <;> rfl)|(simp [*,c2z,c1z] <;> rfl),by repeat (first|(with_reducible first|exact HI0.1|apply IsS76.alloc|apply IsS76.drewN|apply IsS76.drew|apply IsS76.set_1|refine IsS76.far ?_ NB0_101.1 _|refine IsS76.far ?_ NB0_105.1 _)|exact HI0.1),by repeat (first|(with_reducible first|exact HB.1|apply a3z|apply a1z|apply a2z|refine a6z ?_ (IsS76.ge HI0.1)|refine a6z ?_ GE101.1|refine a6z ?_ GE105.1)|exact HB.1),by repeat (first|(with_reducible first|exact HK.1|apply b9z.set_|apply c5z|apply c7z|apply keep_alloc|refine e9z ?_ GW101.1 _|refine e9z ?_ GW105.1 _)|exact HK.1)⟩
end Go.Proofs.Ytmdhedkgpgoneaa.Q

namespace Go.Proofs.Ytmdhedkgpgoneaa.Q
open Go.RowKit Go.Proofs.YtmdhedkgpgoneaaW.PrintWords Go.Proofs.YtmdhedkgpgoneaaW.PrintLast Go.Proofs.YtmdhedkgpgoneaaW.PrintMore
attribute [local go_sem] e4z e2z e7z e6z d8z d7z e3z e1z
set_option linter.unusedVariables false
set_option linter.unusedSimpArgs false
def spec_l12AnySet.f (k : Nat) (s0_0 : List Int) (s0_1 : Int) : Option ((List (S44)) × Int):=(spec_l1Rd_pick.f k s0_0 s0_1 8).bind fun bt101 => (if bt101.1 = 0 then ((spec_l12Blocks.f k s0_0 bt101.2).bind fun bt103 => (some (bt103.1,bt103.2))) else (if bt101.1 = 1 then ((spec_l12Set.f k s0_0 bt101.2).bind fun bt107 => ((spec_l12AnyBlock.f k s0_0 bt107.2).bind fun bt111 => (if bt107.1.length < 8796093022208 then (some ((bt107.1 ++ [(⟨bt111.1,bt111.2.1⟩ : S44)]),bt111.2.2)) else (none)))) else ((spec_l12Set.f k s0_0 bt101.2).bind fun bt117 => (some (bt117.1,bt117.2)))))
set_option maxHeartbeats 8000000 in
set_option maxRecDepth 100000 in
theorem spec_l12AnySet.calls (k : Nat) (g : Nat) (s0_0 : List Int) (s0_1 : Int) (r1 : List (S44)) (r2 : Int) (w0 w : World) (hI : IsS76 w0 w g s0_0 s0_1) (hB : Below w0.heap.size w0 w) (h : spec_l12AnySet.f k s0_0 s0_1 = some (r1,r2)) :
  Calls Try.prog 49 #[.pointer (some ⟨g,0,none⟩)] w fun e w' => ∃ v0_ : Value,e = .returned (v0_) ∧ Kd.R k44 44 w' w.heap.size (fun _ => True) v0_ r1 ∧ IsS76 w0 w' g s0_0 r2 ∧ Below w0.heap.size w0 w' ∧ b9z w w' g none:=by
 have HI0:=a0z.mk hI
 have HK:=a0z.mk (b9z.refl w g none)
 have HL:=a0z.mk hB.size
 clear hI
 have HW0:=a0z.mk hB.size
 have HB:=a0z.mk hB
 clear hB
 have H : ((spec_l1Rd_pick.f k s0_0 s0_1 8).bind fun bt101 => (if bt101.1 = 0 then ((spec_l12Blocks.f k s0_0 bt101.2).bind fun bt103 => (some (bt103.1,bt103.2))) else (if bt101.1 = 1 then ((spec_l12Set.f k s0_0 bt101.2).bind fun bt107 => ((spec_l12AnyBlock.f k s0_0 bt107.2).bind fun bt111 => (if bt107.1.length < 8796093022208 then (some ((bt107.1 ++ [(⟨bt111.1,bt111.2.1⟩ : S44)]),bt111.2.2)) else (none)))) else ((spec_l12Set.f k s0_0 bt101.2).bind fun bt117 => (some (bt117.1,bt117.2)))))) = some (r1,r2):=h
 clear h
 replace H:=Option.bind_eq_some_iff.mp H
 obtain ⟨⟨t101,t102⟩,A20,H⟩:=H
 replace H : (if t101 = 0 then ((spec_l12Blocks.f k s0_0 t102).bind fun bt103 => (some (bt103.1,bt103.2))) else (if t101 = 1 then ((spec_l12Set.f k s0_0 t102).bind fun bt107 => ((spec_l12AnyBlock.f k s0_0 bt107.2).bind fun bt111 => (if bt107.1.length < 8796093022208 then (some ((bt107.1 ++ [(⟨bt111.1,bt111.2.1⟩ : S44)]),bt111.2.2)) else (none)))) else ((spec_l12Set.f k s0_0 t102).bind fun bt117 => (some (bt117.1,bt117.2))))) = some (r1,r2):=H
 have A2:=a0z.mk A20
 clear A20
 by_cases c3 : t101 = 0
 ·rw [if_pos c3] at H
  have c3b0 : (t101 == 0) = true:=beq_iff_eq.mpr c3
  have c3b1 : (t101 != 0) = false:=bne_eq_false_iff_eq.mpr c3
  clear c3
  replace H:=Option.bind_eq_some_iff.mp H
  obtain ⟨⟨t103,t106⟩,A40,H⟩:=H
  replace H : (some (t103,t106)) = some (r1,r2):=H
  have A4:=a0z.mk A40
  clear A40
  simp only [Option.some.injEq,Prod.mk.injEq] at H
  obtain ⟨rfl,rfl⟩:=H
  go_enter Try.func49,Try.ntmps49
  go_wp2_with (first|((with_reducible refine b8z (f:=64) rfl ?_);refine d2z (some 4) rfl rfl Try.func64 (by kernel_rfl) rfl #[.pointer (some ⟨g,0,none⟩),.int .i64 8] rfl (by (try simp only [List.map_toArray,List.map_cons,List.map_nil]);first|done|rfl|(simp only [List.length_drop,List.length_take];rfl)) ?_;(with_reducible refine (spec_l1Rd_pick.calls k g s0_0 s0_1 8 t101 t102 w0 _ ?side1 ?side2 A2.1).mono ?_);(case side1 => repeat (first|(with_reducible first|exact HI0.1|apply IsS76.alloc|apply IsS76.drewN|apply IsS76.drew|apply IsS76.set_1)|exact HI0.1));(case side2 => repeat (first|(with_reducible first|exact HB.1|apply a3z|apply a1z|apply a2z|refine a6z ?_ (IsS76.ge HI0.1))|exact HB.1));rintro e w5 ⟨rfl,hi,hb,hk⟩;refine ⟨_,rfl,?_⟩;have n0_:=a0z.mk (b9z.trans (by repeat (first|(with_reducible first|exact HK.1|apply b9z.set_|apply c5z|apply c7z|apply keep_alloc)|exact HK.1)) hk (.inl rfl));have n1_:=a0z.mk (hb);have n2_:=a0z.mk (hi);clear HK;clear HB;clear HI0;have HK:=n0_;have HB:=n1_;have HI0:=n2_;clear n0_ n1_ n2_;(try clear hb);(try clear hb2);(try clear hk);(try clear hi))|((with_reducible refine b8z (f:=65) rfl ?_);refine d2z (some 8) rfl rfl Try.func65 (by kernel_rfl) rfl #[.pointer (some ⟨g,0,none⟩)] rfl (by (try simp only [List.map_toArray,List.map_cons,List.map_nil]);first|done|rfl|(simp only [List.length_drop,List.length_take];rfl)) ?_;(with_reducible refine (spec_l12Blocks.calls k g s0_0 t102 t103 t106 w0 _ ?side1 ?side2 A4.1).mono ?_);(case side1 => repeat (first|(with_reducible first|exact HI0.1|apply IsS76.alloc|apply IsS76.drewN|apply IsS76.drew|apply IsS76.set_1)|exact HI0.1));(case side2 => repeat (first|(with_reducible first|exact HB.1|apply a3z|apply a1z|apply a2z|refine a6z ?_ (IsS76.ge HI0.1))|exact HB.1));rintro e w6 ⟨v104,rfl,ho0,hi,hb,hk⟩;refine ⟨_,rfl,?_⟩;have n0_:=a0z.mk (Kd.d5z ho0 (f1z (w:=w) (g:=g) (row:=none) (by repeat (first|(with_reducible first|exact HK.1|apply b9z.set_|apply c5z|apply c7z|apply keep_alloc)|exact HK.1))));have n1_:=a0z.mk (b9z.trans (by repeat (first|(with_reducible first|exact HK.1|apply b9z.set_|apply c5z|apply c7z|apply keep_alloc)|exact HK.1)) hk (.inl rfl));have n2_:=a0z.mk (hb);have n3_:=a0z.mk (hi);clear HK;clear HB;clear HI0;have HO105:=n0_;have HK:=n1_;have HB:=n2_;have HI0:=n3_;clear n0_ n1_ n2_ n3_;(try clear hb);(try clear hb2);(try clear hk);(try clear hi);(try clear ho0)))
  go_ret
  exact ⟨_,by first|rfl|(simp [c2z,c1z] <;> rfl)|(simp [*,c2z,c1z] <;> rfl),by (with_reducible repeat (first|apply Kd.R_alloc|apply Kd.a4z|apply Kd.a5z));exact HO105.1,by repeat (first|(with_reducible first|exact HI0.1|apply IsS76.alloc|apply IsS76.drewN|apply IsS76.drew|apply IsS76.set_1)|exact HI0.1),by repeat (first|(with_reducible first|exact HB.1|apply a3z|apply a1z|apply a2z|refine a6z ?_ (IsS76.ge HI0.1))|exact HB.1),by repeat (first|(with_reducible first|exact HK.1|apply b9z.set_|apply c5z|apply c7z|apply keep_alloc)|exact HK.1)⟩
 ·rw [if_neg c3] at H
  have c3b0 : (t101 == 0) = false:=beq_eq_false_iff_ne.mpr c3
  have c3b1 : (t101 != 0) = true:=bne_iff_ne.mpr c3
  by_cases c7 : t101 = 1
  ·rw [if_pos c7] at H
   have c7b0 : (t101 == 1) = true:=beq_iff_eq.mpr c7
   have c7b1 : (t101 != 1) = false:=bne_eq_false_iff_eq.mpr c7
   clear c7
   replace H:=Option.bind_eq_some_iff.mp H
   obtain ⟨⟨t107,t110⟩,A80,H⟩:=H
   replace H : ((spec_l12AnyBlock.f k s0_0 t110).bind fun bt111 => (if t107.length < 8796093022208 then (some ((t107 ++ [(⟨bt111.1,bt111.2.1⟩ : S44)]),bt111.2.2)) else (none))) = some (r1,r2):=H
   have A8:=a0z.mk A80
   clear A80
   replace H:=Option.bind_eq_some_iff.mp H
   obtain ⟨⟨t111,t112,t113⟩,A90,H⟩:=H
   replace H : (if t107.length < 8796093022208 then (some ((t107 ++ [(⟨t111,t112⟩ : S44)]),t113)) else (none)) = some (r1,r2):=H
   have A9:=a0z.mk A90
   clear A90
   by_cases c10 : t107.length < 8796093022208
   ·rw [if_pos c10] at H
    have LMc10:=a0z.mk c10
    clear c10
    obtain ⟨y114,hy114⟩ : ∃ y_ : List (S44),y_ = (t107 ++ [(⟨t111,t112⟩ : S44)]):=⟨_,rfl⟩
    replace H : (some (y114,t113)) = some (r1,r2):=by first|(rw [hy114];with_reducible exact H)|(have H2_:=(Option.bind_some _ _).symm.trans H;rw [hy114];with_reducible exact H2_)|(have H2_:=(Option.bind_some _ _).symm.trans H;with_reducible exact H2_)|with_reducible exact H|(rw [hy114];exact H)|exact H
    have Ny114:=a0z.mk hy114
    clear hy114
    simp only [Option.some.injEq,Prod.mk.injEq] at H
    obtain ⟨rfl,rfl⟩:=H
    go_enter Try.func49,Try.ntmps49
    go_wp2_with (first|((with_reducible refine b8z (f:=64) rfl ?_);refine d2z (some 4) rfl rfl Try.func64 (by kernel_rfl) rfl #[.pointer (some ⟨g,0,none⟩),.int .i64 8] rfl (by (try simp only [List.map_toArray,List.map_cons,List.map_nil]);first|done|rfl|(simp only [List.length_drop,List.length_take];rfl)) ?_;(with_reducible refine (spec_l1Rd_pick.calls k g s0_0 s0_1 8 t101 t102 w0 _ ?side1 ?side2 A2.1).mono ?_);(case side1 => repeat (first|(with_reducible first|exact HI0.1|apply IsS76.alloc|apply IsS76.drewN|apply IsS76.drew|apply IsS76.set_1)|exact HI0.1));(case side2 => repeat (first|(with_reducible first|exact HB.1|apply a3z|apply a1z|apply a2z|refine a6z ?_ (IsS76.ge HI0.1))|exact HB.1));rintro e w11 ⟨rfl,hi,hb,hk⟩;refine ⟨_,rfl,?_⟩;have n0_:=a0z.mk (b9z.trans (by repeat (first|(with_reducible first|exact HK.1|apply b9z.set_|apply c5z|apply c7z|apply keep_alloc)|exact HK.1)) hk (.inl rfl));have n1_:=a0z.mk (hb);have n2_:=a0z.mk (hi);clear HK;clear HB;clear HI0;have HK:=n0_;have HB:=n1_;have HI0:=n2_;clear n0_ n1_ n2_;(try clear hb);(try clear hb2);(try clear hk);(try clear hi))|((with_reducible refine b8z (f:=66) rfl ?_);refine d2z (some 12) rfl rfl Try.func66 (by kernel_rfl) rfl #[.pointer (some ⟨g,0,none⟩)] rfl (by (try simp only [List.map_toArray,List.map_cons,List.map_nil]);first|done|rfl|(simp only [List.length_drop,List.length_take];rfl)) ?_;(with_reducible refine (spec_l12Set.calls k g s0_0 t102 t107 t110 w0 _ ?side1 ?side2 A8.1).mono ?_);(case side1 => repeat (first|(with_reducible first|exact HI0.1|apply IsS76.alloc|apply IsS76.drewN|apply IsS76.drew|apply IsS76.set_1)|exact HI0.1));(case side2 => repeat (first|(with_reducible first|exact HB.1|apply a3z|apply a1z|apply a2z|refine a6z ?_ (IsS76.ge HI0.1))|exact HB.1));rintro e w12 ⟨v108,rfl,ho0,hi,hb,hk⟩;refine ⟨_,rfl,?_⟩;have n0_:=a0z.mk (Kd.d5z ho0 (f1z (w:=w) (g:=g) (row:=none) (by repeat (first|(with_reducible first|exact HK.1|apply b9z.set_|apply c5z|apply c7z|apply keep_alloc)|exact HK.1))));have n1_:=a0z.mk (b9z.trans (by repeat (first|(with_reducible first|exact HK.1|apply b9z.set_|apply c5z|apply c7z|apply keep_alloc)|exact HK.1)) hk (.inl rfl));have n2_:=a0z.mk (hb);have n3_:=a0z.mk (hi);clear HK;clear HB;clear HI0;have HO109:=n0_;have HK:=n1_;have HB:=n2_;have HI0:=n3_;clear n0_ n1_ n2_ n3_;(try clear hb);(try clear hb2);(try clear hk);(try clear hi);(try clear ho0))|((with_reducible refine b8z (f:=67) rfl ?_);refine d2z (some 14) rfl rfl Try.func67 (by kernel_rfl) rfl #[.pointer (some ⟨g,0,none⟩)] rfl (by (try simp only [List.map_toArray,List.map_cons,List.map_nil]);first|done|rfl|(simp only [List.length_drop,List.length_take];rfl)) ?_;(with_reducible refine (spec_l12AnyBlock.calls k g s0_0 t110 t111 t112 t113 w0 _ ?side1 ?side2 A9.1).mono ?_);(case side1 => repeat (first|(with_reducible first|exact HI0.1|apply IsS76.alloc|apply IsS76.drewN|apply IsS76.drew|apply IsS76.set_1)|exact HI0.1));(case side2 => repeat (first|(with_reducible first|exact HB.1|apply a3z|apply a1z|apply a2z|refine a6z ?_ (IsS76.ge HI0.1))|exact HB.1));rintro e w13 ⟨rfl,hi,hb,hk⟩;refine ⟨_,rfl,?_⟩;have n0_:=a0z.mk (Kd.b5z (Kd.R_keep (IsS76.apart (show IsS76 w0 _ g s0_0 t110 from by repeat (first|(with_reducible first|exact HI0.1|apply IsS76.alloc|apply IsS76.drewN|apply IsS76.drew|apply IsS76.set_1)|exact HI0.1)) (by (with_reducible repeat (first|apply Kd.R_alloc|apply Kd.a4z|apply Kd.a5z));exact HO109.1) (by decide)) hk (fun _ h => h.2)) (fun _ h => h.1));have n1_:=a0z.mk (b9z.trans (by repeat (first|(with_reducible first|exact HK.1|apply b9z.set_|apply c5z|apply c7z|apply keep_alloc)|exact HK.1)) hk (.inl rfl));have n2_:=a0z.mk (hb);have n3_:=a0z.mk (hi);clear HO109;clear HK;clear HB;clear HI0;have HO109:=n0_;have HK:=n1_;have HB:=n2_;have HI0:=n3_;clear n0_ n1_ n2_ n3_;(try clear hb);(try clear hb2);(try clear hk);(try clear hi))|((with_reducible refine e5z (b:=.append) (xs:=#[.tmp 12,.tmp 15]) rfl ?_);at_builtin;refine Kd.g6z k44 w.heap.size rfl (.tmp 12) (.tmp 15) 25 44 (.agg #[(.int .i64 0),(.int .i64 0)]) 16 rfl Try.underlying25 info44 rfl (by decide) (by omega) v108 t107 (⟨t111,t112⟩ : S44) [.int .i64 t111,.int .i64 t112] (fun _ => True) (fun _ => False) rfl rfl ?aP (fun _ hk => hk.elim) ?aF ?aO (Below.refl _ _) ?aS ?aL ?_;(case aP => exact k44_mkM _ _ _ (⟨t111,t112⟩ : S44));(case aF => exact (fun _ _ => trivial));(case aO => exact (by (with_reducible repeat (first|apply Kd.R_alloc|apply Kd.a4z|apply Kd.a5z));exact HO109.1));(case aS => exact (f1z (w:=w) (g:=g) (row:=none) (by repeat (first|(with_reducible first|exact HK.1|apply b9z.set_|apply c5z|apply c7z|apply keep_alloc)|exact HK.1))));(case aL => have:=LMc10.1;omega);intro v115 w14 ho hb hg hat;rw [← Ny114.1] at ho;have n0_:=a0z.mk (IsS76.grown (by repeat (first|(with_reducible first|exact HI0.1|apply IsS76.alloc|apply IsS76.drewN|apply IsS76.drew|apply IsS76.set_1)|exact HI0.1)) hg (IsS76.own_ne HI0.1 HO109.1 (by decide)));have n1_:=a0z.mk (below_weaken (by repeat (first|(with_reducible first|exact HB.1|apply a3z|apply a1z|apply a2z|refine a6z ?_ (IsS76.ge HI0.1))|exact HB.1)) HL.1 hb);have n2_:=a0z.mk (b9z.trans (by repeat (first|(with_reducible first|exact HK.1|apply b9z.set_|apply c5z|apply c7z|apply keep_alloc)|exact HK.1)) (b9z.of_grown hg g) (Kd.R_base2 HO109.1));have n3_:=a0z.mk (ho);clear HI0;clear HB;clear HK;clear HO109;have HI0:=n0_;have HB:=n1_;have HK:=n2_;have HO116:=n3_;clear n0_ n1_ n2_ n3_;clear ho hb hg hat))
    go_ret
    exact ⟨_,by first|rfl|(simp [c2z,c1z] <;> rfl)|(simp [*,c2z,c1z] <;> rfl),by (with_reducible repeat (first|apply Kd.R_alloc|apply Kd.a4z|apply Kd.a5z));exact HO116.1,by repeat (first|(with_reducible first|exact HI0.1|apply IsS76.alloc|apply IsS76.drewN|apply IsS76.drew|apply IsS76.set_1)|exact HI0.1),by repeat (first|(with_reducible first|exact HB.1|apply a3z|apply a1z|apply a2z|refine a6z ?_ (IsS76.ge HI0.1))|exact HB.1),by repeat (first|(with_reducible first|exact HK.1|apply b9z.set_|apply c5z|apply c7z|apply keep_alloc)|exact HK.1)⟩
   ·rw [if_neg c10] at H
    exact absurd H (by simp)
  ·rw [if_neg c7] at H
   have c7b0 : (t101 == 1) = false:=beq_eq_false_iff_ne.mpr c7
   have c7b1 : (t101 != 1) = true:=bne_iff_ne.mpr c7
   replace H:=Option.bind_eq_some_iff.mp H
   obtain ⟨⟨t117,t120⟩,A150,H⟩:=H
   replace H : (some (t117,t120)) = some (r1,r2):=H
   have A15:=a0z.mk A150
   clear A150
   simp only [Option.some.injEq,Prod.mk.injEq] at H
   obtain ⟨rfl,rfl⟩:=H
   go_enter Try.func49,Try.ntmps49
   go_wp2_with (first|((with_reducible refine b8z (f:=64) rfl ?_);refine d2z (some 4) rfl rfl Try.func64 (by kernel_rfl) rfl #[.pointer (some ⟨g,0,none⟩),.int .i64 8] rfl (by (try simp only [List.map_toArray,List.map_cons,List.map_nil]);first|done|rfl|(simp only [List.length_drop,List.length_take];rfl)) ?_;(with_reducible refine (spec_l1Rd_pick.calls k g s0_0 s0_1 8 t101 t102 w0 _ ?side1 ?side2 A2.1).mono ?_);(case side1 => repeat (first|(with_reducible first|exact HI0.1|apply IsS76.alloc|apply IsS76.drewN|apply IsS76.drew|apply IsS76.set_1)|exact HI0.1));(case side2 => repeat (first|(with_reducible first|exact HB.1|apply a3z|apply a1z|apply a2z|refine a6z ?_ (IsS76.ge HI0.1))|exact HB.1));rintro e w16 ⟨rfl,hi,hb,hk⟩;refine ⟨_,rfl,?_⟩;have n0_:=a0z.mk (b9z.trans (by repeat (first|(with_reducible first|exact HK.1|apply b9z.set_|apply c5z|apply c7z|apply keep_alloc)|exact HK.1)) hk (.inl rfl));have n1_:=a0z.mk (hb);have n2_:=a0z.mk (hi);clear HK;clear HB;clear HI0;have HK:=n0_;have HB:=n1_;have HI0:=n2_;clear n0_ n1_ n2_;(try clear hb);(try clear hb2);(try clear hk);(try clear hi))|((with_reducible refine b8z (f:=66) rfl ?_);refine d2z (some 18) rfl rfl Try.func66 (by kernel_rfl) rfl #[.pointer (some ⟨g,0,none⟩)] rfl (by (try simp only [List.map_toArray,List.map_cons,List.map_nil]);first|done|rfl|(simp only [List.length_drop,List.length_take];rfl)) ?_;(with_reducible refine (spec_l12Set.calls k g s0_0 t102 t117 t120 w0 _ ?side1 ?side2 A15.1).mono ?_);(case side1 => repeat (first|(with_reducible first|exact HI0.1|apply IsS76.alloc|apply IsS76.drewN|apply IsS76.drew|apply IsS76.set_1)|exact HI0.1));(case side2 => repeat (first|(with_reducible first|exact HB.1|apply a3z|apply a1z|apply a2z|refine a6z ?_ (IsS76.ge HI0.1))|exact HB.1));rintro e w17 ⟨v118,rfl,ho0,hi,hb,hk⟩;refine ⟨_,rfl,?_⟩;have n0_:=a0z.mk (Kd.d5z ho0 (f1z (w:=w) (g:=g) (row:=none) (by repeat (first|(with_reducible first|exact HK.1|apply b9z.set_|apply c5z|apply c7z|apply keep_alloc)|exact HK.1))));have n1_:=a0z.mk (b9z.trans (by repeat (first|(with_reducible first|exact HK.1|apply b9z.set_|apply c5z|apply c7z|apply keep_alloc)|exact HK.1)) hk (.inl rfl));have n2_:=a0z.mk (hb);have n3_:=a0z.mk (hi);clear HK;clear HB;clear HI0;have HO119:=n0_;have HK:=n1_;have HB:=n2_;have HI0:=n3_;clear n0_ n1_ n2_ n3_;(try clear hb);(try clear hb2);(try clear hk);(try clear hi);(try clear ho0)))
   go_ret
   exact ⟨_,by first|rfl|(simp [c2z,c1z] <;> rfl)|(simp [*,c2z,c1z] <;> rfl),by (with_reducible repeat (first|apply Kd.R_alloc|apply Kd.a4z|apply Kd.a5z));exact HO119.1,by repeat (first|(with_reducible first|exact HI0.1|apply IsS76.alloc|apply IsS76.drewN|apply IsS76.drew|apply IsS76.set_1)|exact HI0.1),by repeat (first|(with_reducible first|exact HB.1|apply a3z|apply a1z|apply a2z|refine a6z ?_ (IsS76.ge HI0.1))|exact HB.1),by repeat (first|(with_reducible first|exact HK.1|apply b9z.set_|apply c5z|apply c7z|apply keep_alloc)|exact HK.1)⟩
end Go.Proofs.Ytmdhedkgpgoneaa.Q

namespace Go.Proofs.Ytmdhedkgpgoneaa.Q
open Go.RowKit Go.Proofs.YtmdhedkgpgoneaaW.PrintWords Go.Proofs.YtmdhedkgpgoneaaW.PrintLast Go.Proofs.YtmdhedkgpgoneaaW.PrintMore
attribute [local go_sem] e4z e2z e7z e6z d8z d7z e3z e1z
set_option linter.unusedVariables false
set_option linter.unusedSimpArgs false
def spec_l1Open.f (l0 : List Int) : Option (List Int × Int):=if (l0.length : Int) > 2000 then (if 2000 ≤ (l0.length : Int) then (some (l0.take 2000,0)) else (none)) else (some (l0,0))
set_option maxHeartbeats 8000000 in
set_option maxRecDepth 100000 in
theorem spec_l1Open.calls (A0 : Option Addr) (c0 : Nat) (l0 : List Int) (r1 : List Int) (r2 : Int) (w0 w : World) (hB : Below w0.heap.size w0 w) (hr0 : Kd.C (Kd.int .u8) w0 A0 l0.length l0) (hc0 : l0.length ≤ c0) (h : spec_l1Open.f l0 = some (r1,r2)) :
  Calls Try.prog 50 #[.slice A0 l0.length c0] w fun e w' => ∃ g_ : Nat,e = .returned (.pointer (some ⟨g_,0,none⟩)) ∧ IsS76 w0 w' g_ r1 r2 ∧ Below w0.heap.size w0 w' ∧ Below w.heap.size w w':=by
 have hu76:=Try.underlying76
 have HR0:=a0z.mk hr0
 have HC0:=a0z.mk hc0
 clear hr0 hc0
 have HBW:=a0z.mk (Below.refl w.heap.size w)
 have HW0:=a0z.mk hB.size
 have HB:=a0z.mk hB
 clear hB
 have H : (if (l0.length : Int) > 2000 then (if 2000 ≤ (l0.length : Int) then (some (l0.take 2000,0)) else (none)) else (some (l0,0))) = some (r1,r2):=h
 clear h
 by_cases c2 : (l0.length : Int) > 2000
 ·rw [if_pos c2] at H
  have c2b0 : decide (2000 < (l0.length : Int)) = true:=decide_eq_true c2
  have c2b1 : decide (2000 < l0.length) = true:=decide_eq_true (by omega)
  clear c2
  by_cases c3 : 2000 ≤ (l0.length : Int)
  ·rw [if_pos c3] at H
   have c3b0:=eq_true c3
   have c3b1 : decide (2000 ≤ (l0.length : Int)) = true:=decide_eq_true c3
   clear c3
   simp only [Option.some.injEq,Prod.mk.injEq] at H
   obtain ⟨rfl,rfl⟩:=H
   obtain ⟨i04,hi04,_,hsz4,_⟩:=info_parts info5
   obtain ⟨hcut4,hA4,hC4⟩:=print_take_of (P:=Try.prog) (Value.int .u8) 0 35 5 .i64 Try.underlying35 hi04 hsz4 A0 c0 l0 2000 (by omega) (of_decide_eq_true (by first|(with_reducible assumption)|assumption)) HC0.1
   have HR101:=a0z.mk (Kd.C_of_reads (h1:=fun _ => rfl) (hA4 _ (Kd.reads_of_C HR0.1)))
   have HC101:=a0z.mk hC4
   clear hA4 hC4 hi04 hsz4
   go_enter Try.func50,Try.ntmps50
   go_wp2_with (first|((with_reducible refine d4z (N:=10) rfl ?_);refine e0z ?hg (N:=10) ?hd (cs:=#[.slice A0 (l0.take 2000).length c0,.int .i64 0]) (t:=76) ?hr ?_;(case hd => rfl);(case hg => rfl);(case hr => first|(go_simp;done)|(go_simp;rfl));intro gb102 hg w5 hbox hb;have n0_:=a0z.mk (b3z HBW.1 hb);have n1_:=a0z.mk (b3z (by repeat (first|(with_reducible first|exact HB.1|apply a3z|apply a1z|apply a2z)|exact HB.1)) hb);have n2_:=a0z.mk (hbox);have n3_:=a0z.mk ((by rw [hg];exact (b1z (by repeat (first|(with_reducible first|exact HBW.1|apply a3z|apply a1z|apply a2z)|exact HBW.1))) : w.heap.size ≤ gb102));have n4_:=a0z.mk ((Nat.le_trans HW0.1 (by rw [hg];exact (b1z (by repeat (first|(with_reducible first|exact HBW.1|apply a3z|apply a1z|apply a2z)|exact HBW.1))) : w.heap.size ≤ gb102) : w0.heap.size ≤ gb102));clear HBW;clear HB;have HBW:=n0_;have HB:=n1_;have BK102:=n2_;have GW102:=n3_;have GE102:=n4_;clear n0_ n1_ n2_ n3_ n4_;clear hb hbox hg))
   go_ret
   exact ⟨_,rfl,(show IsS76 w0 _ gb102 (l0.take 2000) 0 from ⟨_,_,by (with_reducible repeat (first|refine a8z ?_ _|refine a9z ?_|refine a7z ?_ _));exact BK102.1,GE102.1,HR101.1⟩),by repeat (first|(with_reducible first|exact HB.1|apply a3z|apply a1z|apply a2z|refine a6z ?_ GE102.1)|exact HB.1),by repeat (first|(with_reducible first|exact HBW.1|apply a3z|apply a1z|apply a2z|refine a6z ?_ GW102.1)|exact HBW.1)⟩
  ·rw [if_neg c3] at H
   exact absurd H (by simp)
 ·rw [if_neg c2] at H
  have c2b0 : decide (2000 < (l0.length : Int)) = false:=decide_eq_false c2
  have c2b1 : decide (2000 < l0.length) = false:=decide_eq_false (by omega)
  clear c2
  simp only [Option.some.injEq,Prod.mk.injEq] at H
  obtain ⟨rfl,rfl⟩:=H
  go_enter Try.func50,Try.ntmps50
  go_wp2_with (first|((with_reducible refine d4z (N:=10) rfl ?_);refine e0z ?hg (N:=10) ?hd (cs:=#[.slice A0 l0.length c0,.int .i64 0]) (t:=76) ?hr ?_;(case hd => rfl);(case hg => rfl);(case hr => first|(go_simp;done)|(go_simp;rfl));intro gb103 hg w6 hbox hb;have n0_:=a0z.mk (b3z HBW.1 hb);have n1_:=a0z.mk (b3z (by repeat (first|(with_reducible first|exact HB.1|apply a3z|apply a1z|apply a2z)|exact HB.1)) hb);have n2_:=a0z.mk (hbox);have n3_:=a0z.mk ((by rw [hg];exact (b1z (by repeat (first|(with_reducible first|exact HBW.1|apply a3z|apply a1z|apply a2z)|exact HBW.1))) : w.heap.size ≤ gb103));have n4_:=a0z.mk ((Nat.le_trans HW0.1 (by rw [hg];exact (b1z (by repeat (first|(with_reducible first|exact HBW.1|apply a3z|apply a1z|apply a2z)|exact HBW.1))) : w.heap.size ≤ gb103) : w0.heap.size ≤ gb103));clear HBW;clear HB;have HBW:=n0_;have HB:=n1_;have BK103:=n2_;have GW103:=n3_;have GE103:=n4_;clear n0_ n1_ n2_ n3_ n4_;clear hb hbox hg))
  go_ret
  exact ⟨_,rfl,(show IsS76 w0 _ gb103 l0 0 from ⟨_,_,by (with_reducible repeat (first|refine a8z ?_ _|refine a9z ?_|refine a7z ?_ _));exact BK103.1,GE103.1,HR0.1⟩),by repeat (first|(with_reducible first|exact HB.1|apply a3z|apply a1z|apply a2z|refine a6z ?_ GE103.1)|exact HB.1),by repeat (first|(with_reducible first|exact HBW.1|apply a3z|apply a1z|apply a2z|refine a6z ?_ GW103.1)|exact HBW.1)⟩
end Go.Proofs.Ytmdhedkgpgoneaa.Q

namespace Go.Proofs.Ytmdhedkgpgoneaa.Q
open Go.RowKit Go.Proofs.YtmdhedkgpgoneaaW.PrintWords Go.Proofs.YtmdhedkgpgoneaaW.PrintLast Go.Proofs.YtmdhedkgpgoneaaW.PrintMore
attribute [local go_sem] e4z e2z e7z e6z d8z d7z e3z e1z
set_option linter.unusedVariables false
set_option linter.unusedSimpArgs false
def spec_DrawSetBoth.f (k : Nat) (l0 : List Int) : Option ((List (S44)) × (List (S44))):=(spec_l1Open.f l0).bind fun bt101 => ((spec_l12AnySet.f k bt101.1 bt101.2).bind fun bt104 => ((spec_l12AnySet.f k bt101.1 bt104.2).bind fun bt108 => (some (bt104.1,bt108.1))))
set_option maxHeartbeats 8000000 in
set_option maxRecDepth 100000 in
theorem spec_DrawSetBoth.calls (k : Nat) (A0 : Option Addr) (c0 : Nat) (l0 : List Int) (r1 : List (S44)) (r2 : List (S44)) (w : World) (hr0 : Kd.C (Kd.int .u8) w A0 l0.length l0) (hc0 : l0.length ≤ c0) (h : spec_DrawSetBoth.f k l0 = some (r1,r2)) :
  Calls Try.prog 30 #[.slice A0 l0.length c0] w fun e w' => ∃ v0_ v1_ : Value,e = .returned (.tuple #[v0_,v1_]) ∧ Kd.R k44 44 w' w.heap.size (fun k_ => some k_ ≠ (v1_ : Value).ownBlock) v0_ r1 ∧ Kd.R k44 44 w' w.heap.size (fun k_ => some k_ ≠ (v0_ : Value).ownBlock) v1_ r2 ∧ Below w.heap.size w w':=by
 have HR0:=a0z.mk hr0
 have HC0:=a0z.mk hc0
 clear hr0 hc0
 have HB:=a0z.mk (Below.refl w.heap.size w)
 have H : ((spec_l1Open.f l0).bind fun bt101 => ((spec_l12AnySet.f k bt101.1 bt101.2).bind fun bt104 => ((spec_l12AnySet.f k bt101.1 bt104.2).bind fun bt108 => (some (bt104.1,bt108.1))))) = some (r1,r2):=h
 clear h
 replace H:=Option.bind_eq_some_iff.mp H
 obtain ⟨⟨t101,t102⟩,A20,H⟩:=H
 replace H : ((spec_l12AnySet.f k t101 t102).bind fun bt104 => ((spec_l12AnySet.f k t101 bt104.2).bind fun bt108 => (some (bt104.1,bt108.1)))) = some (r1,r2):=H
 have A2:=a0z.mk A20
 clear A20
 replace H:=Option.bind_eq_some_iff.mp H
 obtain ⟨⟨t104,t107⟩,A30,H⟩:=H
 replace H : ((spec_l12AnySet.f k t101 t107).bind fun bt108 => (some (t104,bt108.1))) = some (r1,r2):=H
 have A3:=a0z.mk A30
 clear A30
 replace H:=Option.bind_eq_some_iff.mp H
 obtain ⟨⟨t108,t111⟩,A40,H⟩:=H
 replace H : (some (t104,t108)) = some (r1,r2):=H
 have A4:=a0z.mk A40
 clear A40
 simp only [Option.some.injEq,Prod.mk.injEq] at H
 obtain ⟨rfl,rfl⟩:=H
 go_enter Try.func30,Try.ntmps30
 go_wp2_with (first|((with_reducible refine b8z (f:=50) rfl ?_);refine d2z (some 6) rfl rfl Try.func50 (by kernel_rfl) rfl #[.slice A0 l0.length c0] rfl (by (try simp only [List.map_toArray,List.map_cons,List.map_nil]);first|done|rfl|(simp only [List.length_drop,List.length_take];rfl)) ?_;(with_reducible refine (spec_l1Open.calls _ _ l0 t101 t102 w _ ?side1 ?side2 ?side3 A2.1).mono ?_);(case side1 => repeat (first|(with_reducible first|exact HB.1|apply a3z|apply a1z|apply a2z)|exact HB.1));(case side2 => exact HR0.1);(case side3 => exact HC0.1);rintro e w5 ⟨g103,rfl,hi,hb,hb2⟩;refine ⟨_,rfl,?_⟩;have n0_:=a0z.mk (hb);have n1_:=a0z.mk (hi);clear HB;have HB:=n0_;have HI103:=n1_;clear n0_ n1_;(try clear hb);(try clear hb2);(try clear hk);(try clear hi))|((with_reducible refine b8z (f:=49) rfl ?_);refine d2z (some 8) rfl rfl Try.func49 (by kernel_rfl) rfl #[.pointer (some ⟨g103,0,none⟩)] rfl (by (try simp only [List.map_toArray,List.map_cons,List.map_nil]);first|done|rfl|(simp only [List.length_drop,List.length_take];rfl)) ?_;(with_reducible refine (spec_l12AnySet.calls k g103 t101 t102 t104 t107 w _ ?side1 ?side2 A3.1).mono ?_);(case side1 => repeat (first|(with_reducible first|exact HI103.1|apply IsS76.alloc|apply IsS76.drewN|apply IsS76.drew|apply IsS76.set_1)|exact HI103.1));(case side2 => repeat (first|(with_reducible first|exact HB.1|apply a3z|apply a1z|apply a2z|refine a6z ?_ (IsS76.ge HI103.1))|exact HB.1));rintro e w6 ⟨v105,rfl,ho0,hi,hb,hk⟩;refine ⟨_,rfl,?_⟩;have n0_:=a0z.mk (Kd.d5z ho0 (b1z (by repeat (first|(with_reducible first|exact HB.1|apply a3z|apply a1z|apply a2z|refine a6z ?_ (IsS76.ge HI103.1))|exact HB.1))));have n1_:=a0z.mk (hb);have n2_:=a0z.mk (hi);clear HB;clear HI103;have HO106:=n0_;have HB:=n1_;have HI103:=n2_;clear n0_ n1_ n2_;(try clear hb);(try clear hb2);(try clear hk);(try clear hi);(try clear ho0))|((with_reducible refine b8z (f:=49) rfl ?_);refine d2z (some 10) rfl rfl Try.func49 (by kernel_rfl) rfl #[.pointer (some ⟨g103,0,none⟩)] rfl (by (try simp only [List.map_toArray,List.map_cons,List.map_nil]);first|done|rfl|(simp only [List.length_drop,List.length_take];rfl)) ?_;(with_reducible refine (spec_l12AnySet.calls k g103 t101 t107 t108 t111 w _ ?side1 ?side2 A4.1).mono ?_);(case side1 => repeat (first|(with_reducible first|exact HI103.1|apply IsS76.alloc|apply IsS76.drewN|apply IsS76.drew|apply IsS76.set_1)|exact HI103.1));(case side2 => repeat (first|(with_reducible first|exact HB.1|apply a3z|apply a1z|apply a2z|refine a6z ?_ (IsS76.ge HI103.1))|exact HB.1));rintro e w7 ⟨v109,rfl,ho0,hi,hb,hk⟩;refine ⟨_,rfl,?_⟩;have n0_:=a0z.mk (Kd.b5z (Kd.R_told (Kd.R_oldK (IsS76.apart (show IsS76 w _ g103 t101 t107 from by repeat (first|(with_reducible first|exact HI103.1|apply IsS76.alloc|apply IsS76.drewN|apply IsS76.drew|apply IsS76.set_1)|exact HI103.1)) (by (with_reducible repeat (first|apply Kd.R_alloc|apply Kd.a4z|apply Kd.a5z));exact HO106.1) (by decide)) hk) (Kd.d1z ho0)) (fun _ h_ => h_.1));have n1_:=a0z.mk (Kd.d5z (Kd.d0z ho0 (Kd.R_lt (by (with_reducible repeat (first|apply Kd.R_alloc|apply Kd.a4z|apply Kd.a5z));exact HO106.1))) (b1z (by repeat (first|(with_reducible first|exact HB.1|apply a3z|apply a1z|apply a2z|refine a6z ?_ (IsS76.ge HI103.1))|exact HB.1))));have n2_:=a0z.mk (hb);have n3_:=a0z.mk (hi);clear HO106;clear HB;clear HI103;have HO106:=n0_;have HO110:=n1_;have HB:=n2_;have HI103:=n3_;clear n0_ n1_ n2_ n3_;(try clear hb);(try clear hb2);(try clear hk);(try clear hi);(try clear ho0)))
 go_ret2
 exact ⟨_,_,by first|rfl|(simp [c2z,c1z] <;> rfl)|(simp [*,c2z,c1z] <;> rfl),by (with_reducible repeat (first|apply Kd.R_alloc|apply Kd.a4z|apply Kd.a5z));exact Kd.b5z HO106.1 (fun _ hk => hk.2),by (with_reducible repeat (first|apply Kd.R_alloc|apply Kd.a4z|apply Kd.a5z));exact Kd.b5z HO110.1 (fun _ hk => hk.2),by repeat (first|(with_reducible first|exact HB.1|apply a3z|apply a1z|apply a2z|refine a6z ?_ (IsS76.ge HI103.1))|exact HB.1)⟩
end Go.Proofs.Ytmdhedkgpgoneaa.Q
