/- The law FnRulesText (part 6 of 7): for every input the call answers true and its arguments read afterwards as before. No condition beyond the row's own. -/
import Derived.Deep.Slices
import Derived.Deep.Fields
import Derived.ChangeSame
import Derived.ProofKit
import Derived.WideShapes
import Derived.Laws.BitsLemmas
import Derived.Test.YtgbdnbbfgcogjaaGreatDoorCFnRulesText5
namespace Go.Proofs.YtgbdnbbfgcogjaaGreatDoor.Q
open Go.RowKit Go.Proofs.YtgbdnbbfgcogjaaGreatDoorW.PrintWords Go.Proofs.YtgbdnbbfgcogjaaGreatDoorW.PrintLast Go.Proofs.YtgbdnbbfgcogjaaGreatDoorW.PrintMore
attribute [local go_sem] d7z d5z d9z d8z c8z c7z d6z d4z
set_option linter.unusedVariables false
set_option linter.unusedSimpArgs false
def spec_l12AnyRules.l0 : Nat → List (S39) → List Int → Int → Option ((List (S39)) × Int)
 | 0,_,_,_ => none
 | k + 1,x3,x1000,x1001 => (spec_l1Rd_pick.f k x1000 x1001 2).bind fun bt131 => (if (x3.length : Int) < (wrap64 (8 + bt131.1)) then ((spec_l12Rule.f k x1000 bt131.2).bind fun bt133 => (if x3.length < 2199023255552 then (spec_l12AnyRules.l0 k (x3 ++ [(⟨bt133.1,bt133.2.1,(⟨bt133.2.2.1,bt133.2.2.2.1⟩ : S37),(⟨bt133.2.2.2.2.1,bt133.2.2.2.2.2.1⟩ : S37),bt133.2.2.2.2.2.2.1,bt133.2.2.2.2.2.2.2.1⟩ : S39)]) x1000 bt133.2.2.2.2.2.2.2.2) else (none))) else (some (x3,bt131.2)))
def spec_l12AnyRules.f (k : Nat) (s0_0 : List Int) (s0_1 : Int) : Option ((List (S39)) × Int):=(spec_l12Rules.f k s0_0 s0_1).bind fun bt101 => (if (bt101.1.length : Int) = 0 then (some (bt101.1,bt101.2)) else ((spec_l1Rd_pick.f k s0_0 bt101.2 (bt101.1.length : Int)).bind fun bt105 => ((spec_l1Rd_pick.f k s0_0 bt105.2 20).bind fun bt107 => (if bt107.1 = 0 then ((spec_l1Rd_one.f k s0_0 bt107.2 (([(-1),3,0] : List Int))).bind fun bt112 => (if 0 ≤ bt105.1 then (if bt105.1 < (bt101.1.length : Int) then (some ((bt101.1.set (bt105.1 : Int).toNat (⟨bt112.1,(a6z bt101.1 bt105.1).f1,(⟨(a6z bt101.1 bt105.1).f2.f0,(a6z bt101.1 bt105.1).f2.f1⟩ : S37),(⟨(a6z bt101.1 bt105.1).f3.f0,(a6z bt101.1 bt105.1).f3.f1⟩ : S37),(a6z bt101.1 bt105.1).f4,(a6z bt101.1 bt105.1).f5⟩ : S39)),bt112.2)) else (none)) else (none))) else (if bt107.1 = 1 then ((spec_l1Rd_one.f k s0_0 bt107.2 (([(-1),4,1] : List Int))).bind fun bt118 => (if 0 ≤ bt105.1 then (if bt105.1 < (bt101.1.length : Int) then (some ((bt101.1.set (bt105.1 : Int).toNat (⟨(a6z bt101.1 bt105.1).f0,bt118.1,(⟨(a6z bt101.1 bt105.1).f2.f0,(a6z bt101.1 bt105.1).f2.f1⟩ : S37),(⟨(a6z bt101.1 bt105.1).f3.f0,(a6z bt101.1 bt105.1).f3.f1⟩ : S37),(a6z bt101.1 bt105.1).f4,(a6z bt101.1 bt105.1).f5⟩ : S39)),bt118.2)) else (none)) else (none))) else (if bt107.1 = 2 then ((spec_l1Rd_one.f k s0_0 bt107.2 (([(-1),65536] : List Int))).bind fun bt124 => (if 0 ≤ bt105.1 then (if bt105.1 < (bt101.1.length : Int) then (some ((bt101.1.set (bt105.1 : Int).toNat (⟨(a6z bt101.1 bt105.1).f0,(a6z bt101.1 bt105.1).f1,(⟨(a6z bt101.1 bt105.1).f2.f0,(a6z bt101.1 bt105.1).f2.f1⟩ : S37),(⟨(a6z bt101.1 bt105.1).f3.f0,(a6z bt101.1 bt105.1).f3.f1⟩ : S37),bt124.1,(a6z bt101.1 bt105.1).f5⟩ : S39)),bt124.2)) else (none)) else (none))) else (if bt107.1 = 3 then ((spec_l12AnyBlock.f k s0_0 bt107.2).bind fun bt127 => (if 0 ≤ bt105.1 then (if bt105.1 < (bt101.1.length : Int) then (some ((bt101.1.set (bt105.1 : Int).toNat (⟨(a6z bt101.1 bt105.1).f0,(a6z bt101.1 bt105.1).f1,(⟨bt127.1,bt127.2.1⟩ : S37),(⟨(a6z bt101.1 bt105.1).f3.f0,(a6z bt101.1 bt105.1).f3.f1⟩ : S37),(a6z bt101.1 bt105.1).f4,(a6z bt101.1 bt105.1).f5⟩ : S39)),bt127.2.2)) else (none)) else (none))) else (if bt107.1 = 4 then (spec_l12AnyRules.l0 k bt101.1 s0_0 bt107.2) else (some (bt101.1,bt107.2))))))))))
set_option maxHeartbeats 8000000 in
set_option maxRecDepth 100000 in
theorem spec_l12AnyRules.calls (k : Nat) (g : Nat) (s0_0 : List Int) (s0_1 : Int) (r1 : List (S39)) (r2 : Int) (w0 w : World) (hI : IsS80 w0 w g s0_0 s0_1) (hB : Below w0.heap.size w0 w) (h : spec_l12AnyRules.f k s0_0 s0_1 = some (r1,r2)) :
  Calls Tryz.prog 24 #[.pointer (some ⟨g,0,none⟩)] w fun e w' => ∃ v0_ : Value,e = .returned (v0_) ∧ Kd.R k39 39 w' w.heap.size (fun _ => True) v0_ r1 ∧ IsS80 w0 w' g s0_0 r2 ∧ Below w0.heap.size w0 w' ∧ a7z w w' g none:=by
 have hu37:=Tryz.underlying37
 have HI0:=a1z.mk hI
 have HK:=a1z.mk (a7z.refl w g none)
 have HL:=a1z.mk hB.size
 clear hI
 have HW0:=a1z.mk hB.size
 have HB:=a1z.mk hB
 clear hB
 have H : ((spec_l12Rules.f k s0_0 s0_1).bind fun bt101 => (if (bt101.1.length : Int) = 0 then (some (bt101.1,bt101.2)) else ((spec_l1Rd_pick.f k s0_0 bt101.2 (bt101.1.length : Int)).bind fun bt105 => ((spec_l1Rd_pick.f k s0_0 bt105.2 20).bind fun bt107 => (if bt107.1 = 0 then ((spec_l1Rd_one.f k s0_0 bt107.2 (([(-1),3,0] : List Int))).bind fun bt112 => (if 0 ≤ bt105.1 then (if bt105.1 < (bt101.1.length : Int) then (some ((bt101.1.set (bt105.1 : Int).toNat (⟨bt112.1,(a6z bt101.1 bt105.1).f1,(⟨(a6z bt101.1 bt105.1).f2.f0,(a6z bt101.1 bt105.1).f2.f1⟩ : S37),(⟨(a6z bt101.1 bt105.1).f3.f0,(a6z bt101.1 bt105.1).f3.f1⟩ : S37),(a6z bt101.1 bt105.1).f4,(a6z bt101.1 bt105.1).f5⟩ : S39)),bt112.2)) else (none)) else (none))) else (if bt107.1 = 1 then ((spec_l1Rd_one.f k s0_0 bt107.2 (([(-1),4,1] : List Int))).bind fun bt118 => (if 0 ≤ bt105.1 then (if bt105.1 < (bt101.1.length : Int) then (some ((bt101.1.set (bt105.1 : Int).toNat (⟨(a6z bt101.1 bt105.1).f0,bt118.1,(⟨(a6z bt101.1 bt105.1).f2.f0,(a6z bt101.1 bt105.1).f2.f1⟩ : S37),(⟨(a6z bt101.1 bt105.1).f3.f0,(a6z bt101.1 bt105.1).f3.f1⟩ : S37),(a6z bt101.1 bt105.1).f4,(a6z bt101.1 bt105.1).f5⟩ : S39)),bt118.2)) else (none)) else (none))) else (if bt107.1 = 2 then ((spec_l1Rd_one.f k s0_0 bt107.2 (([(-1),65536] : List Int))).bind fun bt124 => (if 0 ≤ bt105.1 then (if bt105.1 < (bt101.1.length : Int) then (some ((bt101.1.set (bt105.1 : Int).toNat (⟨(a6z bt101.1 bt105.1).f0,(a6z bt101.1 bt105.1).f1,(⟨(a6z bt101.1 bt105.1).f2.f0,(a6z bt101.1 bt105.1).f2.f1⟩ : S37),(⟨(a6z bt101.1 bt105.1).f3.f0,(a6z bt101.1 bt105.1).f3.f1⟩ : S37),bt124.1,(a6z bt101.1 bt105.1).f5⟩ : S39)),bt124.2)) else (none)) else (none))) else (if bt107.1 = 3 then ((spec_l12AnyBlock.f k s0_0 bt107.2).bind fun bt127 => (if 0 ≤ bt105.1 then (if bt105.1 < (bt101.1.length : Int) then (some ((bt101.1.set (bt105.1 : Int).toNat (⟨(a6z bt101.1 bt105.1).f0,(a6z bt101.1 bt105.1).f1,(⟨bt127.1,bt127.2.1⟩ : S37),(⟨(a6z bt101.1 bt105.1).f3.f0,(a6z bt101.1 bt105.1).f3.f1⟩ : S37),(a6z bt101.1 bt105.1).f4,(a6z bt101.1 bt105.1).f5⟩ : S39)),bt127.2.2)) else (none)) else (none))) else (if bt107.1 = 4 then (spec_l12AnyRules.l0 k bt101.1 s0_0 bt107.2) else (some (bt101.1,bt107.2))))))))))) = some (r1,r2):=h
 clear h
 replace H:=Option.bind_eq_some_iff.mp H
 obtain ⟨⟨t101,t104⟩,A20,H⟩:=H
 replace H : (if (t101.length : Int) = 0 then (some (t101,t104)) else ((spec_l1Rd_pick.f k s0_0 t104 (t101.length : Int)).bind fun bt105 => ((spec_l1Rd_pick.f k s0_0 bt105.2 20).bind fun bt107 => (if bt107.1 = 0 then ((spec_l1Rd_one.f k s0_0 bt107.2 (([(-1),3,0] : List Int))).bind fun bt112 => (if 0 ≤ bt105.1 then (if bt105.1 < (t101.length : Int) then (some ((t101.set (bt105.1 : Int).toNat (⟨bt112.1,(a6z t101 bt105.1).f1,(⟨(a6z t101 bt105.1).f2.f0,(a6z t101 bt105.1).f2.f1⟩ : S37),(⟨(a6z t101 bt105.1).f3.f0,(a6z t101 bt105.1).f3.f1⟩ : S37),(a6z t101 bt105.1).f4,(a6z t101 bt105.1).f5⟩ : S39)),bt112.2)) else (none)) else (none))) else (if bt107.1 = 1 then ((spec_l1Rd_one.f k s0_0 bt107.2 (([(-1),4,1] : List Int))).bind fun bt118 => (if 0 ≤ bt105.1 then (if bt105.1 < (t101.length : Int) then (some ((t101.set (bt105.1 : Int).toNat (⟨(a6z t101 bt105.1).f0,bt118.1,(⟨(a6z t101 bt105.1).f2.f0,(a6z t101 bt105.1).f2.f1⟩ : S37),(⟨(a6z t101 bt105.1).f3.f0,(a6z t101 bt105.1).f3.f1⟩ : S37),(a6z t101 bt105.1).f4,(a6z t101 bt105.1).f5⟩ : S39)),bt118.2)) else (none)) else (none))) else (if bt107.1 = 2 then ((spec_l1Rd_one.f k s0_0 bt107.2 (([(-1),65536] : List Int))).bind fun bt124 => (if 0 ≤ bt105.1 then (if bt105.1 < (t101.length : Int) then (some ((t101.set (bt105.1 : Int).toNat (⟨(a6z t101 bt105.1).f0,(a6z t101 bt105.1).f1,(⟨(a6z t101 bt105.1).f2.f0,(a6z t101 bt105.1).f2.f1⟩ : S37),(⟨(a6z t101 bt105.1).f3.f0,(a6z t101 bt105.1).f3.f1⟩ : S37),bt124.1,(a6z t101 bt105.1).f5⟩ : S39)),bt124.2)) else (none)) else (none))) else (if bt107.1 = 3 then ((spec_l12AnyBlock.f k s0_0 bt107.2).bind fun bt127 => (if 0 ≤ bt105.1 then (if bt105.1 < (t101.length : Int) then (some ((t101.set (bt105.1 : Int).toNat (⟨(a6z t101 bt105.1).f0,(a6z t101 bt105.1).f1,(⟨bt127.1,bt127.2.1⟩ : S37),(⟨(a6z t101 bt105.1).f3.f0,(a6z t101 bt105.1).f3.f1⟩ : S37),(a6z t101 bt105.1).f4,(a6z t101 bt105.1).f5⟩ : S39)),bt127.2.2)) else (none)) else (none))) else (if bt107.1 = 4 then (spec_l12AnyRules.l0 k t101 s0_0 bt107.2) else (some (t101,bt107.2)))))))))) = some (r1,r2):=H
 have A2:=a1z.mk A20
 clear A20
 by_cases c3 : (t101.length : Int) = 0
 ·rw [if_pos c3] at H
  have c3b0 : ((t101.length : Int) == 0) = true:=beq_iff_eq.mpr c3
  have c3b1 : ((t101.length : Int) != 0) = false:=bne_eq_false_iff_eq.mpr c3
  clear c3
  simp only [Option.some.injEq,Prod.mk.injEq] at H
  obtain ⟨rfl,rfl⟩:=H
  go_enter Tryz.func24,Tryz.ntmps24
  go_wp2_with (first|((with_reducible refine b2z (f:=35) rfl ?_);refine c1z (some 6) rfl rfl Tryz.func35 (by kernel_rfl) rfl #[.pointer (some ⟨g,0,none⟩)] rfl (by (try simp only [mA_,mC_,mN_]);first|done|rfl|(simp only [lD_,lT_];rfl)) ?_;(with_reducible refine (spec_l12Rules.calls k g s0_0 s0_1 t101 t104 w0 _ ?side1 ?side2 A2.1).mono ?_);(case side1 => repeat (first|(with_reducible first|exact HI0.1|apply IsS80.alloc|apply IsS80.drewN|apply IsS80.drew|apply IsS80.set_1)|exact HI0.1));(case side2 => repeat (first|(with_reducible first|exact HB.1|apply a3z|apply a0z|apply a2z|refine a5z ?_ (IsS80.ge HI0.1))|exact HB.1));rintro e w4 ⟨v102,rfl,ho0,hi,hb,hk⟩;refine ⟨_,rfl,?_⟩;have n0_:=a1z.mk (Kd.e1z ho0 (d0z (w:=w) (g:=g) (row:=none) (by repeat (first|(with_reducible first|exact HK.1|apply a7z.set_|apply b0z|apply b3z|apply keep_alloc)|exact HK.1))));have n1_:=a1z.mk (a7z.trans (by repeat (first|(with_reducible first|exact HK.1|apply a7z.set_|apply b0z|apply b3z|apply keep_alloc)|exact HK.1)) hk (.inl rfl));have n2_:=a1z.mk (hb);have n3_:=a1z.mk (hi);clear HK HB HI0;have HO103:=n0_;have HK:=n1_;have HB:=n2_;have HI0:=n3_;clear n0_ n1_ n2_ n3_;(try clear hb);(try clear hk);(try clear hi);(try clear ho0);obtain ⟨Ao5,co5,eo5⟩:=Kd.e0z HO103.1;subst eo5))
  go_ret
  exact ⟨_,by first|rfl|(simp [b5z,b4z] <;> rfl)|(simp [*,b5z,b4z] <;> rfl),by (with_reducible repeat (first|apply Kd.R_alloc|apply Kd.b6z|apply Kd.b9z));exact HO103.1,by repeat (first|(with_reducible first|exact HI0.1|apply IsS80.alloc|apply IsS80.drewN|apply IsS80.drew|apply IsS80.set_1)|exact HI0.1),by repeat (first|(with_reducible first|exact HB.1|apply a3z|apply a0z|apply a2z|refine a5z ?_ (IsS80.ge HI0.1))|exact HB.1),by repeat (first|(with_reducible first|exact HK.1|apply a7z.set_|apply b0z|apply b3z|apply keep_alloc)|exact HK.1)⟩
 ·rw [if_neg c3] at H
  have c3b0 : ((t101.length : Int) == 0) = false:=beq_eq_false_iff_ne.mpr c3
  have c3b1 : ((t101.length : Int) != 0) = true:=bne_iff_ne.mpr c3
  have c3b2 : ¬ (t101 = []):=fun h_ => c3 (by rw [h_];rfl)
  replace H:=Option.bind_eq_some_iff.mp H
  obtain ⟨⟨t105,t106⟩,A60,H⟩:=H
  replace H : ((spec_l1Rd_pick.f k s0_0 t106 20).bind fun bt107 => (if bt107.1 = 0 then ((spec_l1Rd_one.f k s0_0 bt107.2 (([(-1),3,0] : List Int))).bind fun bt112 => (if 0 ≤ t105 then (if t105 < (t101.length : Int) then (some ((t101.set (t105 : Int).toNat (⟨bt112.1,(a6z t101 t105).f1,(⟨(a6z t101 t105).f2.f0,(a6z t101 t105).f2.f1⟩ : S37),(⟨(a6z t101 t105).f3.f0,(a6z t101 t105).f3.f1⟩ : S37),(a6z t101 t105).f4,(a6z t101 t105).f5⟩ : S39)),bt112.2)) else (none)) else (none))) else (if bt107.1 = 1 then ((spec_l1Rd_one.f k s0_0 bt107.2 (([(-1),4,1] : List Int))).bind fun bt118 => (if 0 ≤ t105 then (if t105 < (t101.length : Int) then (some ((t101.set (t105 : Int).toNat (⟨(a6z t101 t105).f0,bt118.1,(⟨(a6z t101 t105).f2.f0,(a6z t101 t105).f2.f1⟩ : S37),(⟨(a6z t101 t105).f3.f0,(a6z t101 t105).f3.f1⟩ : S37),(a6z t101 t105).f4,(a6z t101 t105).f5⟩ : S39)),bt118.2)) else (none)) else (none))) else (if bt107.1 = 2 then ((spec_l1Rd_one.f k s0_0 bt107.2 (([(-1),65536] : List Int))).bind fun bt124 => (if 0 ≤ t105 then (if t105 < (t101.length : Int) then (some ((t101.set (t105 : Int).toNat (⟨(a6z t101 t105).f0,(a6z t101 t105).f1,(⟨(a6z t101 t105).f2.f0,(a6z t101 t105).f2.f1⟩ : S37),(⟨(a6z t101 t105).f3.f0,(a6z t101 t105).f3.f1⟩ : S37),bt124.1,(a6z t101 t105).f5⟩ : S39)),bt124.2)) else (none)) else (none))) else (if bt107.1 = 3 then ((spec_l12AnyBlock.f k s0_0 bt107.2).bind fun bt127 => (if 0 ≤ t105 then (if t105 < (t101.length : Int) then (some ((t101.set (t105 : Int).toNat (⟨(a6z t101 t105).f0,(a6z t101 t105).f1,(⟨bt127.1,bt127.2.1⟩ : S37),(⟨(a6z t101 t105).f3.f0,(a6z t101 t105).f3.f1⟩ : S37),(a6z t101 t105).f4,(a6z t101 t105).f5⟩ : S39)),bt127.2.2)) else (none)) else (none))) else (if bt107.1 = 4 then (spec_l12AnyRules.l0 k t101 s0_0 bt107.2) else (some (t101,bt107.2)))))))) = some (r1,r2):=H
  have A6:=a1z.mk A60
  clear A60
  replace H:=Option.bind_eq_some_iff.mp H
  obtain ⟨⟨t107,t108⟩,A70,H⟩:=H
  replace H : (if t107 = 0 then ((spec_l1Rd_one.f k s0_0 t108 (([(-1),3,0] : List Int))).bind fun bt112 => (if 0 ≤ t105 then (if t105 < (t101.length : Int) then (some ((t101.set (t105 : Int).toNat (⟨bt112.1,(a6z t101 t105).f1,(⟨(a6z t101 t105).f2.f0,(a6z t101 t105).f2.f1⟩ : S37),(⟨(a6z t101 t105).f3.f0,(a6z t101 t105).f3.f1⟩ : S37),(a6z t101 t105).f4,(a6z t101 t105).f5⟩ : S39)),bt112.2)) else (none)) else (none))) else (if t107 = 1 then ((spec_l1Rd_one.f k s0_0 t108 (([(-1),4,1] : List Int))).bind fun bt118 => (if 0 ≤ t105 then (if t105 < (t101.length : Int) then (some ((t101.set (t105 : Int).toNat (⟨(a6z t101 t105).f0,bt118.1,(⟨(a6z t101 t105).f2.f0,(a6z t101 t105).f2.f1⟩ : S37),(⟨(a6z t101 t105).f3.f0,(a6z t101 t105).f3.f1⟩ : S37),(a6z t101 t105).f4,(a6z t101 t105).f5⟩ : S39)),bt118.2)) else (none)) else (none))) else (if t107 = 2 then ((spec_l1Rd_one.f k s0_0 t108 (([(-1),65536] : List Int))).bind fun bt124 => (if 0 ≤ t105 then (if t105 < (t101.length : Int) then (some ((t101.set (t105 : Int).toNat (⟨(a6z t101 t105).f0,(a6z t101 t105).f1,(⟨(a6z t101 t105).f2.f0,(a6z t101 t105).f2.f1⟩ : S37),(⟨(a6z t101 t105).f3.f0,(a6z t101 t105).f3.f1⟩ : S37),bt124.1,(a6z t101 t105).f5⟩ : S39)),bt124.2)) else (none)) else (none))) else (if t107 = 3 then ((spec_l12AnyBlock.f k s0_0 t108).bind fun bt127 => (if 0 ≤ t105 then (if t105 < (t101.length : Int) then (some ((t101.set (t105 : Int).toNat (⟨(a6z t101 t105).f0,(a6z t101 t105).f1,(⟨bt127.1,bt127.2.1⟩ : S37),(⟨(a6z t101 t105).f3.f0,(a6z t101 t105).f3.f1⟩ : S37),(a6z t101 t105).f4,(a6z t101 t105).f5⟩ : S39)),bt127.2.2)) else (none)) else (none))) else (if t107 = 4 then (spec_l12AnyRules.l0 k t101 s0_0 t108) else (some (t101,t108))))))) = some (r1,r2):=H
  have A7:=a1z.mk A70
  clear A70
  by_cases c8 : t107 = 0
  ·rw [if_pos c8] at H
   have c8b0 : (t107 == 0) = true:=beq_iff_eq.mpr c8
   have c8b1 : (t107 != 0) = false:=bne_eq_false_iff_eq.mpr c8
   clear c8
   obtain ⟨y109,hy109⟩ : ∃ y_ : List Int,y_ = (([(-1),3,0] : List Int)):=⟨_,rfl⟩
   replace H : ((spec_l1Rd_one.f k s0_0 t108 y109).bind fun bt112 => (if 0 ≤ t105 then (if t105 < (t101.length : Int) then (some ((t101.set (t105 : Int).toNat (⟨bt112.1,(a6z t101 t105).f1,(⟨(a6z t101 t105).f2.f0,(a6z t101 t105).f2.f1⟩ : S37),(⟨(a6z t101 t105).f3.f0,(a6z t101 t105).f3.f1⟩ : S37),(a6z t101 t105).f4,(a6z t101 t105).f5⟩ : S39)),bt112.2)) else (none)) else (none))) = some (r1,r2):=by first|(rw [hy109];with_reducible exact H)|(have H2_:=(Option.bind_some _ _).symm.trans H;rw [hy109];with_reducible exact H2_)|(have H2_:=(Option.bind_some _ _).symm.trans H;with_reducible exact H2_)|with_reducible exact H|(rw [hy109];exact H)|exact H
   have Ny109:=a1z.mk hy109
   clear hy109
   replace H:=Option.bind_eq_some_iff.mp H
   obtain ⟨⟨t112,t113⟩,A90,H⟩:=H
   replace H : (if 0 ≤ t105 then (if t105 < (t101.length : Int) then (some ((t101.set (t105 : Int).toNat (⟨t112,(a6z t101 t105).f1,(⟨(a6z t101 t105).f2.f0,(a6z t101 t105).f2.f1⟩ : S37),(⟨(a6z t101 t105).f3.f0,(a6z t101 t105).f3.f1⟩ : S37),(a6z t101 t105).f4,(a6z t101 t105).f5⟩ : S39)),t113)) else (none)) else (none)) = some (r1,r2):=H
   have A9:=a1z.mk A90
   clear A90
   by_cases c10 : 0 ≤ t105
   ·rw [if_pos c10] at H
    have c10b0 : decide (0 ≤ t105) = true:=decide_eq_true c10
    clear c10
    by_cases c11 : t105 < (t101.length : Int)
    ·rw [if_pos c11] at H
     have c11b0 : decide (t105 < (t101.length : Int)) = true:=decide_eq_true c11
     clear c11
     obtain ⟨y114,hy114⟩ : ∃ y_ : List (S39),y_ = (t101.set (t105 : Int).toNat (⟨t112,(a6z t101 t105).f1,(⟨(a6z t101 t105).f2.f0,(a6z t101 t105).f2.f1⟩ : S37),(⟨(a6z t101 t105).f3.f0,(a6z t101 t105).f3.f1⟩ : S37),(a6z t101 t105).f4,(a6z t101 t105).f5⟩ : S39)):=⟨_,rfl⟩
     replace H : (some (y114,t113)) = some (r1,r2):=by first|(rw [hy114];with_reducible exact H)|(have H2_:=(Option.bind_some _ _).symm.trans H;rw [hy114];with_reducible exact H2_)|(have H2_:=(Option.bind_some _ _).symm.trans H;with_reducible exact H2_)|with_reducible exact H|(rw [hy114];exact H)|exact H
     have Ny114:=a1z.mk hy114
     clear hy114
     simp only [Option.some.injEq,Prod.mk.injEq] at H
     obtain ⟨rfl,rfl⟩:=H
     go_enter Tryz.func24,Tryz.ntmps24
     go_wp2_with (first|((with_reducible refine b2z (f:=35) rfl ?_);refine c1z (some 6) rfl rfl Tryz.func35 (by kernel_rfl) rfl #[.pointer (some ⟨g,0,none⟩)] rfl (by (try simp only [mA_,mC_,mN_]);first|done|rfl|(simp only [lD_,lT_];rfl)) ?_;(with_reducible refine (spec_l12Rules.calls k g s0_0 s0_1 t101 t104 w0 _ ?side1 ?side2 A2.1).mono ?_);(case side1 => repeat (first|(with_reducible first|exact HI0.1|apply IsS80.alloc|apply IsS80.drewN|apply IsS80.drew|apply IsS80.set_1)|exact HI0.1));(case side2 => repeat (first|(with_reducible first|exact HB.1|apply a3z|apply a0z|apply a2z|refine a5z ?_ (IsS80.ge HI0.1))|exact HB.1));rintro e w13 ⟨v102,rfl,ho0,hi,hb,hk⟩;refine ⟨_,rfl,?_⟩;have n0_:=a1z.mk (Kd.e1z ho0 (d0z (w:=w) (g:=g) (row:=none) (by repeat (first|(with_reducible first|exact HK.1|apply a7z.set_|apply b0z|apply b3z|apply keep_alloc)|exact HK.1))));have n1_:=a1z.mk (a7z.trans (by repeat (first|(with_reducible first|exact HK.1|apply a7z.set_|apply b0z|apply b3z|apply keep_alloc)|exact HK.1)) hk (.inl rfl));have n2_:=a1z.mk (hb);have n3_:=a1z.mk (hi);clear HK HB HI0;have HO103:=n0_;have HK:=n1_;have HB:=n2_;have HI0:=n3_;clear n0_ n1_ n2_ n3_;(try clear hb);(try clear hk);(try clear hi);(try clear ho0);obtain ⟨Ao14,co14,eo14⟩:=Kd.e0z HO103.1;subst eo14)|((with_reducible refine b2z (f:=50) rfl ?_);refine c1z (some 14) rfl rfl Tryz.func50 (by kernel_rfl) rfl #[.pointer (some ⟨g,0,none⟩),.int .i64 (t101.length : Int)] rfl (by (try simp only [mA_,mC_,mN_]);first|done|rfl|(simp only [lD_,lT_];rfl)) ?_;(with_reducible refine (spec_l1Rd_pick.calls k g s0_0 t104 (t101.length : Int) t105 t106 w0 _ ?side1 ?side2 A6.1).mono ?_);(case side1 => repeat (first|(with_reducible first|exact HI0.1|apply IsS80.alloc|apply IsS80.drewN|apply IsS80.drew|apply IsS80.set_1)|exact HI0.1));(case side2 => repeat (first|(with_reducible first|exact HB.1|apply a3z|apply a0z|apply a2z|refine a5z ?_ (IsS80.ge HI0.1))|exact HB.1));rintro e w15 ⟨rfl,hi,hb,hk⟩;refine ⟨_,rfl,?_⟩;have n0_:=a1z.mk (Kd.c9z (Kd.e2z (IsS80.apart (show IsS80 w0 _ g s0_0 t104 from by repeat (first|(with_reducible first|exact HI0.1|apply IsS80.alloc|apply IsS80.drewN|apply IsS80.drew|apply IsS80.set_1)|exact HI0.1)) (by (with_reducible repeat (first|apply Kd.R_alloc|apply Kd.b6z|apply Kd.b9z));exact HO103.1) (by decide)) hk (fun _ h => h.2)) (fun _ h => h.1));have n1_:=a1z.mk (a7z.trans (by repeat (first|(with_reducible first|exact HK.1|apply a7z.set_|apply b0z|apply b3z|apply keep_alloc)|exact HK.1)) hk (.inl rfl));have n2_:=a1z.mk (hb);have n3_:=a1z.mk (hi);clear HO103 HK HB HI0;have HO103:=n0_;have HK:=n1_;have HB:=n2_;have HI0:=n3_;clear n0_ n1_ n2_ n3_;(try clear hb);(try clear hk);(try clear hi))|((with_reducible refine b2z (f:=50) rfl ?_);refine c1z (some 16) rfl rfl Tryz.func50 (by kernel_rfl) rfl #[.pointer (some ⟨g,0,none⟩),.int .i64 20] rfl (by (try simp only [mA_,mC_,mN_]);first|done|rfl|(simp only [lD_,lT_];rfl)) ?_;(with_reducible refine (spec_l1Rd_pick.calls k g s0_0 t106 20 t107 t108 w0 _ ?side1 ?side2 A7.1).mono ?_);(case side1 => repeat (first|(with_reducible first|exact HI0.1|apply IsS80.alloc|apply IsS80.drewN|apply IsS80.drew|apply IsS80.set_1)|exact HI0.1));(case side2 => repeat (first|(with_reducible first|exact HB.1|apply a3z|apply a0z|apply a2z|refine a5z ?_ (IsS80.ge HI0.1))|exact HB.1));rintro e w16 ⟨rfl,hi,hb,hk⟩;refine ⟨_,rfl,?_⟩;have n0_:=a1z.mk (Kd.c9z (Kd.e2z (IsS80.apart (show IsS80 w0 _ g s0_0 t106 from by repeat (first|(with_reducible first|exact HI0.1|apply IsS80.alloc|apply IsS80.drewN|apply IsS80.drew|apply IsS80.set_1)|exact HI0.1)) (by (with_reducible repeat (first|apply Kd.R_alloc|apply Kd.b6z|apply Kd.b9z));exact HO103.1) (by decide)) hk (fun _ h => h.2)) (fun _ h => h.1));have n1_:=a1z.mk (a7z.trans (by repeat (first|(with_reducible first|exact HK.1|apply a7z.set_|apply b0z|apply b3z|apply keep_alloc)|exact HK.1)) hk (.inl rfl));have n2_:=a1z.mk (hb);have n3_:=a1z.mk (hi);clear HO103 HK HB HI0;have HO103:=n0_;have HK:=n1_;have HB:=n2_;have HI0:=n3_;clear n0_ n1_ n2_ n3_;(try clear hb);(try clear hk);(try clear hi))|((with_reducible refine c5z (N:=22) rfl ?_);refine Kd.R_lit (Kd.int .i64) _ 3 ?hg (N:=22) ?hd (xs:=([(-1),3,0] : List Int)) (inner:=[.int .i64 (-1),.int .i64 3,.int .i64 0]) (ok:=fun _ => True) (okp:=fun _ => True) ?hr ?hp (fun _ hk => hk) trivial (Below.refl _ _) (Nat.le_refl _) (by simp) ?_;(case hd => rfl);(case hg => rfl);(case hr => first|(go_simp;done)|(go_simp;rfl));(case hp => exact (Reps.one (show Kd.M (Kd.int .i64) _ _ _ (-1) [.int .i64 (-1)] from rfl) (Reps.one (show Kd.M (Kd.int .i64) _ _ _ 3 [.int .i64 3] from rfl) (Reps.one (show Kd.M (Kd.int .i64) _ _ _ 0 [.int .i64 0] from rfl) (Reps.none _ _)))));intro v110 w17 ho18 hb hg_ hnew_;clear hg_ hnew_;(first|rw [← Ny109.1] at ho18|(simp only [Int.reduceToNat] at ho18;rw [← Ny109.1] at ho18));have n0_:=a1z.mk (Kd.d3z (by (with_reducible repeat (first|apply Kd.R_alloc|apply Kd.b6z|apply Kd.b9z));exact HO103.1) hb);have n1_:=a1z.mk (Kd.e1z ho18 (d0z (w:=w) (g:=g) (row:=none) (by repeat (first|(with_reducible first|exact HK.1|apply a7z.set_|apply b0z|apply b3z|apply keep_alloc)|exact HK.1))));have n2_:=a1z.mk (IsS80.below (by repeat (first|(with_reducible first|exact HI0.1|apply IsS80.alloc|apply IsS80.drewN|apply IsS80.drew|apply IsS80.set_1)|exact HI0.1)) hb);have n3_:=a1z.mk (a7z.trans (by repeat (first|(with_reducible first|exact HK.1|apply a7z.set_|apply b0z|apply b3z|apply keep_alloc)|exact HK.1)) (a7z.e3z hb g none) (.inl rfl));have n4_:=a1z.mk (b1z (by repeat (first|(with_reducible first|exact HB.1|apply a3z|apply a0z|apply a2z|refine a5z ?_ (IsS80.ge HI0.1))|exact HB.1)) hb);clear HO103 HI0 HK HB;have HO103:=n0_;have HO111:=n1_;have HI0:=n2_;have HK:=n3_;have HB:=n4_;clear n0_ n1_ n2_ n3_ n4_;clear hb ho18;obtain ⟨Ao19,co19,eo19⟩:=Kd.e0z HO111.1;subst eo19)|((with_reducible refine b2z (f:=51) rfl ?_);refine c1z (some 23) rfl rfl Tryz.func51 (by kernel_rfl) rfl #[.pointer (some ⟨g,0,none⟩),.slice Ao19 y109.length co19] rfl (by (try simp only [mA_,mC_,mN_]);first|done|rfl|(simp only [lD_,lT_];rfl)) ?_;(with_reducible refine (spec_l1Rd_one.calls k g s0_0 t108 _ _ y109 t112 t113 w0 _ ?side1 ?side2 ?side3 ?side4 ?side5 A9.1).mono ?_);(case side1 => repeat (first|(with_reducible first|exact HI0.1|apply IsS80.alloc|apply IsS80.drewN|apply IsS80.drew|apply IsS80.set_1)|exact HI0.1));(case side2 => repeat (first|(with_reducible first|exact HB.1|apply a3z|apply a0z|apply a2z|refine a5z ?_ (IsS80.ge HI0.1))|exact HB.1));(case side3 => repeat (first|exact (Kd.c2z HO111.1).2.2|(with_reducible refine Kd.C_alloc ?_ _)|(with_reducible refine Kd.C_drewN ?_ _)|(with_reducible refine Kd.e5z ?_)));(case side4 => exact (Kd.c2z HO111.1).2.1);(case side5 => exact f2z (IsS80.own_ne HI0.1 HO111.1 (by decide)));rintro e w20 ⟨rfl,hi,hb,hk⟩;refine ⟨_,rfl,?_⟩;have n0_:=a1z.mk (Kd.c9z (Kd.e2z (IsS80.apart (show IsS80 w0 _ g s0_0 t108 from by repeat (first|(with_reducible first|exact HI0.1|apply IsS80.alloc|apply IsS80.drewN|apply IsS80.drew|apply IsS80.set_1)|exact HI0.1)) (by (with_reducible repeat (first|apply Kd.R_alloc|apply Kd.b6z|apply Kd.b9z));exact HO103.1) (by decide)) hk (fun _ h => h.2)) (fun _ h => h.1));have n1_:=a1z.mk (Kd.c9z (Kd.e2z (IsS80.apart (show IsS80 w0 _ g s0_0 t108 from by repeat (first|(with_reducible first|exact HI0.1|apply IsS80.alloc|apply IsS80.drewN|apply IsS80.drew|apply IsS80.set_1)|exact HI0.1)) (by (with_reducible repeat (first|apply Kd.R_alloc|apply Kd.b6z|apply Kd.b9z));exact HO111.1) (by decide)) hk (fun _ h => h.2)) (fun _ h => h.1));have n2_:=a1z.mk (a7z.trans (by repeat (first|(with_reducible first|exact HK.1|apply a7z.set_|apply b0z|apply b3z|apply keep_alloc)|exact HK.1)) hk (.inl rfl));have n3_:=a1z.mk (hb);have n4_:=a1z.mk (hi);clear HO103 HO111 HK HB HI0;have HO103:=n0_;have HO111:=n1_;have HK:=n2_;have HB:=n3_;have HI0:=n4_;clear n0_ n1_ n2_ n3_ n4_;(try clear hb);(try clear hk);(try clear hi);have p12 : 0 ≤ (t105 : Int):=of_decide_eq_true (by first|(with_reducible assumption)|assumption);have q12 : (t105 : Int) < ((t101.length : Int) : Int):=of_decide_eq_true (by first|(with_reducible assumption)|assumption);obtain ⟨go12,co12,eo12,gb12,gl12,cl12,HG12⟩:=Kd.R_form HO103.1 (by omega);(first|cases eo12|(injection eo12 with ea_ en_ ec_;(first|subst ea_|(injection ea_ with ea_;subst ea_));subst ec_;clear en_));have GB12:=a1z.mk gb12;have GG12:=a1z.mk HG12;clear gb12 gl12 HG12;obtain ⟨ce12,hcl12,hM12,hcc12,hfr12⟩:=Kd.R_elem HO103.1 z39 (t105 : Int) p12 q12;obtain rfl:=h4z hM12;have hx12_0 : w20.cell? ⟨go12,(t105 : Int).toNat * 8,none⟩ = some (.int .i64 ((a6z t101 t105).f0)):=hcc12 0 _ rfl;have hx12_1 : w20.cell? ⟨go12,(t105 : Int).toNat * 8 + 1,none⟩ = some (.int .i64 ((a6z t101 t105).f1)):=hcc12 1 _ rfl;have hx12_2 : w20.cell? ⟨go12,(t105 : Int).toNat * 8 + 2,none⟩ = some (.int .i64 ((a6z t101 t105).f2.f0)):=hcc12 2 _ rfl;have hx12_3 : w20.cell? ⟨go12,(t105 : Int).toNat * 8 + 3,none⟩ = some (.int .i64 ((a6z t101 t105).f2.f1)):=hcc12 3 _ rfl;have hx12_4 : w20.cell? ⟨go12,(t105 : Int).toNat * 8 + 4,none⟩ = some (.int .i64 ((a6z t101 t105).f3.f0)):=hcc12 4 _ rfl;have hx12_5 : w20.cell? ⟨go12,(t105 : Int).toNat * 8 + 5,none⟩ = some (.int .i64 ((a6z t101 t105).f3.f1)):=hcc12 5 _ rfl;have hx12_6 : w20.cell? ⟨go12,(t105 : Int).toNat * 8 + 6,none⟩ = some (.int .i64 ((a6z t101 t105).f4)):=hcc12 6 _ rfl;have hx12_7 : w20.cell? ⟨go12,(t105 : Int).toNat * 8 + 7,none⟩ = some (.int .i64 ((a6z t101 t105).f5)):=hcc12 7 _ rfl;have hf12_0 : w20.frozen? ⟨go12,(t105 : Int).toNat * 8,none⟩ = false:=hfr12 0;have hf12_1 : w20.frozen? ⟨go12,(t105 : Int).toNat * 8 + 1,none⟩ = false:=hfr12 1;have hf12_2 : w20.frozen? ⟨go12,(t105 : Int).toNat * 8 + 2,none⟩ = false:=hfr12 2;have hf12_3 : w20.frozen? ⟨go12,(t105 : Int).toNat * 8 + 3,none⟩ = false:=hfr12 3;have hf12_4 : w20.frozen? ⟨go12,(t105 : Int).toNat * 8 + 4,none⟩ = false:=hfr12 4;have hf12_5 : w20.frozen? ⟨go12,(t105 : Int).toNat * 8 + 5,none⟩ = false:=hfr12 5;have hf12_6 : w20.frozen? ⟨go12,(t105 : Int).toNat * 8 + 6,none⟩ = false:=hfr12 6;have hf12_7 : w20.frozen? ⟨go12,(t105 : Int).toNat * 8 + 7,none⟩ = false:=hfr12 7;clear hcl12 hcc12 hfr12 hM12;replace p12:=eq_true p12;replace q12:=eq_true q12;have HX21:=a1z.mk (show Kd.R k39 39 w20 w.heap.size (fun _ => True) (.slice (some ⟨go12,0,none⟩) t101.length co14) t101 from (by (with_reducible repeat (first|apply Kd.R_alloc|apply Kd.b6z|apply Kd.b9z));exact HO103.1));obtain ⟨ce21,hcl21,hM21,hcc21,hfr21⟩:=Kd.R_elem HX21.1 z39 (t105 : Int) (of_decide_eq_true (by first|(with_reducible assumption)|assumption)) (by have h_ : (t105 : Int) < ((t101.length : Int) : Int):=of_decide_eq_true (by first|(with_reducible assumption)|assumption);first|exact h_|(have e_:=(Kd.c2z HO103.1).1;omega)|simpa using h_);obtain rfl:=h4z hM21;have HP21:=Kd.R_seg HX21.1 (t105 : Int) (of_decide_eq_true (by first|(with_reducible assumption)|assumption)) (by have h_ : (t105 : Int) < ((t101.length : Int) : Int):=of_decide_eq_true (by first|(with_reducible assumption)|assumption);first|exact h_|(have e_:=(Kd.c2z HO103.1).1;omega)|simpa using h_) (seg:=[.int .i64 t112]) (j:=0) hcl21 hcc21 (show 1 ≤ 8 from by decide) (x':=(⟨t112,(a6z t101 t105).f1,(⟨(a6z t101 t105).f2.f0,(a6z t101 t105).f2.f1⟩ : S37),(⟨(a6z t101 t105).f3.f0,(a6z t101 t105).f3.f1⟩ : S37),(a6z t101 t105).f4,(a6z t101 t105).f5⟩ : S39)) (k39_mkM _ _ _ (⟨t112,(a6z t101 t105).f1,(⟨(a6z t101 t105).f2.f0,(a6z t101 t105).f2.f1⟩ : S37),(⟨(a6z t101 t105).f3.f0,(a6z t101 t105).f3.f1⟩ : S37),(a6z t101 t105).f4,(a6z t101 t105).f5⟩ : S39) ) (fun _ hk => hk);have hx21_0:=hcc21 0 _ rfl;(try simp only [show (k39).sz = 8 from rfl,Nat.mul_one,Nat.add_zero] at hx21_0);have hf21_0:=hfr21 0;(try simp only [show (k39).sz = 8 from rfl,Nat.mul_one,Nat.add_zero] at hf21_0);clear hcl21 hcc21 hfr21 hM21)|((with_reducible refine gate_store (t:=3) (p:=25) rfl ?_);refine store_event (t:=3) (p:=25) (v:=?vo_w22) (w1:=(w20.setCell ⟨go12,(t105 : Int).toNat * 8,none⟩ (.int .i64 t112))) ?hg ?ho ?hn ?hr ?_;(case ho => rfl);(case hg => rfl);(case hn => rfl);(case hr => first|(go_simp;done)|(go_simp;rfl));intro w22 hw;have hg : w20.grownBy w22 (some go12):=(by rw [hw];exact HP21.2);have hp_ : Kd.R k39 39 w22 w.heap.size (fun _ => True) (.slice (some ⟨go12,0,none⟩) t101.length co14) y114:=(by rw [hw,Ny114.1];exact HP21.1);clear HP21;have n0_:=a1z.mk (IsS80.grown (by repeat (first|(with_reducible first|exact HI0.1|apply IsS80.alloc|apply IsS80.drewN|apply IsS80.drew|apply IsS80.set_1)|exact HI0.1)) hg (IsS80.own_ne HI0.1 HO103.1 (by decide)));have n1_:=a1z.mk (hp_);have n2_:=a1z.mk (Kd.R_over' (v:=(.slice (some ⟨go12,0,none⟩) t101.length co14)) (by (with_reducible repeat (first|apply Kd.R_alloc|apply Kd.b6z|apply Kd.b9z));exact HO111.1) (Kd.R_typed HO103.1) (by decide) hg);have n3_:=a1z.mk ((by rw [hw];exact a5z (HB.1) (Nat.le_trans HL.1 GB12.1) : Below w0.heap.size w0 w22));have n4_:=a1z.mk (a7z.trans (by repeat (first|(with_reducible first|exact HK.1|apply a7z.set_|apply b0z|apply b3z|apply keep_alloc)|exact HK.1)) (a7z.of_grown hg g) (Kd.R_base2 HO103.1));clear HI0 HO103 HO111 HB HK;have HI0:=n0_;have HO103:=n1_;have HO111:=n2_;have HB:=n3_;have HK:=n4_;clear n0_ n1_ n2_ n3_ n4_;clear hg hw hp_))
     go_ret
     exact ⟨_,by first|rfl|(simp [b5z,b4z] <;> rfl)|(simp [*,b5z,b4z] <;> rfl),by (with_reducible repeat (first|apply Kd.R_alloc|apply Kd.b6z|apply Kd.b9z));exact HO103.1,by repeat (first|(with_reducible first|exact HI0.1|apply IsS80.alloc|apply IsS80.drewN|apply IsS80.drew|apply IsS80.set_1)|exact HI0.1),by repeat (first|(with_reducible first|exact HB.1|apply a3z|apply a0z|apply a2z|refine a5z ?_ (IsS80.ge HI0.1))|exact HB.1),by repeat (first|(with_reducible first|exact HK.1|apply a7z.set_|apply b0z|apply b3z|apply keep_alloc)|exact HK.1)⟩
    ·rw [if_neg c11] at H
     exact absurd H (by simp)
   ·rw [if_neg c10] at H
    exact absurd H (by simp)
  ·rw [if_neg c8] at H
   have c8b0 : (t107 == 0) = false:=beq_eq_false_iff_ne.mpr c8
   have c8b1 : (t107 != 0) = true:=bne_iff_ne.mpr c8
   by_cases c23 : t107 = 1
   ·rw [if_pos c23] at H
    have c23b0 : (t107 == 1) = true:=beq_iff_eq.mpr c23
    have c23b1 : (t107 != 1) = false:=bne_eq_false_iff_eq.mpr c23
    clear c23
    obtain ⟨y115,hy115⟩ : ∃ y_ : List Int,y_ = (([(-1),4,1] : List Int)):=⟨_,rfl⟩
    replace H : ((spec_l1Rd_one.f k s0_0 t108 y115).bind fun bt118 => (if 0 ≤ t105 then (if t105 < (t101.length : Int) then (some ((t101.set (t105 : Int).toNat (⟨(a6z t101 t105).f0,bt118.1,(⟨(a6z t101 t105).f2.f0,(a6z t101 t105).f2.f1⟩ : S37),(⟨(a6z t101 t105).f3.f0,(a6z t101 t105).f3.f1⟩ : S37),(a6z t101 t105).f4,(a6z t101 t105).f5⟩ : S39)),bt118.2)) else (none)) else (none))) = some (r1,r2):=by first|(rw [hy115];with_reducible exact H)|(have H2_:=(Option.bind_some _ _).symm.trans H;rw [hy115];with_reducible exact H2_)|(have H2_:=(Option.bind_some _ _).symm.trans H;with_reducible exact H2_)|with_reducible exact H|(rw [hy115];exact H)|exact H
    have Ny115:=a1z.mk hy115
    clear hy115
    replace H:=Option.bind_eq_some_iff.mp H
    obtain ⟨⟨t118,t119⟩,A240,H⟩:=H
    replace H : (if 0 ≤ t105 then (if t105 < (t101.length : Int) then (some ((t101.set (t105 : Int).toNat (⟨(a6z t101 t105).f0,t118,(⟨(a6z t101 t105).f2.f0,(a6z t101 t105).f2.f1⟩ : S37),(⟨(a6z t101 t105).f3.f0,(a6z t101 t105).f3.f1⟩ : S37),(a6z t101 t105).f4,(a6z t101 t105).f5⟩ : S39)),t119)) else (none)) else (none)) = some (r1,r2):=H
    have A24:=a1z.mk A240
    clear A240
    by_cases c25 : 0 ≤ t105
    ·rw [if_pos c25] at H
     have c25b0 : decide (0 ≤ t105) = true:=decide_eq_true c25
     clear c25
     by_cases c26 : t105 < (t101.length : Int)
     ·rw [if_pos c26] at H
      have c26b0 : decide (t105 < (t101.length : Int)) = true:=decide_eq_true c26
      clear c26
      obtain ⟨y120,hy120⟩ : ∃ y_ : List (S39),y_ = (t101.set (t105 : Int).toNat (⟨(a6z t101 t105).f0,t118,(⟨(a6z t101 t105).f2.f0,(a6z t101 t105).f2.f1⟩ : S37),(⟨(a6z t101 t105).f3.f0,(a6z t101 t105).f3.f1⟩ : S37),(a6z t101 t105).f4,(a6z t101 t105).f5⟩ : S39)):=⟨_,rfl⟩
      replace H : (some (y120,t119)) = some (r1,r2):=by first|(rw [hy120];with_reducible exact H)|(have H2_:=(Option.bind_some _ _).symm.trans H;rw [hy120];with_reducible exact H2_)|(have H2_:=(Option.bind_some _ _).symm.trans H;with_reducible exact H2_)|with_reducible exact H|(rw [hy120];exact H)|exact H
      have Ny120:=a1z.mk hy120
      clear hy120
      simp only [Option.some.injEq,Prod.mk.injEq] at H
      obtain ⟨rfl,rfl⟩:=H
      go_enter Tryz.func24,Tryz.ntmps24
      go_wp2_with (first|((with_reducible refine b2z (f:=35) rfl ?_);refine c1z (some 6) rfl rfl Tryz.func35 (by kernel_rfl) rfl #[.pointer (some ⟨g,0,none⟩)] rfl (by (try simp only [mA_,mC_,mN_]);first|done|rfl|(simp only [lD_,lT_];rfl)) ?_;(with_reducible refine (spec_l12Rules.calls k g s0_0 s0_1 t101 t104 w0 _ ?side1 ?side2 A2.1).mono ?_);(case side1 => repeat (first|(with_reducible first|exact HI0.1|apply IsS80.alloc|apply IsS80.drewN|apply IsS80.drew|apply IsS80.set_1)|exact HI0.1));(case side2 => repeat (first|(with_reducible first|exact HB.1|apply a3z|apply a0z|apply a2z|refine a5z ?_ (IsS80.ge HI0.1))|exact HB.1));rintro e w28 ⟨v102,rfl,ho0,hi,hb,hk⟩;refine ⟨_,rfl,?_⟩;have n0_:=a1z.mk (Kd.e1z ho0 (d0z (w:=w) (g:=g) (row:=none) (by repeat (first|(with_reducible first|exact HK.1|apply a7z.set_|apply b0z|apply b3z|apply keep_alloc)|exact HK.1))));have n1_:=a1z.mk (a7z.trans (by repeat (first|(with_reducible first|exact HK.1|apply a7z.set_|apply b0z|apply b3z|apply keep_alloc)|exact HK.1)) hk (.inl rfl));have n2_:=a1z.mk (hb);have n3_:=a1z.mk (hi);clear HK HB HI0;have HO103:=n0_;have HK:=n1_;have HB:=n2_;have HI0:=n3_;clear n0_ n1_ n2_ n3_;(try clear hb);(try clear hk);(try clear hi);(try clear ho0);obtain ⟨Ao29,co29,eo29⟩:=Kd.e0z HO103.1;subst eo29)|((with_reducible refine b2z (f:=50) rfl ?_);refine c1z (some 14) rfl rfl Tryz.func50 (by kernel_rfl) rfl #[.pointer (some ⟨g,0,none⟩),.int .i64 (t101.length : Int)] rfl (by (try simp only [mA_,mC_,mN_]);first|done|rfl|(simp only [lD_,lT_];rfl)) ?_;(with_reducible refine (spec_l1Rd_pick.calls k g s0_0 t104 (t101.length : Int) t105 t106 w0 _ ?side1 ?side2 A6.1).mono ?_);(case side1 => repeat (first|(with_reducible first|exact HI0.1|apply IsS80.alloc|apply IsS80.drewN|apply IsS80.drew|apply IsS80.set_1)|exact HI0.1));(case side2 => repeat (first|(with_reducible first|exact HB.1|apply a3z|apply a0z|apply a2z|refine a5z ?_ (IsS80.ge HI0.1))|exact HB.1));rintro e w30 ⟨rfl,hi,hb,hk⟩;refine ⟨_,rfl,?_⟩;have n0_:=a1z.mk (Kd.c9z (Kd.e2z (IsS80.apart (show IsS80 w0 _ g s0_0 t104 from by repeat (first|(with_reducible first|exact HI0.1|apply IsS80.alloc|apply IsS80.drewN|apply IsS80.drew|apply IsS80.set_1)|exact HI0.1)) (by (with_reducible repeat (first|apply Kd.R_alloc|apply Kd.b6z|apply Kd.b9z));exact HO103.1) (by decide)) hk (fun _ h => h.2)) (fun _ h => h.1));have n1_:=a1z.mk (a7z.trans (by repeat (first|(with_reducible first|exact HK.1|apply a7z.set_|apply b0z|apply b3z|apply keep_alloc)|exact HK.1)) hk (.inl rfl));have n2_:=a1z.mk (hb);have n3_:=a1z.mk (hi);clear HO103 HK HB HI0;have HO103:=n0_;have HK:=n1_;have HB:=n2_;have HI0:=n3_;clear n0_ n1_ n2_ n3_;(try clear hb);(try clear hk);(try clear hi))|((with_reducible refine b2z (f:=50) rfl ?_);refine c1z (some 16) rfl rfl Tryz.func50 (by kernel_rfl) rfl #[.pointer (some ⟨g,0,none⟩),.int .i64 20] rfl (by (try simp only [mA_,mC_,mN_]);first|done|rfl|(simp only [lD_,lT_];rfl)) ?_;(with_reducible refine (spec_l1Rd_pick.calls k g s0_0 t106 20 t107 t108 w0 _ ?side1 ?side2 A7.1).mono ?_);(case side1 => repeat (first|(with_reducible first|exact HI0.1|apply IsS80.alloc|apply IsS80.drewN|apply IsS80.drew|apply IsS80.set_1)|exact HI0.1));(case side2 => repeat (first|(with_reducible first|exact HB.1|apply a3z|apply a0z|apply a2z|refine a5z ?_ (IsS80.ge HI0.1))|exact HB.1));rintro e w31 ⟨rfl,hi,hb,hk⟩;refine ⟨_,rfl,?_⟩;have n0_:=a1z.mk (Kd.c9z (Kd.e2z (IsS80.apart (show IsS80 w0 _ g s0_0 t106 from by repeat (first|(with_reducible first|exact HI0.1|apply IsS80.alloc|apply IsS80.drewN|apply IsS80.drew|apply IsS80.set_1)|exact HI0.1)) (by (with_reducible repeat (first|apply Kd.R_alloc|apply Kd.b6z|apply Kd.b9z));exact HO103.1) (by decide)) hk (fun _ h => h.2)) (fun _ h => h.1));have n1_:=a1z.mk (a7z.trans (by repeat (first|(with_reducible first|exact HK.1|apply a7z.set_|apply b0z|apply b3z|apply keep_alloc)|exact HK.1)) hk (.inl rfl));have n2_:=a1z.mk (hb);have n3_:=a1z.mk (hi);clear HO103 HK HB HI0;have HO103:=n0_;have HK:=n1_;have HB:=n2_;have HI0:=n3_;clear n0_ n1_ n2_ n3_;(try clear hb);(try clear hk);(try clear hi))|((with_reducible refine c5z (N:=31) rfl ?_);refine Kd.R_lit (Kd.int .i64) _ 3 ?hg (N:=31) ?hd (xs:=([(-1),4,1] : List Int)) (inner:=[.int .i64 (-1),.int .i64 4,.int .i64 1]) (ok:=fun _ => True) (okp:=fun _ => True) ?hr ?hp (fun _ hk => hk) trivial (Below.refl _ _) (Nat.le_refl _) (by simp) ?_;(case hd => rfl);(case hg => rfl);(case hr => first|(go_simp;done)|(go_simp;rfl));(case hp => exact (Reps.one (show Kd.M (Kd.int .i64) _ _ _ (-1) [.int .i64 (-1)] from rfl) (Reps.one (show Kd.M (Kd.int .i64) _ _ _ 4 [.int .i64 4] from rfl) (Reps.one (show Kd.M (Kd.int .i64) _ _ _ 1 [.int .i64 1] from rfl) (Reps.none _ _)))));intro v116 w32 ho33 hb hg_ hnew_;clear hg_ hnew_;(first|rw [← Ny115.1] at ho33|(simp only [Int.reduceToNat] at ho33;rw [← Ny115.1] at ho33));have n0_:=a1z.mk (Kd.d3z (by (with_reducible repeat (first|apply Kd.R_alloc|apply Kd.b6z|apply Kd.b9z));exact HO103.1) hb);have n1_:=a1z.mk (Kd.e1z ho33 (d0z (w:=w) (g:=g) (row:=none) (by repeat (first|(with_reducible first|exact HK.1|apply a7z.set_|apply b0z|apply b3z|apply keep_alloc)|exact HK.1))));have n2_:=a1z.mk (IsS80.below (by repeat (first|(with_reducible first|exact HI0.1|apply IsS80.alloc|apply IsS80.drewN|apply IsS80.drew|apply IsS80.set_1)|exact HI0.1)) hb);have n3_:=a1z.mk (a7z.trans (by repeat (first|(with_reducible first|exact HK.1|apply a7z.set_|apply b0z|apply b3z|apply keep_alloc)|exact HK.1)) (a7z.e3z hb g none) (.inl rfl));have n4_:=a1z.mk (b1z (by repeat (first|(with_reducible first|exact HB.1|apply a3z|apply a0z|apply a2z|refine a5z ?_ (IsS80.ge HI0.1))|exact HB.1)) hb);clear HO103 HI0 HK HB;have HO103:=n0_;have HO117:=n1_;have HI0:=n2_;have HK:=n3_;have HB:=n4_;clear n0_ n1_ n2_ n3_ n4_;clear hb ho33;obtain ⟨Ao34,co34,eo34⟩:=Kd.e0z HO117.1;subst eo34)|((with_reducible refine b2z (f:=51) rfl ?_);refine c1z (some 32) rfl rfl Tryz.func51 (by kernel_rfl) rfl #[.pointer (some ⟨g,0,none⟩),.slice Ao34 y115.length co34] rfl (by (try simp only [mA_,mC_,mN_]);first|done|rfl|(simp only [lD_,lT_];rfl)) ?_;(with_reducible refine (spec_l1Rd_one.calls k g s0_0 t108 _ _ y115 t118 t119 w0 _ ?side1 ?side2 ?side3 ?side4 ?side5 A24.1).mono ?_);(case side1 => repeat (first|(with_reducible first|exact HI0.1|apply IsS80.alloc|apply IsS80.drewN|apply IsS80.drew|apply IsS80.set_1)|exact HI0.1));(case side2 => repeat (first|(with_reducible first|exact HB.1|apply a3z|apply a0z|apply a2z|refine a5z ?_ (IsS80.ge HI0.1))|exact HB.1));(case side3 => repeat (first|exact (Kd.c2z HO117.1).2.2|(with_reducible refine Kd.C_alloc ?_ _)|(with_reducible refine Kd.C_drewN ?_ _)|(with_reducible refine Kd.e5z ?_)));(case side4 => exact (Kd.c2z HO117.1).2.1);(case side5 => exact f2z (IsS80.own_ne HI0.1 HO117.1 (by decide)));rintro e w35 ⟨rfl,hi,hb,hk⟩;refine ⟨_,rfl,?_⟩;have n0_:=a1z.mk (Kd.c9z (Kd.e2z (IsS80.apart (show IsS80 w0 _ g s0_0 t108 from by repeat (first|(with_reducible first|exact HI0.1|apply IsS80.alloc|apply IsS80.drewN|apply IsS80.drew|apply IsS80.set_1)|exact HI0.1)) (by (with_reducible repeat (first|apply Kd.R_alloc|apply Kd.b6z|apply Kd.b9z));exact HO103.1) (by decide)) hk (fun _ h => h.2)) (fun _ h => h.1));have n1_:=a1z.mk (Kd.c9z (Kd.e2z (IsS80.apart (show IsS80 w0 _ g s0_0 t108 from by repeat (first|(with_reducible first|exact HI0.1|apply IsS80.alloc|apply IsS80.drewN|apply IsS80.drew|apply IsS80.set_1)|exact HI0.1)) (by (with_reducible repeat (first|apply Kd.R_alloc|apply Kd.b6z|apply Kd.b9z));exact HO117.1) (by decide)) hk (fun _ h => h.2)) (fun _ h => h.1));have n2_:=a1z.mk (a7z.trans (by repeat (first|(with_reducible first|exact HK.1|apply a7z.set_|apply b0z|apply b3z|apply keep_alloc)|exact HK.1)) hk (.inl rfl));have n3_:=a1z.mk (hb);have n4_:=a1z.mk (hi);clear HO103 HO117 HK HB HI0;have HO103:=n0_;have HO117:=n1_;have HK:=n2_;have HB:=n3_;have HI0:=n4_;clear n0_ n1_ n2_ n3_ n4_;(try clear hb);(try clear hk);(try clear hi);have p27 : 0 ≤ (t105 : Int):=of_decide_eq_true (by first|(with_reducible assumption)|assumption);have q27 : (t105 : Int) < ((t101.length : Int) : Int):=of_decide_eq_true (by first|(with_reducible assumption)|assumption);obtain ⟨go27,co27,eo27,gb27,gl27,cl27,HG27⟩:=Kd.R_form HO103.1 (by omega);(first|cases eo27|(injection eo27 with ea_ en_ ec_;(first|subst ea_|(injection ea_ with ea_;subst ea_));subst ec_;clear en_));have GB27:=a1z.mk gb27;have GG27:=a1z.mk HG27;clear gb27 gl27 HG27;obtain ⟨ce27,hcl27,hM27,hcc27,hfr27⟩:=Kd.R_elem HO103.1 z39 (t105 : Int) p27 q27;obtain rfl:=h4z hM27;have hx27_0 : w35.cell? ⟨go27,(t105 : Int).toNat * 8,none⟩ = some (.int .i64 ((a6z t101 t105).f0)):=hcc27 0 _ rfl;have hx27_1 : w35.cell? ⟨go27,(t105 : Int).toNat * 8 + 1,none⟩ = some (.int .i64 ((a6z t101 t105).f1)):=hcc27 1 _ rfl;have hx27_2 : w35.cell? ⟨go27,(t105 : Int).toNat * 8 + 2,none⟩ = some (.int .i64 ((a6z t101 t105).f2.f0)):=hcc27 2 _ rfl;have hx27_3 : w35.cell? ⟨go27,(t105 : Int).toNat * 8 + 3,none⟩ = some (.int .i64 ((a6z t101 t105).f2.f1)):=hcc27 3 _ rfl;have hx27_4 : w35.cell? ⟨go27,(t105 : Int).toNat * 8 + 4,none⟩ = some (.int .i64 ((a6z t101 t105).f3.f0)):=hcc27 4 _ rfl;have hx27_5 : w35.cell? ⟨go27,(t105 : Int).toNat * 8 + 5,none⟩ = some (.int .i64 ((a6z t101 t105).f3.f1)):=hcc27 5 _ rfl;have hx27_6 : w35.cell? ⟨go27,(t105 : Int).toNat * 8 + 6,none⟩ = some (.int .i64 ((a6z t101 t105).f4)):=hcc27 6 _ rfl;have hx27_7 : w35.cell? ⟨go27,(t105 : Int).toNat * 8 + 7,none⟩ = some (.int .i64 ((a6z t101 t105).f5)):=hcc27 7 _ rfl;have hf27_0 : w35.frozen? ⟨go27,(t105 : Int).toNat * 8,none⟩ = false:=hfr27 0;have hf27_1 : w35.frozen? ⟨go27,(t105 : Int).toNat * 8 + 1,none⟩ = false:=hfr27 1;have hf27_2 : w35.frozen? ⟨go27,(t105 : Int).toNat * 8 + 2,none⟩ = false:=hfr27 2;have hf27_3 : w35.frozen? ⟨go27,(t105 : Int).toNat * 8 + 3,none⟩ = false:=hfr27 3;have hf27_4 : w35.frozen? ⟨go27,(t105 : Int).toNat * 8 + 4,none⟩ = false:=hfr27 4;have hf27_5 : w35.frozen? ⟨go27,(t105 : Int).toNat * 8 + 5,none⟩ = false:=hfr27 5;have hf27_6 : w35.frozen? ⟨go27,(t105 : Int).toNat * 8 + 6,none⟩ = false:=hfr27 6;have hf27_7 : w35.frozen? ⟨go27,(t105 : Int).toNat * 8 + 7,none⟩ = false:=hfr27 7;clear hcl27 hcc27 hfr27 hM27;replace p27:=eq_true p27;replace q27:=eq_true q27;have HX36:=a1z.mk (show Kd.R k39 39 w35 w.heap.size (fun _ => True) (.slice (some ⟨go27,0,none⟩) t101.length co29) t101 from (by (with_reducible repeat (first|apply Kd.R_alloc|apply Kd.b6z|apply Kd.b9z));exact HO103.1));obtain ⟨ce36,hcl36,hM36,hcc36,hfr36⟩:=Kd.R_elem HX36.1 z39 (t105 : Int) (of_decide_eq_true (by first|(with_reducible assumption)|assumption)) (by have h_ : (t105 : Int) < ((t101.length : Int) : Int):=of_decide_eq_true (by first|(with_reducible assumption)|assumption);first|exact h_|(have e_:=(Kd.c2z HO103.1).1;omega)|simpa using h_);obtain rfl:=h4z hM36;have HP36:=Kd.R_seg HX36.1 (t105 : Int) (of_decide_eq_true (by first|(with_reducible assumption)|assumption)) (by have h_ : (t105 : Int) < ((t101.length : Int) : Int):=of_decide_eq_true (by first|(with_reducible assumption)|assumption);first|exact h_|(have e_:=(Kd.c2z HO103.1).1;omega)|simpa using h_) (seg:=[.int .i64 t118]) (j:=1) hcl36 hcc36 (show 2 ≤ 8 from by decide) (x':=(⟨(a6z t101 t105).f0,t118,(⟨(a6z t101 t105).f2.f0,(a6z t101 t105).f2.f1⟩ : S37),(⟨(a6z t101 t105).f3.f0,(a6z t101 t105).f3.f1⟩ : S37),(a6z t101 t105).f4,(a6z t101 t105).f5⟩ : S39)) (k39_mkM _ _ _ (⟨(a6z t101 t105).f0,t118,(⟨(a6z t101 t105).f2.f0,(a6z t101 t105).f2.f1⟩ : S37),(⟨(a6z t101 t105).f3.f0,(a6z t101 t105).f3.f1⟩ : S37),(a6z t101 t105).f4,(a6z t101 t105).f5⟩ : S39) ) (fun _ hk => hk);have hx36_1:=hcc36 1 _ rfl;(try simp only [show (k39).sz = 8 from rfl,Nat.mul_one,Nat.add_zero] at hx36_1);have hf36_1:=hfr36 1;(try simp only [show (k39).sz = 8 from rfl,Nat.mul_one,Nat.add_zero] at hf36_1);clear hcl36 hcc36 hfr36 hM36)|((with_reducible refine gate_store (t:=3) (p:=34) rfl ?_);refine store_event (t:=3) (p:=34) (v:=?vo_w37) (w1:=(w35.setCell ⟨go27,(t105 : Int).toNat * 8 + 1,none⟩ (.int .i64 t118))) ?hg ?ho ?hn ?hr ?_;(case ho => rfl);(case hg => rfl);(case hn => rfl);(case hr => first|(go_simp;done)|(go_simp;rfl));intro w37 hw;have hg : w35.grownBy w37 (some go27):=(by rw [hw];exact HP36.2);have hp_ : Kd.R k39 39 w37 w.heap.size (fun _ => True) (.slice (some ⟨go27,0,none⟩) t101.length co29) y120:=(by rw [hw,Ny120.1];exact HP36.1);clear HP36;have n0_:=a1z.mk (IsS80.grown (by repeat (first|(with_reducible first|exact HI0.1|apply IsS80.alloc|apply IsS80.drewN|apply IsS80.drew|apply IsS80.set_1)|exact HI0.1)) hg (IsS80.own_ne HI0.1 HO103.1 (by decide)));have n1_:=a1z.mk (hp_);have n2_:=a1z.mk (Kd.R_over' (v:=(.slice (some ⟨go27,0,none⟩) t101.length co29)) (by (with_reducible repeat (first|apply Kd.R_alloc|apply Kd.b6z|apply Kd.b9z));exact HO117.1) (Kd.R_typed HO103.1) (by decide) hg);have n3_:=a1z.mk ((by rw [hw];exact a5z (HB.1) (Nat.le_trans HL.1 GB27.1) : Below w0.heap.size w0 w37));have n4_:=a1z.mk (a7z.trans (by repeat (first|(with_reducible first|exact HK.1|apply a7z.set_|apply b0z|apply b3z|apply keep_alloc)|exact HK.1)) (a7z.of_grown hg g) (Kd.R_base2 HO103.1));clear HI0 HO103 HO117 HB HK;have HI0:=n0_;have HO103:=n1_;have HO117:=n2_;have HB:=n3_;have HK:=n4_;clear n0_ n1_ n2_ n3_ n4_;clear hg hw hp_))
      go_ret
      exact ⟨_,by first|rfl|(simp [b5z,b4z] <;> rfl)|(simp [*,b5z,b4z] <;> rfl),by (with_reducible repeat (first|apply Kd.R_alloc|apply Kd.b6z|apply Kd.b9z));exact HO103.1,by repeat (first|(with_reducible first|exact HI0.1|apply IsS80.alloc|apply IsS80.drewN|apply IsS80.drew|apply IsS80.set_1)|exact HI0.1),by repeat (first|(with_reducible first|exact HB.1|apply a3z|apply a0z|apply a2z|refine a5z ?_ (IsS80.ge HI0.1))|exact HB.1),by repeat (first|(with_reducible first|exact HK.1|apply a7z.set_|apply b0z|apply b3z|apply keep_alloc)|exact HK.1)⟩
     ·rw [if_neg c26] at H
      exact absurd H (by simp)
    ·rw [if_neg c25] at H
     exact absurd H (by simp)
   ·rw [if_neg c23] at H
    have c23b0 : (t107 == 1) = false:=beq_eq_false_iff_ne.mpr c23
    have c23b1 : (t107 != 1) = true:=bne_iff_ne.mpr c23
    by_cases c38 : t107 = 2
    ·rw [if_pos c38] at H
     have c38b0 : (t107 == 2) = true:=beq_iff_eq.mpr c38
     have c38b1 : (t107 != 2) = false:=bne_eq_false_iff_eq.mpr c38
     clear c38
     obtain ⟨y121,hy121⟩ : ∃ y_ : List Int,y_ = (([(-1),65536] : List Int)):=⟨_,rfl⟩
     replace H : ((spec_l1Rd_one.f k s0_0 t108 y121).bind fun bt124 => (if 0 ≤ t105 then (if t105 < (t101.length : Int) then (some ((t101.set (t105 : Int).toNat (⟨(a6z t101 t105).f0,(a6z t101 t105).f1,(⟨(a6z t101 t105).f2.f0,(a6z t101 t105).f2.f1⟩ : S37),(⟨(a6z t101 t105).f3.f0,(a6z t101 t105).f3.f1⟩ : S37),bt124.1,(a6z t101 t105).f5⟩ : S39)),bt124.2)) else (none)) else (none))) = some (r1,r2):=by first|(rw [hy121];with_reducible exact H)|(have H2_:=(Option.bind_some _ _).symm.trans H;rw [hy121];with_reducible exact H2_)|(have H2_:=(Option.bind_some _ _).symm.trans H;with_reducible exact H2_)|with_reducible exact H|(rw [hy121];exact H)|exact H
     have Ny121:=a1z.mk hy121
     clear hy121
     replace H:=Option.bind_eq_some_iff.mp H
     obtain ⟨⟨t124,t125⟩,A390,H⟩:=H
     replace H : (if 0 ≤ t105 then (if t105 < (t101.length : Int) then (some ((t101.set (t105 : Int).toNat (⟨(a6z t101 t105).f0,(a6z t101 t105).f1,(⟨(a6z t101 t105).f2.f0,(a6z t101 t105).f2.f1⟩ : S37),(⟨(a6z t101 t105).f3.f0,(a6z t101 t105).f3.f1⟩ : S37),t124,(a6z t101 t105).f5⟩ : S39)),t125)) else (none)) else (none)) = some (r1,r2):=H
     have A39:=a1z.mk A390
     clear A390
     by_cases c40 : 0 ≤ t105
     ·rw [if_pos c40] at H
      have c40b0 : decide (0 ≤ t105) = true:=decide_eq_true c40
      clear c40
      by_cases c41 : t105 < (t101.length : Int)
      ·rw [if_pos c41] at H
       have c41b0 : decide (t105 < (t101.length : Int)) = true:=decide_eq_true c41
       clear c41
       obtain ⟨y126,hy126⟩ : ∃ y_ : List (S39),y_ = (t101.set (t105 : Int).toNat (⟨(a6z t101 t105).f0,(a6z t101 t105).f1,(⟨(a6z t101 t105).f2.f0,(a6z t101 t105).f2.f1⟩ : S37),(⟨(a6z t101 t105).f3.f0,(a6z t101 t105).f3.f1⟩ : S37),t124,(a6z t101 t105).f5⟩ : S39)):=⟨_,rfl⟩
       replace H : (some (y126,t125)) = some (r1,r2):=by first|(rw [hy126];with_reducible exact H)|(have H2_:=(Option.bind_some _ _).symm.trans H;rw [hy126];with_reducible exact H2_)|(have H2_:=(Option.bind_some _ _).symm.trans H;with_reducible exact H2_)|with_reducible exact H|(rw [hy126];exact H)|exact H
       have Ny126:=a1z.mk hy126
       clear hy126
       simp only [Option.some.injEq,Prod.mk.injEq] at H
       obtain ⟨rfl,rfl⟩:=H
       go_enter Tryz.func24,Tryz.ntmps24
       go_wp2_with (first|((with_reducible refine b2z (f:=35) rfl ?_);refine c1z (some 6) rfl rfl Tryz.func35 (by kernel_rfl) rfl #[.pointer (some ⟨g,0,none⟩)] rfl (by (try simp only [mA_,mC_,mN_]);first|done|rfl|(simp only [lD_,lT_];rfl)) ?_;(with_reducible refine (spec_l12Rules.calls k g s0_0 s0_1 t101 t104 w0 _ ?side1 ?side2 A2.1).mono ?_);(case side1 => repeat (first|(with_reducible first|exact HI0.1|apply IsS80.alloc|apply IsS80.drewN|apply IsS80.drew|apply IsS80.set_1)|exact HI0.1));(case side2 => repeat (first|(with_reducible first|exact HB.1|apply a3z|apply a0z|apply a2z|refine a5z ?_ (IsS80.ge HI0.1))|exact HB.1));rintro e w43 ⟨v102,rfl,ho0,hi,hb,hk⟩;refine ⟨_,rfl,?_⟩;have n0_:=a1z.mk (Kd.e1z ho0 (d0z (w:=w) (g:=g) (row:=none) (by repeat (first|(with_reducible first|exact HK.1|apply a7z.set_|apply b0z|apply b3z|apply keep_alloc)|exact HK.1))));have n1_:=a1z.mk (a7z.trans (by repeat (first|(with_reducible first|exact HK.1|apply a7z.set_|apply b0z|apply b3z|apply keep_alloc)|exact HK.1)) hk (.inl rfl));have n2_:=a1z.mk (hb);have n3_:=a1z.mk (hi);clear HK HB HI0;have HO103:=n0_;have HK:=n1_;have HB:=n2_;have HI0:=n3_;clear n0_ n1_ n2_ n3_;(try clear hb);(try clear hk);(try clear hi);(try clear ho0);obtain ⟨Ao44,co44,eo44⟩:=Kd.e0z HO103.1;subst eo44)|((with_reducible refine b2z (f:=50) rfl ?_);refine c1z (some 14) rfl rfl Tryz.func50 (by kernel_rfl) rfl #[.pointer (some ⟨g,0,none⟩),.int .i64 (t101.length : Int)] rfl (by (try simp only [mA_,mC_,mN_]);first|done|rfl|(simp only [lD_,lT_];rfl)) ?_;(with_reducible refine (spec_l1Rd_pick.calls k g s0_0 t104 (t101.length : Int) t105 t106 w0 _ ?side1 ?side2 A6.1).mono ?_);(case side1 => repeat (first|(with_reducible first|exact HI0.1|apply IsS80.alloc|apply IsS80.drewN|apply IsS80.drew|apply IsS80.set_1)|exact HI0.1));(case side2 => repeat (first|(with_reducible first|exact HB.1|apply a3z|apply a0z|apply a2z|refine a5z ?_ (IsS80.ge HI0.1))|exact HB.1));rintro e w45 ⟨rfl,hi,hb,hk⟩;refine ⟨_,rfl,?_⟩;have n0_:=a1z.mk (Kd.c9z (Kd.e2z (IsS80.apart (show IsS80 w0 _ g s0_0 t104 from by repeat (first|(with_reducible first|exact HI0.1|apply IsS80.alloc|apply IsS80.drewN|apply IsS80.drew|apply IsS80.set_1)|exact HI0.1)) (by (with_reducible repeat (first|apply Kd.R_alloc|apply Kd.b6z|apply Kd.b9z));exact HO103.1) (by decide)) hk (fun _ h => h.2)) (fun _ h => h.1));have n1_:=a1z.mk (a7z.trans (by repeat (first|(with_reducible first|exact HK.1|apply a7z.set_|apply b0z|apply b3z|apply keep_alloc)|exact HK.1)) hk (.inl rfl));have n2_:=a1z.mk (hb);have n3_:=a1z.mk (hi);clear HO103 HK HB HI0;have HO103:=n0_;have HK:=n1_;have HB:=n2_;have HI0:=n3_;clear n0_ n1_ n2_ n3_;(try clear hb);(try clear hk);(try clear hi))|((with_reducible refine b2z (f:=50) rfl ?_);refine c1z (some 16) rfl rfl Tryz.func50 (by kernel_rfl) rfl #[.pointer (some ⟨g,0,none⟩),.int .i64 20] rfl (by (try simp only [mA_,mC_,mN_]);first|done|rfl|(simp only [lD_,lT_];rfl)) ?_;(with_reducible refine (spec_l1Rd_pick.calls k g s0_0 t106 20 t107 t108 w0 _ ?side1 ?side2 A7.1).mono ?_);(case side1 => repeat (first|(with_reducible first|exact HI0.1|apply IsS80.alloc|apply IsS80.drewN|apply IsS80.drew|apply IsS80.set_1)|exact HI0.1));(case side2 => repeat (first|(with_reducible first|exact HB.1|apply a3z|apply a0z|apply a2z|refine a5z ?_ (IsS80.ge HI0.1))|exact HB.1));rintro e w46 ⟨rfl,hi,hb,hk⟩;refine ⟨_,rfl,?_⟩;have n0_:=a1z.mk (Kd.c9z (Kd.e2z (IsS80.apart (show IsS80 w0 _ g s0_0 t106 from by repeat (first|(with_reducible first|exact HI0.1|apply IsS80.alloc|apply IsS80.drewN|apply IsS80.drew|apply IsS80.set_1)|exact HI0.1)) (by (with_reducible repeat (first|apply Kd.R_alloc|apply Kd.b6z|apply Kd.b9z));exact HO103.1) (by decide)) hk (fun _ h => h.2)) (fun _ h => h.1));have n1_:=a1z.mk (a7z.trans (by repeat (first|(with_reducible first|exact HK.1|apply a7z.set_|apply b0z|apply b3z|apply keep_alloc)|exact HK.1)) hk (.inl rfl));have n2_:=a1z.mk (hb);have n3_:=a1z.mk (hi);clear HO103 HK HB HI0;have HO103:=n0_;have HK:=n1_;have HB:=n2_;have HI0:=n3_;clear n0_ n1_ n2_ n3_;(try clear hb);(try clear hk);(try clear hi))|((with_reducible refine c5z (N:=40) rfl ?_);refine Kd.R_lit (Kd.int .i64) _ 3 ?hg (N:=40) ?hd (xs:=([(-1),65536] : List Int)) (inner:=[.int .i64 (-1),.int .i64 65536]) (ok:=fun _ => True) (okp:=fun _ => True) ?hr ?hp (fun _ hk => hk) trivial (Below.refl _ _) (Nat.le_refl _) (by simp) ?_;(case hd => rfl);(case hg => rfl);(case hr => first|(go_simp;done)|(go_simp;rfl));(case hp => exact (Reps.one (show Kd.M (Kd.int .i64) _ _ _ (-1) [.int .i64 (-1)] from rfl) (Reps.one (show Kd.M (Kd.int .i64) _ _ _ 65536 [.int .i64 65536] from rfl) (Reps.none _ _))));intro v122 w47 ho48 hb hg_ hnew_;clear hg_ hnew_;(first|rw [← Ny121.1] at ho48|(simp only [Int.reduceToNat] at ho48;rw [← Ny121.1] at ho48));have n0_:=a1z.mk (Kd.d3z (by (with_reducible repeat (first|apply Kd.R_alloc|apply Kd.b6z|apply Kd.b9z));exact HO103.1) hb);have n1_:=a1z.mk (Kd.e1z ho48 (d0z (w:=w) (g:=g) (row:=none) (by repeat (first|(with_reducible first|exact HK.1|apply a7z.set_|apply b0z|apply b3z|apply keep_alloc)|exact HK.1))));have n2_:=a1z.mk (IsS80.below (by repeat (first|(with_reducible first|exact HI0.1|apply IsS80.alloc|apply IsS80.drewN|apply IsS80.drew|apply IsS80.set_1)|exact HI0.1)) hb);have n3_:=a1z.mk (a7z.trans (by repeat (first|(with_reducible first|exact HK.1|apply a7z.set_|apply b0z|apply b3z|apply keep_alloc)|exact HK.1)) (a7z.e3z hb g none) (.inl rfl));have n4_:=a1z.mk (b1z (by repeat (first|(with_reducible first|exact HB.1|apply a3z|apply a0z|apply a2z|refine a5z ?_ (IsS80.ge HI0.1))|exact HB.1)) hb);clear HO103 HI0 HK HB;have HO103:=n0_;have HO123:=n1_;have HI0:=n2_;have HK:=n3_;have HB:=n4_;clear n0_ n1_ n2_ n3_ n4_;clear hb ho48;obtain ⟨Ao49,co49,eo49⟩:=Kd.e0z HO123.1;subst eo49)|((with_reducible refine b2z (f:=51) rfl ?_);refine c1z (some 41) rfl rfl Tryz.func51 (by kernel_rfl) rfl #[.pointer (some ⟨g,0,none⟩),.slice Ao49 y121.length co49] rfl (by (try simp only [mA_,mC_,mN_]);first|done|rfl|(simp only [lD_,lT_];rfl)) ?_;(with_reducible refine (spec_l1Rd_one.calls k g s0_0 t108 _ _ y121 t124 t125 w0 _ ?side1 ?side2 ?side3 ?side4 ?side5 A39.1).mono ?_);(case side1 => repeat (first|(with_reducible first|exact HI0.1|apply IsS80.alloc|apply IsS80.drewN|apply IsS80.drew|apply IsS80.set_1)|exact HI0.1));(case side2 => repeat (first|(with_reducible first|exact HB.1|apply a3z|apply a0z|apply a2z|refine a5z ?_ (IsS80.ge HI0.1))|exact HB.1));(case side3 => repeat (first|exact (Kd.c2z HO123.1).2.2|(with_reducible refine Kd.C_alloc ?_ _)|(with_reducible refine Kd.C_drewN ?_ _)|(with_reducible refine Kd.e5z ?_)));(case side4 => exact (Kd.c2z HO123.1).2.1);(case side5 => exact f2z (IsS80.own_ne HI0.1 HO123.1 (by decide)));rintro e w50 ⟨rfl,hi,hb,hk⟩;refine ⟨_,rfl,?_⟩;have n0_:=a1z.mk (Kd.c9z (Kd.e2z (IsS80.apart (show IsS80 w0 _ g s0_0 t108 from by repeat (first|(with_reducible first|exact HI0.1|apply IsS80.alloc|apply IsS80.drewN|apply IsS80.drew|apply IsS80.set_1)|exact HI0.1)) (by (with_reducible repeat (first|apply Kd.R_alloc|apply Kd.b6z|apply Kd.b9z));exact HO103.1) (by decide)) hk (fun _ h => h.2)) (fun _ h => h.1));have n1_:=a1z.mk (Kd.c9z (Kd.e2z (IsS80.apart (show IsS80 w0 _ g s0_0 t108 from by repeat (first|(with_reducible first|exact HI0.1|apply IsS80.alloc|apply IsS80.drewN|apply IsS80.drew|apply IsS80.set_1)|exact HI0.1)) (by (with_reducible repeat (first|apply Kd.R_alloc|apply Kd.b6z|apply Kd.b9z));exact HO123.1) (by decide)) hk (fun _ h => h.2)) (fun _ h => h.1));have n2_:=a1z.mk (a7z.trans (by repeat (first|(with_reducible first|exact HK.1|apply a7z.set_|apply b0z|apply b3z|apply keep_alloc)|exact HK.1)) hk (.inl rfl));have n3_:=a1z.mk (hb);have n4_:=a1z.mk (hi);clear HO103 HO123 HK HB HI0;have HO103:=n0_;have HO123:=n1_;have HK:=n2_;have HB:=n3_;have HI0:=n4_;clear n0_ n1_ n2_ n3_ n4_;(try clear hb);(try clear hk);(try clear hi);have p42 : 0 ≤ (t105 : Int):=of_decide_eq_true (by first|(with_reducible assumption)|assumption);have q42 : (t105 : Int) < ((t101.length : Int) : Int):=of_decide_eq_true (by first|(with_reducible assumption)|assumption);obtain ⟨go42,co42,eo42,gb42,gl42,cl42,HG42⟩:=Kd.R_form HO103.1 (by omega);(first|cases eo42|(injection eo42 with ea_ en_ ec_;(first|subst ea_|(injection ea_ with ea_;subst ea_));subst ec_;clear en_));have GB42:=a1z.mk gb42;have GG42:=a1z.mk HG42;clear gb42 gl42 HG42;obtain ⟨ce42,hcl42,hM42,hcc42,hfr42⟩:=Kd.R_elem HO103.1 z39 (t105 : Int) p42 q42;obtain rfl:=h4z hM42;have hx42_0 : w50.cell? ⟨go42,(t105 : Int).toNat * 8,none⟩ = some (.int .i64 ((a6z t101 t105).f0)):=hcc42 0 _ rfl;have hx42_1 : w50.cell? ⟨go42,(t105 : Int).toNat * 8 + 1,none⟩ = some (.int .i64 ((a6z t101 t105).f1)):=hcc42 1 _ rfl;have hx42_2 : w50.cell? ⟨go42,(t105 : Int).toNat * 8 + 2,none⟩ = some (.int .i64 ((a6z t101 t105).f2.f0)):=hcc42 2 _ rfl;have hx42_3 : w50.cell? ⟨go42,(t105 : Int).toNat * 8 + 3,none⟩ = some (.int .i64 ((a6z t101 t105).f2.f1)):=hcc42 3 _ rfl;have hx42_4 : w50.cell? ⟨go42,(t105 : Int).toNat * 8 + 4,none⟩ = some (.int .i64 ((a6z t101 t105).f3.f0)):=hcc42 4 _ rfl;have hx42_5 : w50.cell? ⟨go42,(t105 : Int).toNat * 8 + 5,none⟩ = some (.int .i64 ((a6z t101 t105).f3.f1)):=hcc42 5 _ rfl;have hx42_6 : w50.cell? ⟨go42,(t105 : Int).toNat * 8 + 6,none⟩ = some (.int .i64 ((a6z t101 t105).f4)):=hcc42 6 _ rfl;have hx42_7 : w50.cell? ⟨go42,(t105 : Int).toNat * 8 + 7,none⟩ = some (.int .i64 ((a6z t101 t105).f5)):=hcc42 7 _ rfl;have hf42_0 : w50.frozen? ⟨go42,(t105 : Int).toNat * 8,none⟩ = false:=hfr42 0;have hf42_1 : w50.frozen? ⟨go42,(t105 : Int).toNat * 8 + 1,none⟩ = false:=hfr42 1;have hf42_2 : w50.frozen? ⟨go42,(t105 : Int).toNat * 8 + 2,none⟩ = false:=hfr42 2;have hf42_3 : w50.frozen? ⟨go42,(t105 : Int).toNat * 8 + 3,none⟩ = false:=hfr42 3;have hf42_4 : w50.frozen? ⟨go42,(t105 : Int).toNat * 8 + 4,none⟩ = false:=hfr42 4;have hf42_5 : w50.frozen? ⟨go42,(t105 : Int).toNat * 8 + 5,none⟩ = false:=hfr42 5;have hf42_6 : w50.frozen? ⟨go42,(t105 : Int).toNat * 8 + 6,none⟩ = false:=hfr42 6;have hf42_7 : w50.frozen? ⟨go42,(t105 : Int).toNat * 8 + 7,none⟩ = false:=hfr42 7;clear hcl42 hcc42 hfr42 hM42;replace p42:=eq_true p42;replace q42:=eq_true q42;have HX51:=a1z.mk (show Kd.R k39 39 w50 w.heap.size (fun _ => True) (.slice (some ⟨go42,0,none⟩) t101.length co44) t101 from (by (with_reducible repeat (first|apply Kd.R_alloc|apply Kd.b6z|apply Kd.b9z));exact HO103.1));obtain ⟨ce51,hcl51,hM51,hcc51,hfr51⟩:=Kd.R_elem HX51.1 z39 (t105 : Int) (of_decide_eq_true (by first|(with_reducible assumption)|assumption)) (by have h_ : (t105 : Int) < ((t101.length : Int) : Int):=of_decide_eq_true (by first|(with_reducible assumption)|assumption);first|exact h_|(have e_:=(Kd.c2z HO103.1).1;omega)|simpa using h_);obtain rfl:=h4z hM51;have HP51:=Kd.R_seg HX51.1 (t105 : Int) (of_decide_eq_true (by first|(with_reducible assumption)|assumption)) (by have h_ : (t105 : Int) < ((t101.length : Int) : Int):=of_decide_eq_true (by first|(with_reducible assumption)|assumption);first|exact h_|(have e_:=(Kd.c2z HO103.1).1;omega)|simpa using h_) (seg:=[.int .i64 t124]) (j:=6) hcl51 hcc51 (show 7 ≤ 8 from by decide) (x':=(⟨(a6z t101 t105).f0,(a6z t101 t105).f1,(⟨(a6z t101 t105).f2.f0,(a6z t101 t105).f2.f1⟩ : S37),(⟨(a6z t101 t105).f3.f0,(a6z t101 t105).f3.f1⟩ : S37),t124,(a6z t101 t105).f5⟩ : S39)) (k39_mkM _ _ _ (⟨(a6z t101 t105).f0,(a6z t101 t105).f1,(⟨(a6z t101 t105).f2.f0,(a6z t101 t105).f2.f1⟩ : S37),(⟨(a6z t101 t105).f3.f0,(a6z t101 t105).f3.f1⟩ : S37),t124,(a6z t101 t105).f5⟩ : S39) ) (fun _ hk => hk);have hx51_6:=hcc51 6 _ rfl;(try simp only [show (k39).sz = 8 from rfl,Nat.mul_one,Nat.add_zero] at hx51_6);have hf51_6:=hfr51 6;(try simp only [show (k39).sz = 8 from rfl,Nat.mul_one,Nat.add_zero] at hf51_6);clear hcl51 hcc51 hfr51 hM51)|((with_reducible refine gate_store (t:=3) (p:=43) rfl ?_);refine store_event (t:=3) (p:=43) (v:=?vo_w52) (w1:=(w50.setCell ⟨go42,(t105 : Int).toNat * 8 + 6,none⟩ (.int .i64 t124))) ?hg ?ho ?hn ?hr ?_;(case ho => rfl);(case hg => rfl);(case hn => rfl);(case hr => first|(go_simp;done)|(go_simp;rfl));intro w52 hw;have hg : w50.grownBy w52 (some go42):=(by rw [hw];exact HP51.2);have hp_ : Kd.R k39 39 w52 w.heap.size (fun _ => True) (.slice (some ⟨go42,0,none⟩) t101.length co44) y126:=(by rw [hw,Ny126.1];exact HP51.1);clear HP51;have n0_:=a1z.mk (IsS80.grown (by repeat (first|(with_reducible first|exact HI0.1|apply IsS80.alloc|apply IsS80.drewN|apply IsS80.drew|apply IsS80.set_1)|exact HI0.1)) hg (IsS80.own_ne HI0.1 HO103.1 (by decide)));have n1_:=a1z.mk (hp_);have n2_:=a1z.mk (Kd.R_over' (v:=(.slice (some ⟨go42,0,none⟩) t101.length co44)) (by (with_reducible repeat (first|apply Kd.R_alloc|apply Kd.b6z|apply Kd.b9z));exact HO123.1) (Kd.R_typed HO103.1) (by decide) hg);have n3_:=a1z.mk ((by rw [hw];exact a5z (HB.1) (Nat.le_trans HL.1 GB42.1) : Below w0.heap.size w0 w52));have n4_:=a1z.mk (a7z.trans (by repeat (first|(with_reducible first|exact HK.1|apply a7z.set_|apply b0z|apply b3z|apply keep_alloc)|exact HK.1)) (a7z.of_grown hg g) (Kd.R_base2 HO103.1));clear HI0 HO103 HO123 HB HK;have HI0:=n0_;have HO103:=n1_;have HO123:=n2_;have HB:=n3_;have HK:=n4_;clear n0_ n1_ n2_ n3_ n4_;clear hg hw hp_))
       go_ret
       exact ⟨_,by first|rfl|(simp [b5z,b4z] <;> rfl)|(simp [*,b5z,b4z] <;> rfl),by (with_reducible repeat (first|apply Kd.R_alloc|apply Kd.b6z|apply Kd.b9z));exact HO103.1,by repeat (first|(with_reducible first|exact HI0.1|apply IsS80.alloc|apply IsS80.drewN|apply IsS80.drew|apply IsS80.set_1)|exact HI0.1),by repeat (first|(with_reducible first|exact HB.1|apply a3z|apply a0z|apply a2z|refine a5z ?_ (IsS80.ge HI0.1))|exact HB.1),by repeat (first|(with_reducible first|exact HK.1|apply a7z.set_|apply b0z|apply b3z|apply keep_alloc)|exact HK.1)⟩
      ·rw [if_neg c41] at H
       exact absurd H (by simp)
     ·rw [if_neg c40] at H
      exact absurd H (by simp)
    ·rw [if_neg c38] at H
     have c38b0 : (t107 == 2) = false:=beq_eq_false_iff_ne.mpr c38
     have c38b1 : (t107 != 2) = true:=bne_iff_ne.mpr c38
     by_cases c53 : t107 = 3
     ·rw [if_pos c53] at H
      have c53b0 : (t107 == 3) = true:=beq_iff_eq.mpr c53
      have c53b1 : (t107 != 3) = false:=bne_eq_false_iff_eq.mpr c53
      clear c53
      replace H:=Option.bind_eq_some_iff.mp H
      obtain ⟨⟨t127,t128,t129⟩,A540,H⟩:=H
      replace H : (if 0 ≤ t105 then (if t105 < (t101.length : Int) then (some ((t101.set (t105 : Int).toNat (⟨(a6z t101 t105).f0,(a6z t101 t105).f1,(⟨t127,t128⟩ : S37),(⟨(a6z t101 t105).f3.f0,(a6z t101 t105).f3.f1⟩ : S37),(a6z t101 t105).f4,(a6z t101 t105).f5⟩ : S39)),t129)) else (none)) else (none)) = some (r1,r2):=H
      have A54:=a1z.mk A540
      clear A540
      by_cases c55 : 0 ≤ t105
      ·rw [if_pos c55] at H
       have c55b0 : decide (0 ≤ t105) = true:=decide_eq_true c55
       clear c55
       by_cases c56 : t105 < (t101.length : Int)
       ·rw [if_pos c56] at H
        have c56b0 : decide (t105 < (t101.length : Int)) = true:=decide_eq_true c56
        clear c56
        obtain ⟨y130,hy130⟩ : ∃ y_ : List (S39),y_ = (t101.set (t105 : Int).toNat (⟨(a6z t101 t105).f0,(a6z t101 t105).f1,(⟨t127,t128⟩ : S37),(⟨(a6z t101 t105).f3.f0,(a6z t101 t105).f3.f1⟩ : S37),(a6z t101 t105).f4,(a6z t101 t105).f5⟩ : S39)):=⟨_,rfl⟩
        replace H : (some (y130,t129)) = some (r1,r2):=by first|(rw [hy130];with_reducible exact H)|(have H2_:=(Option.bind_some _ _).symm.trans H;rw [hy130];with_reducible exact H2_)|(have H2_:=(Option.bind_some _ _).symm.trans H;with_reducible exact H2_)|with_reducible exact H|(rw [hy130];exact H)|exact H
        have Ny130:=a1z.mk hy130
        clear hy130
        simp only [Option.some.injEq,Prod.mk.injEq] at H
        obtain ⟨rfl,rfl⟩:=H
        go_enter Tryz.func24,Tryz.ntmps24
        go_wp2_with (first|((with_reducible refine b2z (f:=35) rfl ?_);refine c1z (some 6) rfl rfl Tryz.func35 (by kernel_rfl) rfl #[.pointer (some ⟨g,0,none⟩)] rfl (by (try simp only [mA_,mC_,mN_]);first|done|rfl|(simp only [lD_,lT_];rfl)) ?_;(with_reducible refine (spec_l12Rules.calls k g s0_0 s0_1 t101 t104 w0 _ ?side1 ?side2 A2.1).mono ?_);(case side1 => repeat (first|(with_reducible first|exact HI0.1|apply IsS80.alloc|apply IsS80.drewN|apply IsS80.drew|apply IsS80.set_1)|exact HI0.1));(case side2 => repeat (first|(with_reducible first|exact HB.1|apply a3z|apply a0z|apply a2z|refine a5z ?_ (IsS80.ge HI0.1))|exact HB.1));rintro e w58 ⟨v102,rfl,ho0,hi,hb,hk⟩;refine ⟨_,rfl,?_⟩;have n0_:=a1z.mk (Kd.e1z ho0 (d0z (w:=w) (g:=g) (row:=none) (by repeat (first|(with_reducible first|exact HK.1|apply a7z.set_|apply b0z|apply b3z|apply keep_alloc)|exact HK.1))));have n1_:=a1z.mk (a7z.trans (by repeat (first|(with_reducible first|exact HK.1|apply a7z.set_|apply b0z|apply b3z|apply keep_alloc)|exact HK.1)) hk (.inl rfl));have n2_:=a1z.mk (hb);have n3_:=a1z.mk (hi);clear HK HB HI0;have HO103:=n0_;have HK:=n1_;have HB:=n2_;have HI0:=n3_;clear n0_ n1_ n2_ n3_;(try clear hb);(try clear hk);(try clear hi);(try clear ho0);obtain ⟨Ao59,co59,eo59⟩:=Kd.e0z HO103.1;subst eo59)|((with_reducible refine b2z (f:=50) rfl ?_);refine c1z (some 14) rfl rfl Tryz.func50 (by kernel_rfl) rfl #[.pointer (some ⟨g,0,none⟩),.int .i64 (t101.length : Int)] rfl (by (try simp only [mA_,mC_,mN_]);first|done|rfl|(simp only [lD_,lT_];rfl)) ?_;(with_reducible refine (spec_l1Rd_pick.calls k g s0_0 t104 (t101.length : Int) t105 t106 w0 _ ?side1 ?side2 A6.1).mono ?_);(case side1 => repeat (first|(with_reducible first|exact HI0.1|apply IsS80.alloc|apply IsS80.drewN|apply IsS80.drew|apply IsS80.set_1)|exact HI0.1));(case side2 => repeat (first|(with_reducible first|exact HB.1|apply a3z|apply a0z|apply a2z|refine a5z ?_ (IsS80.ge HI0.1))|exact HB.1));rintro e w60 ⟨rfl,hi,hb,hk⟩;refine ⟨_,rfl,?_⟩;have n0_:=a1z.mk (Kd.c9z (Kd.e2z (IsS80.apart (show IsS80 w0 _ g s0_0 t104 from by repeat (first|(with_reducible first|exact HI0.1|apply IsS80.alloc|apply IsS80.drewN|apply IsS80.drew|apply IsS80.set_1)|exact HI0.1)) (by (with_reducible repeat (first|apply Kd.R_alloc|apply Kd.b6z|apply Kd.b9z));exact HO103.1) (by decide)) hk (fun _ h => h.2)) (fun _ h => h.1));have n1_:=a1z.mk (a7z.trans (by repeat (first|(with_reducible first|exact HK.1|apply a7z.set_|apply b0z|apply b3z|apply keep_alloc)|exact HK.1)) hk (.inl rfl));have n2_:=a1z.mk (hb);have n3_:=a1z.mk (hi);clear HO103 HK HB HI0;have HO103:=n0_;have HK:=n1_;have HB:=n2_;have HI0:=n3_;clear n0_ n1_ n2_ n3_;(try clear hb);(try clear hk);(try clear hi))|((with_reducible refine b2z (f:=50) rfl ?_);refine c1z (some 16) rfl rfl Tryz.func50 (by kernel_rfl) rfl #[.pointer (some ⟨g,0,none⟩),.int .i64 20] rfl (by (try simp only [mA_,mC_,mN_]);first|done|rfl|(simp only [lD_,lT_];rfl)) ?_;(with_reducible refine (spec_l1Rd_pick.calls k g s0_0 t106 20 t107 t108 w0 _ ?side1 ?side2 A7.1).mono ?_);(case side1 => repeat (first|(with_reducible first|exact HI0.1|apply IsS80.alloc|apply IsS80.drewN|apply IsS80.drew|apply IsS80.set_1)|exact HI0.1));(case side2 => repeat (first|(with_reducible first|exact HB.1|apply a3z|apply a0z|apply a2z|refine a5z ?_ (IsS80.ge HI0.1))|exact HB.1));rintro e w61 ⟨rfl,hi,hb,hk⟩;refine ⟨_,rfl,?_⟩;have n0_:=a1z.mk (Kd.c9z (Kd.e2z (IsS80.apart (show IsS80 w0 _ g s0_0 t106 from by repeat (first|(with_reducible first|exact HI0.1|apply IsS80.alloc|apply IsS80.drewN|apply IsS80.drew|apply IsS80.set_1)|exact HI0.1)) (by (with_reducible repeat (first|apply Kd.R_alloc|apply Kd.b6z|apply Kd.b9z));exact HO103.1) (by decide)) hk (fun _ h => h.2)) (fun _ h => h.1));have n1_:=a1z.mk (a7z.trans (by repeat (first|(with_reducible first|exact HK.1|apply a7z.set_|apply b0z|apply b3z|apply keep_alloc)|exact HK.1)) hk (.inl rfl));have n2_:=a1z.mk (hb);have n3_:=a1z.mk (hi);clear HO103 HK HB HI0;have HO103:=n0_;have HK:=n1_;have HB:=n2_;have HI0:=n3_;clear n0_ n1_ n2_ n3_;(try clear hb);(try clear hk);(try clear hi))|((with_reducible refine b2z (f:=52) rfl ?_);refine c1z (some 49) rfl rfl Tryz.func52 (by kernel_rfl) rfl #[.pointer (some ⟨g,0,none⟩)] rfl (by (try simp only [mA_,mC_,mN_]);first|done|rfl|(simp only [lD_,lT_];rfl)) ?_;(with_reducible refine (spec_l12AnyBlock.calls k g s0_0 t108 t127 t128 t129 w0 _ ?side1 ?side2 A54.1).mono ?_);(case side1 => repeat (first|(with_reducible first|exact HI0.1|apply IsS80.alloc|apply IsS80.drewN|apply IsS80.drew|apply IsS80.set_1)|exact HI0.1));(case side2 => repeat (first|(with_reducible first|exact HB.1|apply a3z|apply a0z|apply a2z|refine a5z ?_ (IsS80.ge HI0.1))|exact HB.1));rintro e w62 ⟨rfl,hi,hb,hk⟩;refine ⟨_,rfl,?_⟩;have n0_:=a1z.mk (Kd.c9z (Kd.e2z (IsS80.apart (show IsS80 w0 _ g s0_0 t108 from by repeat (first|(with_reducible first|exact HI0.1|apply IsS80.alloc|apply IsS80.drewN|apply IsS80.drew|apply IsS80.set_1)|exact HI0.1)) (by (with_reducible repeat (first|apply Kd.R_alloc|apply Kd.b6z|apply Kd.b9z));exact HO103.1) (by decide)) hk (fun _ h => h.2)) (fun _ h => h.1));have n1_:=a1z.mk (a7z.trans (by repeat (first|(with_reducible first|exact HK.1|apply a7z.set_|apply b0z|apply b3z|apply keep_alloc)|exact HK.1)) hk (.inl rfl));have n2_:=a1z.mk (hb);have n3_:=a1z.mk (hi);clear HO103 HK HB HI0;have HO103:=n0_;have HK:=n1_;have HB:=n2_;have HI0:=n3_;clear n0_ n1_ n2_ n3_;(try clear hb);(try clear hk);(try clear hi);have p57 : 0 ≤ (t105 : Int):=of_decide_eq_true (by first|(with_reducible assumption)|assumption);have q57 : (t105 : Int) < ((t101.length : Int) : Int):=of_decide_eq_true (by first|(with_reducible assumption)|assumption);obtain ⟨go57,co57,eo57,gb57,gl57,cl57,HG57⟩:=Kd.R_form HO103.1 (by omega);(first|cases eo57|(injection eo57 with ea_ en_ ec_;(first|subst ea_|(injection ea_ with ea_;subst ea_));subst ec_;clear en_));have GB57:=a1z.mk gb57;have GG57:=a1z.mk HG57;clear gb57 gl57 HG57;obtain ⟨ce57,hcl57,hM57,hcc57,hfr57⟩:=Kd.R_elem HO103.1 z39 (t105 : Int) p57 q57;obtain rfl:=h4z hM57;have hx57_0 : w62.cell? ⟨go57,(t105 : Int).toNat * 8,none⟩ = some (.int .i64 ((a6z t101 t105).f0)):=hcc57 0 _ rfl;have hx57_1 : w62.cell? ⟨go57,(t105 : Int).toNat * 8 + 1,none⟩ = some (.int .i64 ((a6z t101 t105).f1)):=hcc57 1 _ rfl;have hx57_2 : w62.cell? ⟨go57,(t105 : Int).toNat * 8 + 2,none⟩ = some (.int .i64 ((a6z t101 t105).f2.f0)):=hcc57 2 _ rfl;have hx57_3 : w62.cell? ⟨go57,(t105 : Int).toNat * 8 + 3,none⟩ = some (.int .i64 ((a6z t101 t105).f2.f1)):=hcc57 3 _ rfl;have hx57_4 : w62.cell? ⟨go57,(t105 : Int).toNat * 8 + 4,none⟩ = some (.int .i64 ((a6z t101 t105).f3.f0)):=hcc57 4 _ rfl;have hx57_5 : w62.cell? ⟨go57,(t105 : Int).toNat * 8 + 5,none⟩ = some (.int .i64 ((a6z t101 t105).f3.f1)):=hcc57 5 _ rfl;have hx57_6 : w62.cell? ⟨go57,(t105 : Int).toNat * 8 + 6,none⟩ = some (.int .i64 ((a6z t101 t105).f4)):=hcc57 6 _ rfl;have hx57_7 : w62.cell? ⟨go57,(t105 : Int).toNat * 8 + 7,none⟩ = some (.int .i64 ((a6z t101 t105).f5)):=hcc57 7 _ rfl;have hf57_0 : w62.frozen? ⟨go57,(t105 : Int).toNat * 8,none⟩ = false:=hfr57 0;have hf57_1 : w62.frozen? ⟨go57,(t105 : Int).toNat * 8 + 1,none⟩ = false:=hfr57 1;have hf57_2 : w62.frozen? ⟨go57,(t105 : Int).toNat * 8 + 2,none⟩ = false:=hfr57 2;have hf57_3 : w62.frozen? ⟨go57,(t105 : Int).toNat * 8 + 3,none⟩ = false:=hfr57 3;have hf57_4 : w62.frozen? ⟨go57,(t105 : Int).toNat * 8 + 4,none⟩ = false:=hfr57 4;have hf57_5 : w62.frozen? ⟨go57,(t105 : Int).toNat * 8 + 5,none⟩ = false:=hfr57 5;have hf57_6 : w62.frozen? ⟨go57,(t105 : Int).toNat * 8 + 6,none⟩ = false:=hfr57 6;have hf57_7 : w62.frozen? ⟨go57,(t105 : Int).toNat * 8 + 7,none⟩ = false:=hfr57 7;clear hcl57 hcc57 hfr57 hM57;replace p57:=eq_true p57;replace q57:=eq_true q57;have HX63:=a1z.mk (show Kd.R k39 39 w62 w.heap.size (fun _ => True) (.slice (some ⟨go57,0,none⟩) t101.length co59) t101 from (by (with_reducible repeat (first|apply Kd.R_alloc|apply Kd.b6z|apply Kd.b9z));exact HO103.1));obtain ⟨ce63,hcl63,hM63,hcc63,hfr63⟩:=Kd.R_elem HX63.1 z39 (t105 : Int) (of_decide_eq_true (by first|(with_reducible assumption)|assumption)) (by have h_ : (t105 : Int) < ((t101.length : Int) : Int):=of_decide_eq_true (by first|(with_reducible assumption)|assumption);first|exact h_|(have e_:=(Kd.c2z HO103.1).1;omega)|simpa using h_);obtain rfl:=h4z hM63;have HP63:=Kd.R_seg HX63.1 (t105 : Int) (of_decide_eq_true (by first|(with_reducible assumption)|assumption)) (by have h_ : (t105 : Int) < ((t101.length : Int) : Int):=of_decide_eq_true (by first|(with_reducible assumption)|assumption);first|exact h_|(have e_:=(Kd.c2z HO103.1).1;omega)|simpa using h_) (seg:=[.int .i64 t127,.int .i64 t128]) (j:=2) hcl63 hcc63 (show 4 ≤ 8 from by decide) (x':=(⟨(a6z t101 t105).f0,(a6z t101 t105).f1,(⟨t127,t128⟩ : S37),(⟨(a6z t101 t105).f3.f0,(a6z t101 t105).f3.f1⟩ : S37),(a6z t101 t105).f4,(a6z t101 t105).f5⟩ : S39)) (k39_mkM _ _ _ (⟨(a6z t101 t105).f0,(a6z t101 t105).f1,(⟨t127,t128⟩ : S37),(⟨(a6z t101 t105).f3.f0,(a6z t101 t105).f3.f1⟩ : S37),(a6z t101 t105).f4,(a6z t101 t105).f5⟩ : S39) ) (fun _ hk => hk);have hx63_2:=hcc63 2 _ rfl;(try simp only [show (k39).sz = 8 from rfl,Nat.mul_one,Nat.add_zero] at hx63_2);have hf63_2:=hfr63 2;(try simp only [show (k39).sz = 8 from rfl,Nat.mul_one,Nat.add_zero] at hf63_2);have hx63_3:=hcc63 3 _ rfl;(try simp only [show (k39).sz = 8 from rfl,Nat.mul_one,Nat.add_zero] at hx63_3);have hf63_3:=hfr63 3;(try simp only [show (k39).sz = 8 from rfl,Nat.mul_one,Nat.add_zero] at hf63_3);clear hcl63 hcc63 hfr63 hM63)|((with_reducible refine gate_store (t:=37) (p:=51) rfl ?_);refine store_event (t:=37) (p:=51) (v:=?vo_w64) (w1:=((w62.setCell ⟨go57,(t105 : Int).toNat * 8 + 2,none⟩ (.int .i64 t127)).setCell ⟨go57,(t105 : Int).toNat * 8 + 3,none⟩ (.int .i64 t128))) ?hg ?ho ?hn ?hr ?_;(case ho => rfl);(case hg => rfl);(case hn => rfl);(case hr => first|(go_simp;done)|(go_simp;rfl));intro w64 hw;have hg : w62.grownBy w64 (some go57):=(by rw [hw];exact HP63.2);have hp_ : Kd.R k39 39 w64 w.heap.size (fun _ => True) (.slice (some ⟨go57,0,none⟩) t101.length co59) y130:=(by rw [hw,Ny130.1];exact HP63.1);clear HP63;have n0_:=a1z.mk (IsS80.grown (by repeat (first|(with_reducible first|exact HI0.1|apply IsS80.alloc|apply IsS80.drewN|apply IsS80.drew|apply IsS80.set_1)|exact HI0.1)) hg (IsS80.own_ne HI0.1 HO103.1 (by decide)));have n1_:=a1z.mk (hp_);have n2_:=a1z.mk ((by rw [hw];exact a5z (a5z (HB.1) (Nat.le_trans HL.1 GB57.1)) (Nat.le_trans HL.1 GB57.1) : Below w0.heap.size w0 w64));have n3_:=a1z.mk (a7z.trans (by repeat (first|(with_reducible first|exact HK.1|apply a7z.set_|apply b0z|apply b3z|apply keep_alloc)|exact HK.1)) (a7z.of_grown hg g) (Kd.R_base2 HO103.1));clear HI0 HO103 HB HK;have HI0:=n0_;have HO103:=n1_;have HB:=n2_;have HK:=n3_;clear n0_ n1_ n2_ n3_;clear hg hw hp_))
        go_ret
        exact ⟨_,by first|rfl|(simp [b5z,b4z] <;> rfl)|(simp [*,b5z,b4z] <;> rfl),by (with_reducible repeat (first|apply Kd.R_alloc|apply Kd.b6z|apply Kd.b9z));exact HO103.1,by repeat (first|(with_reducible first|exact HI0.1|apply IsS80.alloc|apply IsS80.drewN|apply IsS80.drew|apply IsS80.set_1)|exact HI0.1),by repeat (first|(with_reducible first|exact HB.1|apply a3z|apply a0z|apply a2z|refine a5z ?_ (IsS80.ge HI0.1))|exact HB.1),by repeat (first|(with_reducible first|exact HK.1|apply a7z.set_|apply b0z|apply b3z|apply keep_alloc)|exact HK.1)⟩
       ·rw [if_neg c56] at H
        exact absurd H (by simp)
      ·rw [if_neg c55] at H
       exact absurd H (by simp)
     ·rw [if_neg c53] at H
      have c53b0 : (t107 == 3) = false:=beq_eq_false_iff_ne.mpr c53
      have c53b1 : (t107 != 3) = true:=bne_iff_ne.mpr c53
      by_cases c65 : t107 = 4
      ·rw [if_pos c65] at H
       have c65b0 : (t107 == 4) = true:=beq_iff_eq.mpr c65
       have c65b1 : (t107 != 4) = false:=bne_eq_false_iff_eq.mpr c65
       clear c65
       have H':=a1z.mk H
       clear H
       go_enter Tryz.func24,Tryz.ntmps24
       go_wp2_with (first|((with_reducible refine b2z (f:=35) rfl ?_);refine c1z (some 6) rfl rfl Tryz.func35 (by kernel_rfl) rfl #[.pointer (some ⟨g,0,none⟩)] rfl (by (try simp only [mA_,mC_,mN_]);first|done|rfl|(simp only [lD_,lT_];rfl)) ?_;(with_reducible refine (spec_l12Rules.calls k g s0_0 s0_1 t101 t104 w0 _ ?side1 ?side2 A2.1).mono ?_);(case side1 => repeat (first|(with_reducible first|exact HI0.1|apply IsS80.alloc|apply IsS80.drewN|apply IsS80.drew|apply IsS80.set_1)|exact HI0.1));(case side2 => repeat (first|(with_reducible first|exact HB.1|apply a3z|apply a0z|apply a2z|refine a5z ?_ (IsS80.ge HI0.1))|exact HB.1));rintro e w66 ⟨v102,rfl,ho0,hi,hb,hk⟩;refine ⟨_,rfl,?_⟩;have n0_:=a1z.mk (Kd.e1z ho0 (d0z (w:=w) (g:=g) (row:=none) (by repeat (first|(with_reducible first|exact HK.1|apply a7z.set_|apply b0z|apply b3z|apply keep_alloc)|exact HK.1))));have n1_:=a1z.mk (a7z.trans (by repeat (first|(with_reducible first|exact HK.1|apply a7z.set_|apply b0z|apply b3z|apply keep_alloc)|exact HK.1)) hk (.inl rfl));have n2_:=a1z.mk (hb);have n3_:=a1z.mk (hi);clear HK HB HI0;have HO103:=n0_;have HK:=n1_;have HB:=n2_;have HI0:=n3_;clear n0_ n1_ n2_ n3_;(try clear hb);(try clear hk);(try clear hi);(try clear ho0);obtain ⟨Ao67,co67,eo67⟩:=Kd.e0z HO103.1;subst eo67)|((with_reducible refine b2z (f:=50) rfl ?_);refine c1z (some 14) rfl rfl Tryz.func50 (by kernel_rfl) rfl #[.pointer (some ⟨g,0,none⟩),.int .i64 (t101.length : Int)] rfl (by (try simp only [mA_,mC_,mN_]);first|done|rfl|(simp only [lD_,lT_];rfl)) ?_;(with_reducible refine (spec_l1Rd_pick.calls k g s0_0 t104 (t101.length : Int) t105 t106 w0 _ ?side1 ?side2 A6.1).mono ?_);(case side1 => repeat (first|(with_reducible first|exact HI0.1|apply IsS80.alloc|apply IsS80.drewN|apply IsS80.drew|apply IsS80.set_1)|exact HI0.1));(case side2 => repeat (first|(with_reducible first|exact HB.1|apply a3z|apply a0z|apply a2z|refine a5z ?_ (IsS80.ge HI0.1))|exact HB.1));rintro e w68 ⟨rfl,hi,hb,hk⟩;refine ⟨_,rfl,?_⟩;have n0_:=a1z.mk (Kd.c9z (Kd.e2z (IsS80.apart (show IsS80 w0 _ g s0_0 t104 from by repeat (first|(with_reducible first|exact HI0.1|apply IsS80.alloc|apply IsS80.drewN|apply IsS80.drew|apply IsS80.set_1)|exact HI0.1)) (by (with_reducible repeat (first|apply Kd.R_alloc|apply Kd.b6z|apply Kd.b9z));exact HO103.1) (by decide)) hk (fun _ h => h.2)) (fun _ h => h.1));have n1_:=a1z.mk (a7z.trans (by repeat (first|(with_reducible first|exact HK.1|apply a7z.set_|apply b0z|apply b3z|apply keep_alloc)|exact HK.1)) hk (.inl rfl));have n2_:=a1z.mk (hb);have n3_:=a1z.mk (hi);clear HO103 HK HB HI0;have HO103:=n0_;have HK:=n1_;have HB:=n2_;have HI0:=n3_;clear n0_ n1_ n2_ n3_;(try clear hb);(try clear hk);(try clear hi))|((with_reducible refine b2z (f:=50) rfl ?_);refine c1z (some 16) rfl rfl Tryz.func50 (by kernel_rfl) rfl #[.pointer (some ⟨g,0,none⟩),.int .i64 20] rfl (by (try simp only [mA_,mC_,mN_]);first|done|rfl|(simp only [lD_,lT_];rfl)) ?_;(with_reducible refine (spec_l1Rd_pick.calls k g s0_0 t106 20 t107 t108 w0 _ ?side1 ?side2 A7.1).mono ?_);(case side1 => repeat (first|(with_reducible first|exact HI0.1|apply IsS80.alloc|apply IsS80.drewN|apply IsS80.drew|apply IsS80.set_1)|exact HI0.1));(case side2 => repeat (first|(with_reducible first|exact HB.1|apply a3z|apply a0z|apply a2z|refine a5z ?_ (IsS80.ge HI0.1))|exact HB.1));rintro e w69 ⟨rfl,hi,hb,hk⟩;refine ⟨_,rfl,?_⟩;have n0_:=a1z.mk (Kd.c9z (Kd.e2z (IsS80.apart (show IsS80 w0 _ g s0_0 t106 from by repeat (first|(with_reducible first|exact HI0.1|apply IsS80.alloc|apply IsS80.drewN|apply IsS80.drew|apply IsS80.set_1)|exact HI0.1)) (by (with_reducible repeat (first|apply Kd.R_alloc|apply Kd.b6z|apply Kd.b9z));exact HO103.1) (by decide)) hk (fun _ h => h.2)) (fun _ h => h.1));have n1_:=a1z.mk (a7z.trans (by repeat (first|(with_reducible first|exact HK.1|apply a7z.set_|apply b0z|apply b3z|apply keep_alloc)|exact HK.1)) hk (.inl rfl));have n2_:=a1z.mk (hb);have n3_:=a1z.mk (hi);clear HO103 HK HB HI0;have HO103:=n0_;have HK:=n1_;have HB:=n2_;have HI0:=n3_;clear n0_ n1_ n2_ n3_;(try clear hb);(try clear hk);(try clear hi)))
       go_loopg [3] k (fun kq v3 w' => ∃ (x3_1 : List (S39)) (x1001_1 : Int),a1z (spec_l12AnyRules.l0 kq x3_1 s0_0 x1001_1 = some (r1,r2)) ∧ a1z (kq ≤ k) ∧ a1z (Kd.R k39 39 w' w.heap.size (fun _ => True) v3 x3_1) ∧ a1z (IsS80 w0 w' g s0_0 x1001_1) ∧ a1z (a7z w w' g none) ∧ a1z (Below w0.heap.size w0 w'))
       case atStart => exact ⟨(t101),(t108),H',⟨Nat.le_refl _⟩,⟨by (with_reducible repeat (first|apply Kd.R_alloc|apply Kd.b6z|apply Kd.b9z));exact HO103.1⟩,⟨by repeat (first|(with_reducible first|exact HI0.1|apply IsS80.alloc|apply IsS80.drewN|apply IsS80.drew|apply IsS80.set_1)|exact HI0.1)⟩,⟨by repeat (first|(with_reducible first|exact HK.1|apply a7z.set_|apply b0z|apply b3z|apply keep_alloc)|exact HK.1)⟩,⟨by repeat (first|(with_reducible first|exact HB.1|apply a3z|apply a0z|apply a2z|refine a5z ?_ (IsS80.ge HI0.1))|exact HB.1)⟩⟩
       case round =>
        clear H'
        try clear c1
        try clear p1
        try clear q1
        try clear hx1
        try clear hf1
        try clear c2
        try clear p2
        try clear q2
        try clear hx2
        try clear hf2
        try clear c3
        try clear c3b0
        try clear c3b1
        try clear c3b2
        try clear hx3
        try clear hf3
        try clear c4
        try clear p4
        try clear q4
        try clear hx4
        try clear hf4
        try clear c5
        try clear p5
        try clear q5
        try clear hx5
        try clear hf5
        try clear c6
        try clear hx6
        try clear hf6
        try clear c8
        try clear c8b0
        try clear c8b1
        try clear c10
        try clear c10b0
        try clear c11
        try clear c11b0
        try clear c12
        try clear p12
        try clear q12
        try clear hx12
        try clear hf12
        try clear c21
        try clear hx21
        try clear hf21
        try clear c23
        try clear c23b0
        try clear c23b1
        try clear c24
        try clear c25
        try clear c25b0
        try clear c26
        try clear c26b0
        try clear c27
        try clear p27
        try clear q27
        try clear hx27
        try clear hf27
        try clear c35
        try clear c36
        try clear hx36
        try clear hf36
        try clear c38
        try clear c38b0
        try clear c38b1
        try clear c40
        try clear c40b0
        try clear c41
        try clear c41b0
        try clear c42
        try clear p42
        try clear q42
        try clear hx42
        try clear hf42
        try clear c50
        try clear c51
        try clear hx51
        try clear hf51
        try clear c52
        try clear c53
        try clear c53b0
        try clear c53b1
        try clear c55
        try clear c55b0
        try clear c56
        try clear c56b0
        try clear c57
        try clear p57
        try clear q57
        try clear hx57
        try clear hf57
        try clear c63
        try clear hx63
        try clear hf63
        try clear c65
        try clear c65b0
        try clear c65b1
        try clear hx12_0
        try clear hx12_1
        try clear hx12_2
        try clear hx12_3
        try clear hx12_4
        try clear hx12_5
        try clear hx12_6
        try clear hx12_7
        try clear hx21_0
        try clear hx27_0
        try clear hx27_1
        try clear hx27_2
        try clear hx27_3
        try clear hx27_4
        try clear hx27_5
        try clear hx27_6
        try clear hx27_7
        try clear hx36_1
        try clear hx42_0
        try clear hx42_1
        try clear hx42_2
        try clear hx42_3
        try clear hx42_4
        try clear hx42_5
        try clear hx42_6
        try clear hx42_7
        try clear hx51_6
        try clear hx57_0
        try clear hx57_1
        try clear hx57_2
        try clear hx57_3
        try clear hx57_4
        try clear hx57_5
        try clear hx57_6
        try clear hx57_7
        try clear hx63_2
        try clear hx63_3
        try clear p12
        try clear p27
        try clear p42
        try clear p57
        try clear q12
        try clear q27
        try clear q42
        try clear q57
        obtain ⟨x3_1,x1001_1,HA,HK1,HO_3,HI0,HK,HB⟩:=hrel
        cases gk with
        | zero => exact absurd HA.1 (by simp [spec_l12AnyRules.l0])
        | succ k1 =>
         have H:=HA.1
         clear HA
         simp only [spec_l12AnyRules.l0] at H
         replace H:=Option.bind_eq_some_iff.mp H
         obtain ⟨⟨t131,t132⟩,A700,H⟩:=H
         replace H : (if (x3_1.length : Int) < (wrap64 (8 + t131)) then ((spec_l12Rule.f k1 s0_0 t132).bind fun bt133 => (if x3_1.length < 2199023255552 then (spec_l12AnyRules.l0 k1 (x3_1 ++ [(⟨bt133.1,bt133.2.1,(⟨bt133.2.2.1,bt133.2.2.2.1⟩ : S37),(⟨bt133.2.2.2.2.1,bt133.2.2.2.2.2.1⟩ : S37),bt133.2.2.2.2.2.2.1,bt133.2.2.2.2.2.2.2.1⟩ : S39)]) s0_0 bt133.2.2.2.2.2.2.2.2) else (none))) else (some (x3_1,t132))) = some (r1,r2):=H
         have A70:=a1z.mk A700
         clear A700
         by_cases c71 : (x3_1.length : Int) < (wrap64 (8 + t131))
         ·rw [if_pos c71] at H
          have c71b0 : decide ((x3_1.length : Int) < (wrap64 (8 + t131))) = true:=decide_eq_true c71
          clear c71
          replace H:=Option.bind_eq_some_iff.mp H
          obtain ⟨⟨t133,t134,t135,t136,t137,t138,t139,t140,t141⟩,A720,H⟩:=H
          replace H : (if x3_1.length < 2199023255552 then (spec_l12AnyRules.l0 k1 (x3_1 ++ [(⟨t133,t134,(⟨t135,t136⟩ : S37),(⟨t137,t138⟩ : S37),t139,t140⟩ : S39)]) s0_0 t141) else (none)) = some (r1,r2):=H
          have A72:=a1z.mk A720
          clear A720
          by_cases c73 : x3_1.length < 2199023255552
          ·rw [if_pos c73] at H
           have LMc73:=a1z.mk c73
           clear c73
           obtain ⟨y142,hy142⟩ : ∃ y_ : List (S39),y_ = (x3_1 ++ [(⟨t133,t134,(⟨t135,t136⟩ : S37),(⟨t137,t138⟩ : S37),t139,t140⟩ : S39)]):=⟨_,rfl⟩
           replace H : (spec_l12AnyRules.l0 k1 y142 s0_0 t141) = some (r1,r2):=by first|(rw [hy142];with_reducible exact H)|(have H2_:=(Option.bind_some _ _).symm.trans H;rw [hy142];with_reducible exact H2_)|(have H2_:=(Option.bind_some _ _).symm.trans H;with_reducible exact H2_)|with_reducible exact H|(rw [hy142];exact H)|exact H
           have Ny142:=a1z.mk hy142
           clear hy142
           have H':=a1z.mk H
           clear H
           obtain ⟨Ao74,co74,eo74⟩:=Kd.e0z HO_3.1
           subst eo74
           go_wp2_with (first|((with_reducible refine b2z (f:=50) rfl ?_);refine c1z (some 57) rfl rfl Tryz.func50 (by kernel_rfl) rfl #[.pointer (some ⟨g,0,none⟩),.int .i64 2] rfl (by (try simp only [mA_,mC_,mN_]);first|done|rfl|(simp only [lD_,lT_];rfl)) ?_;(with_reducible refine (spec_l1Rd_pick.calls k1 g s0_0 x1001_1 2 t131 t132 w0 _ ?side1 ?side2 A70.1).mono ?_);(case side1 => repeat (first|(with_reducible first|exact HI0.1|apply IsS80.alloc|apply IsS80.drewN|apply IsS80.drew|apply IsS80.set_1)|exact HI0.1));(case side2 => repeat (first|(with_reducible first|exact HB.1|apply a3z|apply a0z|apply a2z|refine a5z ?_ (IsS80.ge HI0.1))|exact HB.1));rintro e w75 ⟨rfl,hi,hb,hk⟩;refine ⟨_,rfl,?_⟩;have n0_:=a1z.mk (Kd.c9z (Kd.e2z (IsS80.apart (show IsS80 w0 _ g s0_0 x1001_1 from by repeat (first|(with_reducible first|exact HI0.1|apply IsS80.alloc|apply IsS80.drewN|apply IsS80.drew|apply IsS80.set_1)|exact HI0.1)) (by (with_reducible repeat (first|apply Kd.R_alloc|apply Kd.b6z|apply Kd.b9z));exact HO_3.1) (by decide)) hk (fun _ h => h.2)) (fun _ h => h.1));have n1_:=a1z.mk (a7z.trans (by repeat (first|(with_reducible first|exact HK.1|apply a7z.set_|apply b0z|apply b3z|apply keep_alloc)|exact HK.1)) hk (.inl rfl));have n2_:=a1z.mk (hb);have n3_:=a1z.mk (hi);clear HO_3 HK HB HI0;have HO_3:=n0_;have HK:=n1_;have HB:=n2_;have HI0:=n3_;clear n0_ n1_ n2_ n3_;(try clear hb);(try clear hk);(try clear hi))|((with_reducible refine b2z (f:=53) rfl ?_);refine c1z (some 62) rfl rfl Tryz.func53 (by kernel_rfl) rfl #[.pointer (some ⟨g,0,none⟩)] rfl (by (try simp only [mA_,mC_,mN_]);first|done|rfl|(simp only [lD_,lT_];rfl)) ?_;(with_reducible refine (spec_l12Rule.calls k1 g s0_0 t132 t133 t134 t135 t136 t137 t138 t139 t140 t141 w0 _ ?side1 ?side2 A72.1).mono ?_);(case side1 => repeat (first|(with_reducible first|exact HI0.1|apply IsS80.alloc|apply IsS80.drewN|apply IsS80.drew|apply IsS80.set_1)|exact HI0.1));(case side2 => repeat (first|(with_reducible first|exact HB.1|apply a3z|apply a0z|apply a2z|refine a5z ?_ (IsS80.ge HI0.1))|exact HB.1));rintro e w76 ⟨rfl,hi,hb,hk⟩;refine ⟨_,rfl,?_⟩;have n0_:=a1z.mk (Kd.c9z (Kd.e2z (IsS80.apart (show IsS80 w0 _ g s0_0 t132 from by repeat (first|(with_reducible first|exact HI0.1|apply IsS80.alloc|apply IsS80.drewN|apply IsS80.drew|apply IsS80.set_1)|exact HI0.1)) (by (with_reducible repeat (first|apply Kd.R_alloc|apply Kd.b6z|apply Kd.b9z));exact HO_3.1) (by decide)) hk (fun _ h => h.2)) (fun _ h => h.1));have n1_:=a1z.mk (a7z.trans (by repeat (first|(with_reducible first|exact HK.1|apply a7z.set_|apply b0z|apply b3z|apply keep_alloc)|exact HK.1)) hk (.inl rfl));have n2_:=a1z.mk (hb);have n3_:=a1z.mk (hi);clear HO_3 HK HB HI0;have HO_3:=n0_;have HK:=n1_;have HB:=n2_;have HI0:=n3_;clear n0_ n1_ n2_ n3_;(try clear hb);(try clear hk);(try clear hi))|((with_reducible refine g7z (b:=.append) (xs:=#[.tmp 60,.tmp 63]) rfl ?_);at_builtin;refine Kd.R_append k39 w.heap.size rfl (.tmp 60) (.tmp 63) 22 39 (.agg #[(.int .i64 0),(.int .i64 0),(.int .i64 0),(.int .i64 0),(.int .i64 0),(.int .i64 0),(.int .i64 0),(.int .i64 0)]) 64 rfl Tryz.underlying22 info39 rfl (by decide) (by omega) (.slice Ao74 x3_1.length co74) x3_1 (⟨t133,t134,(⟨t135,t136⟩ : S37),(⟨t137,t138⟩ : S37),t139,t140⟩ : S39) [.int .i64 t133,.int .i64 t134,.int .i64 t135,.int .i64 t136,.int .i64 t137,.int .i64 t138,.int .i64 t139,.int .i64 t140] (fun _ => True) (fun _ => False) rfl rfl ?aP (fun _ hk => hk.elim) ?aF ?aO (Below.refl _ _) ?aS ?aL ?_;(case aP => exact k39_mkM _ _ _ (⟨t133,t134,(⟨t135,t136⟩ : S37),(⟨t137,t138⟩ : S37),t139,t140⟩ : S39));(case aF => exact (fun _ _ => trivial));(case aO => exact (by (with_reducible repeat (first|apply Kd.R_alloc|apply Kd.b6z|apply Kd.b9z));exact HO_3.1));(case aS => exact (d0z (w:=w) (g:=g) (row:=none) (by repeat (first|(with_reducible first|exact HK.1|apply a7z.set_|apply b0z|apply b3z|apply keep_alloc)|exact HK.1))));(case aL => have:=LMc73.1;omega);intro v143 w77 ho hb hg hat;rw [← Ny142.1] at ho;have n0_:=a1z.mk (IsS80.grown (by repeat (first|(with_reducible first|exact HI0.1|apply IsS80.alloc|apply IsS80.drewN|apply IsS80.drew|apply IsS80.set_1)|exact HI0.1)) hg (IsS80.own_ne HI0.1 HO_3.1 (by decide)));have n1_:=a1z.mk (below_weaken (by repeat (first|(with_reducible first|exact HB.1|apply a3z|apply a0z|apply a2z|refine a5z ?_ (IsS80.ge HI0.1))|exact HB.1)) HL.1 hb);have n2_:=a1z.mk (a7z.trans (by repeat (first|(with_reducible first|exact HK.1|apply a7z.set_|apply b0z|apply b3z|apply keep_alloc)|exact HK.1)) (a7z.of_grown hg g) (Kd.R_base2 HO_3.1));have n3_:=a1z.mk (ho);clear HI0 HB HK HO_3;have HI0:=n0_;have HB:=n1_;have HK:=n2_;have HO144:=n3_;clear n0_ n1_ n2_ n3_;clear ho hb hg hat))
           go_roundg k1
           case measure => have:=HK1.1;omega
           case rel => exact ⟨(y142),(t141),H',⟨by have:=HK1.1;omega⟩,⟨by (with_reducible repeat (first|apply Kd.R_alloc|apply Kd.b6z|apply Kd.b9z));exact HO144.1⟩,⟨by repeat (first|(with_reducible first|exact HI0.1|apply IsS80.alloc|apply IsS80.drewN|apply IsS80.drew|apply IsS80.set_1)|exact HI0.1)⟩,⟨by repeat (first|(with_reducible first|exact HK.1|apply a7z.set_|apply b0z|apply b3z|apply keep_alloc)|exact HK.1)⟩,⟨by repeat (first|(with_reducible first|exact HB.1|apply a3z|apply a0z|apply a2z|refine a5z ?_ (IsS80.ge HI0.1))|exact HB.1)⟩⟩
          ·rw [if_neg c73] at H
           exact absurd H (by simp)
         ·rw [if_neg c71] at H
          have c71b0 : decide ((x3_1.length : Int) < (wrap64 (8 + t131))) = false:=decide_eq_false c71
          clear c71
          simp only [Option.some.injEq,Prod.mk.injEq] at H
          obtain ⟨rfl,rfl⟩:=H
          obtain ⟨Ao78,co78,eo78⟩:=Kd.e0z HO_3.1
          subst eo78
          go_wp2_with (first|((with_reducible refine b2z (f:=50) rfl ?_);refine c1z (some 57) rfl rfl Tryz.func50 (by kernel_rfl) rfl #[.pointer (some ⟨g,0,none⟩),.int .i64 2] rfl (by (try simp only [mA_,mC_,mN_]);first|done|rfl|(simp only [lD_,lT_];rfl)) ?_;(with_reducible refine (spec_l1Rd_pick.calls k1 g s0_0 x1001_1 2 t131 t132 w0 _ ?side1 ?side2 A70.1).mono ?_);(case side1 => repeat (first|(with_reducible first|exact HI0.1|apply IsS80.alloc|apply IsS80.drewN|apply IsS80.drew|apply IsS80.set_1)|exact HI0.1));(case side2 => repeat (first|(with_reducible first|exact HB.1|apply a3z|apply a0z|apply a2z|refine a5z ?_ (IsS80.ge HI0.1))|exact HB.1));rintro e w79 ⟨rfl,hi,hb,hk⟩;refine ⟨_,rfl,?_⟩;have n0_:=a1z.mk (Kd.c9z (Kd.e2z (IsS80.apart (show IsS80 w0 _ g s0_0 x1001_1 from by repeat (first|(with_reducible first|exact HI0.1|apply IsS80.alloc|apply IsS80.drewN|apply IsS80.drew|apply IsS80.set_1)|exact HI0.1)) (by (with_reducible repeat (first|apply Kd.R_alloc|apply Kd.b6z|apply Kd.b9z));exact HO_3.1) (by decide)) hk (fun _ h => h.2)) (fun _ h => h.1));have n1_:=a1z.mk (a7z.trans (by repeat (first|(with_reducible first|exact HK.1|apply a7z.set_|apply b0z|apply b3z|apply keep_alloc)|exact HK.1)) hk (.inl rfl));have n2_:=a1z.mk (hb);have n3_:=a1z.mk (hi);clear HO_3 HK HB HI0;have HO_3:=n0_;have HK:=n1_;have HB:=n2_;have HI0:=n3_;clear n0_ n1_ n2_ n3_;(try clear hb);(try clear hk);(try clear hi)))
          go_ret
          exact ⟨_,by first|rfl|(simp [b5z,b4z] <;> rfl)|(simp [*,b5z,b4z] <;> rfl),by (with_reducible repeat (first|apply Kd.R_alloc|apply Kd.b6z|apply Kd.b9z));exact HO_3.1,by repeat (first|(with_reducible first|exact HI0.1|apply IsS80.alloc|apply IsS80.drewN|apply IsS80.drew|apply IsS80.set_1)|exact HI0.1),by repeat (first|(with_reducible first|exact HB.1|apply a3z|apply a0z|apply a2z|refine a5z ?_ (IsS80.ge HI0.1))|exact HB.1),by repeat (first|(with_reducible first|exact HK.1|apply a7z.set_|apply b0z|apply b3z|apply keep_alloc)|exact HK.1)⟩
      ·rw [if_neg c65] at H
       have c65b0 : (t107 == 4) = false:=beq_eq_false_iff_ne.mpr c65
       have c65b1 : (t107 != 4) = true:=bne_iff_ne.mpr c65
       simp only [Option.some.injEq,Prod.mk.injEq] at H
       obtain ⟨rfl,rfl⟩:=H
       go_enter Tryz.func24,Tryz.ntmps24
       go_wp2_with (first|((with_reducible refine b2z (f:=35) rfl ?_);refine c1z (some 6) rfl rfl Tryz.func35 (by kernel_rfl) rfl #[.pointer (some ⟨g,0,none⟩)] rfl (by (try simp only [mA_,mC_,mN_]);first|done|rfl|(simp only [lD_,lT_];rfl)) ?_;(with_reducible refine (spec_l12Rules.calls k g s0_0 s0_1 t101 t104 w0 _ ?side1 ?side2 A2.1).mono ?_);(case side1 => repeat (first|(with_reducible first|exact HI0.1|apply IsS80.alloc|apply IsS80.drewN|apply IsS80.drew|apply IsS80.set_1)|exact HI0.1));(case side2 => repeat (first|(with_reducible first|exact HB.1|apply a3z|apply a0z|apply a2z|refine a5z ?_ (IsS80.ge HI0.1))|exact HB.1));rintro e w80 ⟨v102,rfl,ho0,hi,hb,hk⟩;refine ⟨_,rfl,?_⟩;have n0_:=a1z.mk (Kd.e1z ho0 (d0z (w:=w) (g:=g) (row:=none) (by repeat (first|(with_reducible first|exact HK.1|apply a7z.set_|apply b0z|apply b3z|apply keep_alloc)|exact HK.1))));have n1_:=a1z.mk (a7z.trans (by repeat (first|(with_reducible first|exact HK.1|apply a7z.set_|apply b0z|apply b3z|apply keep_alloc)|exact HK.1)) hk (.inl rfl));have n2_:=a1z.mk (hb);have n3_:=a1z.mk (hi);clear HK HB HI0;have HO103:=n0_;have HK:=n1_;have HB:=n2_;have HI0:=n3_;clear n0_ n1_ n2_ n3_;(try clear hb);(try clear hk);(try clear hi);(try clear ho0);obtain ⟨Ao81,co81,eo81⟩:=Kd.e0z HO103.1;subst eo81)|((with_reducible refine b2z (f:=50) rfl ?_);refine c1z (some 14) rfl rfl Tryz.func50 (by kernel_rfl) rfl #[.pointer (some ⟨g,0,none⟩),.int .i64 (t101.length : Int)] rfl (by (try simp only [mA_,mC_,mN_]);first|done|rfl|(simp only [lD_,lT_];rfl)) ?_;(with_reducible refine (spec_l1Rd_pick.calls k g s0_0 t104 (t101.length : Int) t105 t106 w0 _ ?side1 ?side2 A6.1).mono ?_);(case side1 => repeat (first|(with_reducible first|exact HI0.1|apply IsS80.alloc|apply IsS80.drewN|apply IsS80.drew|apply IsS80.set_1)|exact HI0.1));(case side2 => repeat (first|(with_reducible first|exact HB.1|apply a3z|apply a0z|apply a2z|refine a5z ?_ (IsS80.ge HI0.1))|exact HB.1));rintro e w82 ⟨rfl,hi,hb,hk⟩;refine ⟨_,rfl,?_⟩;have n0_:=a1z.mk (Kd.c9z (Kd.e2z (IsS80.apart (show IsS80 w0 _ g s0_0 t104 from by repeat (first|(with_reducible first|exact HI0.1|apply IsS80.alloc|apply IsS80.drewN|apply IsS80.drew|apply IsS80.set_1)|exact HI0.1)) (by (with_reducible repeat (first|apply Kd.R_alloc|apply Kd.b6z|apply Kd.b9z));exact HO103.1) (by decide)) hk (fun _ h => h.2)) (fun _ h => h.1));have n1_:=a1z.mk (a7z.trans (by repeat (first|(with_reducible first|exact HK.1|apply a7z.set_|apply b0z|apply b3z|apply keep_alloc)|exact HK.1)) hk (.inl rfl));have n2_:=a1z.mk (hb);have n3_:=a1z.mk (hi);clear HO103 HK HB HI0;have HO103:=n0_;have HK:=n1_;have HB:=n2_;have HI0:=n3_;clear n0_ n1_ n2_ n3_;(try clear hb);(try clear hk);(try clear hi))|((with_reducible refine b2z (f:=50) rfl ?_);refine c1z (some 16) rfl rfl Tryz.func50 (by kernel_rfl) rfl #[.pointer (some ⟨g,0,none⟩),.int .i64 20] rfl (by (try simp only [mA_,mC_,mN_]);first|done|rfl|(simp only [lD_,lT_];rfl)) ?_;(with_reducible refine (spec_l1Rd_pick.calls k g s0_0 t106 20 t107 t108 w0 _ ?side1 ?side2 A7.1).mono ?_);(case side1 => repeat (first|(with_reducible first|exact HI0.1|apply IsS80.alloc|apply IsS80.drewN|apply IsS80.drew|apply IsS80.set_1)|exact HI0.1));(case side2 => repeat (first|(with_reducible first|exact HB.1|apply a3z|apply a0z|apply a2z|refine a5z ?_ (IsS80.ge HI0.1))|exact HB.1));rintro e w83 ⟨rfl,hi,hb,hk⟩;refine ⟨_,rfl,?_⟩;have n0_:=a1z.mk (Kd.c9z (Kd.e2z (IsS80.apart (show IsS80 w0 _ g s0_0 t106 from by repeat (first|(with_reducible first|exact HI0.1|apply IsS80.alloc|apply IsS80.drewN|apply IsS80.drew|apply IsS80.set_1)|exact HI0.1)) (by (with_reducible repeat (first|apply Kd.R_alloc|apply Kd.b6z|apply Kd.b9z));exact HO103.1) (by decide)) hk (fun _ h => h.2)) (fun _ h => h.1));have n1_:=a1z.mk (a7z.trans (by repeat (first|(with_reducible first|exact HK.1|apply a7z.set_|apply b0z|apply b3z|apply keep_alloc)|exact HK.1)) hk (.inl rfl));have n2_:=a1z.mk (hb);have n3_:=a1z.mk (hi);clear HO103 HK HB HI0;have HO103:=n0_;have HK:=n1_;have HB:=n2_;have HI0:=n3_;clear n0_ n1_ n2_ n3_;(try clear hb);(try clear hk);(try clear hi)))
       go_ret
       exact ⟨_,by first|rfl|(simp [b5z,b4z] <;> rfl)|(simp [*,b5z,b4z] <;> rfl),by (with_reducible repeat (first|apply Kd.R_alloc|apply Kd.b6z|apply Kd.b9z));exact HO103.1,by repeat (first|(with_reducible first|exact HI0.1|apply IsS80.alloc|apply IsS80.drewN|apply IsS80.drew|apply IsS80.set_1)|exact HI0.1),by repeat (first|(with_reducible first|exact HB.1|apply a3z|apply a0z|apply a2z|refine a5z ?_ (IsS80.ge HI0.1))|exact HB.1),by repeat (first|(with_reducible first|exact HK.1|apply a7z.set_|apply b0z|apply b3z|apply keep_alloc)|exact HK.1)⟩
def spec_l1Open.f (l0 : List Int) : Option (List Int × Int):=if (l0.length : Int) > 2000 then (if 2000 ≤ (l0.length : Int) then (some (l0.take 2000,0)) else (none)) else (some (l0,0))
set_option maxHeartbeats 8000000 in
set_option maxRecDepth 100000 in
theorem spec_l1Open.calls (A0 : Option Addr) (c0 : Nat) (l0 : List Int) (r1 : List Int) (r2 : Int) (w0 w : World) (hB : Below w0.heap.size w0 w) (hr0 : Kd.C (Kd.int .u8) w0 A0 l0.length l0) (hc0 : l0.length ≤ c0) (h : spec_l1Open.f l0 = some (r1,r2)) :
  Calls Tryz.prog 25 #[.slice A0 l0.length c0] w fun e w' => ∃ g_ : Nat,e = .returned (.pointer (some ⟨g_,0,none⟩)) ∧ IsS80 w0 w' g_ r1 r2 ∧ Below w0.heap.size w0 w' ∧ Below w.heap.size w w':=by
 have hu80:=Tryz.underlying80
 have HR0:=a1z.mk hr0
 have HC0:=a1z.mk hc0
 clear hr0 hc0
 have HBW:=a1z.mk (Below.refl w.heap.size w)
 have HW0:=a1z.mk hB.size
 have HB:=a1z.mk hB
 clear hB
 have H : (if (l0.length : Int) > 2000 then (if 2000 ≤ (l0.length : Int) then (some (l0.take 2000,0)) else (none)) else (some (l0,0))) = some (r1,r2):=h
 clear h
 by_cases c2 : (l0.length : Int) > 2000
 ·rw [if_pos c2] at H
  have c2b0 : decide (2000 < (l0.length : Int)) = true:=decide_eq_true c2
  have c2b1 : decide (2000 < l0.length) = true:=decide_eq_true (by omega)
  clear c2
  by_cases c3 : 2000 ≤ (l0.length : Int)
  ·rw [if_pos c3] at H
   have c3b0:=eq_true c3
   have c3b1 : decide (2000 ≤ (l0.length : Int)) = true:=decide_eq_true c3
   clear c3
   simp only [Option.some.injEq,Prod.mk.injEq] at H
   obtain ⟨rfl,rfl⟩:=H
   obtain ⟨i04,hi04,_,hsz4,_⟩:=info_parts info5
   obtain ⟨hcut4,hA4,hC4⟩:=print_take_of (P:=Tryz.prog) (Value.int .u8) 0 28 5 .i64 Tryz.underlying28 hi04 hsz4 A0 c0 l0 2000 (by omega) (of_decide_eq_true (by first|(with_reducible assumption)|assumption)) HC0.1
   have HR101:=a1z.mk (Kd.C_of_reads (h1:=fun _ => rfl) (hA4 _ (Kd.reads_of_C HR0.1)))
   have HC101:=a1z.mk hC4
   clear hA4 hC4 hi04 hsz4
   go_enter Tryz.func25,Tryz.ntmps25
   go_wp2_with (first|((with_reducible refine c5z (N:=10) rfl ?_);refine d2z ?hg (N:=10) ?hd (cs:=#[.slice A0 (l0.take 2000).length c0,.int .i64 0]) (t:=80) ?hr ?_;(case hd => rfl);(case hg => rfl);(case hr => first|(go_simp;done)|(go_simp;rfl));intro gb102 hg w5 hbox hb;have n0_:=a1z.mk (b1z HBW.1 hb);have n1_:=a1z.mk (b1z (by repeat (first|(with_reducible first|exact HB.1|apply a3z|apply a0z|apply a2z)|exact HB.1)) hb);have n2_:=a1z.mk (hbox);have n3_:=a1z.mk ((by rw [hg];exact (b8z (by repeat (first|(with_reducible first|exact HBW.1|apply a3z|apply a0z|apply a2z)|exact HBW.1))) : w.heap.size ≤ gb102));have n4_:=a1z.mk ((Nat.le_trans HW0.1 (by rw [hg];exact (b8z (by repeat (first|(with_reducible first|exact HBW.1|apply a3z|apply a0z|apply a2z)|exact HBW.1))) : w.heap.size ≤ gb102) : w0.heap.size ≤ gb102));clear HBW HB;have HBW:=n0_;have HB:=n1_;have BK102:=n2_;have GW102:=n3_;have GE102:=n4_;clear n0_ n1_ n2_ n3_ n4_;clear hb hbox hg))
   go_ret
   exact ⟨_,rfl,(show IsS80 w0 _ gb102 (l0.take 2000) 0 from ⟨_,_,by (with_reducible repeat (first|refine a8z ?_ _|refine a9z ?_|refine blk_alloc ?_ _));exact BK102.1,GE102.1,HR101.1⟩),by repeat (first|(with_reducible first|exact HB.1|apply a3z|apply a0z|apply a2z|refine a5z ?_ GE102.1)|exact HB.1),by repeat (first|(with_reducible first|exact HBW.1|apply a3z|apply a0z|apply a2z|refine a5z ?_ GW102.1)|exact HBW.1)⟩
  ·rw [if_neg c3] at H
   exact absurd H (by simp)
 ·rw [if_neg c2] at H
  have c2b0 : decide (2000 < (l0.length : Int)) = false:=decide_eq_false c2
  have c2b1 : decide (2000 < l0.length) = false:=decide_eq_false (by omega)
  clear c2
  simp only [Option.some.injEq,Prod.mk.injEq] at H
  obtain ⟨rfl,rfl⟩:=H
  go_enter Tryz.func25,Tryz.ntmps25
  go_wp2_with (first|((with_reducible refine c5z (N:=10) rfl ?_);refine d2z ?hg (N:=10) ?hd (cs:=#[.slice A0 l0.length c0,.int .i64 0]) (t:=80) ?hr ?_;(case hd => rfl);(case hg => rfl);(case hr => first|(go_simp;done)|(go_simp;rfl));intro gb103 hg w6 hbox hb;have n0_:=a1z.mk (b1z HBW.1 hb);have n1_:=a1z.mk (b1z (by repeat (first|(with_reducible first|exact HB.1|apply a3z|apply a0z|apply a2z)|exact HB.1)) hb);have n2_:=a1z.mk (hbox);have n3_:=a1z.mk ((by rw [hg];exact (b8z (by repeat (first|(with_reducible first|exact HBW.1|apply a3z|apply a0z|apply a2z)|exact HBW.1))) : w.heap.size ≤ gb103));have n4_:=a1z.mk ((Nat.le_trans HW0.1 (by rw [hg];exact (b8z (by repeat (first|(with_reducible first|exact HBW.1|apply a3z|apply a0z|apply a2z)|exact HBW.1))) : w.heap.size ≤ gb103) : w0.heap.size ≤ gb103));clear HBW HB;have HBW:=n0_;have HB:=n1_;have BK103:=n2_;have GW103:=n3_;have GE103:=n4_;clear n0_ n1_ n2_ n3_ n4_;clear hb hbox hg))
  go_ret
  exact ⟨_,rfl,(show IsS80 w0 _ gb103 l0 0 from ⟨_,_,by (with_reducible repeat (first|refine a8z ?_ _|refine a9z ?_|refine blk_alloc ?_ _));exact BK103.1,GE103.1,HR0.1⟩),by repeat (first|(with_reducible first|exact HB.1|apply a3z|apply a0z|apply a2z|refine a5z ?_ GE103.1)|exact HB.1),by repeat (first|(with_reducible first|exact HBW.1|apply a3z|apply a0z|apply a2z|refine a5z ?_ GW103.1)|exact HBW.1)⟩
def spec_DrawRulesPut.f (k : Nat) (l0 : List Int) : Option ((List (S39))):=(spec_l1Open.f l0).bind fun bt101 => ((spec_l12AnyRules.f k bt101.1 bt101.2).bind fun bt104 => (some bt104.1))
set_option maxHeartbeats 8000000 in
set_option maxRecDepth 100000 in
theorem spec_DrawRulesPut.calls (k : Nat) (A0 : Option Addr) (c0 : Nat) (l0 : List Int) (r : List (S39)) (w : World) (hr0 : Kd.C (Kd.int .u8) w A0 l0.length l0) (hc0 : l0.length ≤ c0) (h : spec_DrawRulesPut.f k l0 = some r) :
  Calls Tryz.prog 10 #[.slice A0 l0.length c0] w fun e w' => ∃ v0_ : Value,e = .returned (v0_) ∧ Kd.R k39 39 w' w.heap.size (fun _ => True) v0_ r ∧ Below w.heap.size w w':=by
 have HR0:=a1z.mk hr0
 have HC0:=a1z.mk hc0
 clear hr0 hc0
 have HB:=a1z.mk (Below.refl w.heap.size w)
 have H : ((spec_l1Open.f l0).bind fun bt101 => ((spec_l12AnyRules.f k bt101.1 bt101.2).bind fun bt104 => (some bt104.1))) = some r:=h
 clear h
 replace H:=Option.bind_eq_some_iff.mp H
 obtain ⟨⟨t101,t102⟩,A20,H⟩:=H
 replace H : ((spec_l12AnyRules.f k t101 t102).bind fun bt104 => (some bt104.1)) = some r:=H
 have A2:=a1z.mk A20
 clear A20
 replace H:=Option.bind_eq_some_iff.mp H
 obtain ⟨⟨t104,t107⟩,A30,H⟩:=H
 replace H : (some t104) = some r:=H
 have A3:=a1z.mk A30
 clear A30
 obtain rfl:=Option.some.inj H
 go_enter Tryz.func10,Tryz.ntmps10
 go_wp2_with (first|((with_reducible refine b2z (f:=25) rfl ?_);refine c1z (some 4) rfl rfl Tryz.func25 (by kernel_rfl) rfl #[.slice A0 l0.length c0] rfl (by (try simp only [mA_,mC_,mN_]);first|done|rfl|(simp only [lD_,lT_];rfl)) ?_;(with_reducible refine (spec_l1Open.calls _ _ l0 t101 t102 w _ ?side1 ?side2 ?side3 A2.1).mono ?_);(case side1 => repeat (first|(with_reducible first|exact HB.1|apply a3z|apply a0z|apply a2z)|exact HB.1));(case side2 => exact HR0.1);(case side3 => exact HC0.1);rintro e w4 ⟨g103,rfl,hi,hb,hb2⟩;refine ⟨_,rfl,?_⟩;have n0_:=a1z.mk (hb);have n1_:=a1z.mk (hi);clear HB;have HB:=n0_;have HI103:=n1_;clear n0_ n1_;(try clear hb);(try clear hb2);(try clear hi))|((with_reducible refine b2z (f:=24) rfl ?_);refine c1z (some 5) rfl rfl Tryz.func24 (by kernel_rfl) rfl #[.pointer (some ⟨g103,0,none⟩)] rfl (by (try simp only [mA_,mC_,mN_]);first|done|rfl|(simp only [lD_,lT_];rfl)) ?_;(with_reducible refine (spec_l12AnyRules.calls k g103 t101 t102 t104 t107 w _ ?side1 ?side2 A3.1).mono ?_);(case side1 => repeat (first|(with_reducible first|exact HI103.1|apply IsS80.alloc|apply IsS80.drewN|apply IsS80.drew|apply IsS80.set_1)|exact HI103.1));(case side2 => repeat (first|(with_reducible first|exact HB.1|apply a3z|apply a0z|apply a2z|refine a5z ?_ (IsS80.ge HI103.1))|exact HB.1));rintro e w5 ⟨v105,rfl,ho0,hi,hb,hk⟩;refine ⟨_,rfl,?_⟩;have n0_:=a1z.mk (Kd.e1z ho0 (b8z (by repeat (first|(with_reducible first|exact HB.1|apply a3z|apply a0z|apply a2z|refine a5z ?_ (IsS80.ge HI103.1))|exact HB.1))));have n1_:=a1z.mk (hb);have n2_:=a1z.mk (hi);clear HB HI103;have HO106:=n0_;have HB:=n1_;have HI103:=n2_;clear n0_ n1_ n2_;(try clear hb);(try clear hk);(try clear hi);(try clear ho0)))
 go_ret
 exact ⟨_,by first|rfl|(simp [b5z,b4z] <;> rfl)|(simp [*,b5z,b4z] <;> rfl),by (with_reducible repeat (first|apply Kd.R_alloc|apply Kd.b6z|apply Kd.b9z));exact HO106.1,by repeat (first|(with_reducible first|exact HB.1|apply a3z|apply a0z|apply a2z|refine a5z ?_ (IsS80.ge HI103.1))|exact HB.1)⟩
def spec_RulesPut.f (k : Nat) (l0 : List (S39)) : Option (ByteArray):=(spec_RulesOk.f k l0).bind fun t101 => (if t101 = true then ((spec_l4Put.f k l0).bind fun t102 => (some t102)) else (some (⟨#[]⟩ : ByteArray)))
set_option maxHeartbeats 8000000 in
set_option maxRecDepth 100000 in
theorem spec_RulesPut.calls (k : Nat) (A0 : Option Addr) (c0 : Nat) (l0 : List (S39)) (r : ByteArray) (w : World) (hr0 : Kd.C k39 w A0 l0.length l0) (hc0 : l0.length ≤ c0) (h : spec_RulesPut.f k l0 = some r) :
  Calls Tryz.prog 12 #[.slice A0 l0.length c0] w fun e w' => e = .returned (.string r) ∧ Below w.heap.size w w':=by
 have HR0:=a1z.mk hr0
 have HC0:=a1z.mk hc0
 clear hr0 hc0
 have HB:=a1z.mk (Below.refl w.heap.size w)
 have H : ((spec_RulesOk.f k l0).bind fun t101 => (if t101 = true then ((spec_l4Put.f k l0).bind fun t102 => (some t102)) else (some (⟨#[]⟩ : ByteArray)))) = some r:=h
 clear h
 replace H:=Option.bind_eq_some_iff.mp H
 obtain ⟨t101,A20,H⟩:=H
 replace H : (if t101 = true then ((spec_l4Put.f k l0).bind fun t102 => (some t102)) else (some (⟨#[]⟩ : ByteArray))) = some r:=H
 have A2:=a1z.mk A20
 clear A20
 by_cases c3 : t101 = true
 ·subst c3
  have H1 : ((spec_l4Put.f k l0).bind fun t102 => (some t102)) = some r:=by rw [if_pos rfl] at H;exact H
  clear H
  have H:=H1
  clear H1
  replace H:=Option.bind_eq_some_iff.mp H
  obtain ⟨t102,A40,H⟩:=H
  replace H : (some t102) = some r:=H
  have A4:=a1z.mk A40
  clear A40
  obtain rfl:=Option.some.inj H
  go_enter Tryz.func12,Tryz.ntmps12
  go_wp2_with (first|((with_reducible refine b2z (f:=13) rfl ?_);refine c1z (some 4) rfl rfl Tryz.func13 (by kernel_rfl) rfl #[.slice A0 l0.length c0] rfl (by (try simp only [mA_,mC_,mN_]);first|done|rfl|(simp only [lD_,lT_];rfl)) ?_;(with_reducible refine (spec_RulesOk.calls k _ _ l0 true _ ?side1 ?side2 A2.1).mono ?_);(case side1 => repeat (first|exact HR0.1|(with_reducible refine Kd.C_alloc ?_ _)|(with_reducible refine Kd.C_drewN ?_ _)|(with_reducible refine Kd.e5z ?_)));(case side2 => exact HC0.1);rintro e w5 ⟨rfl,hb⟩;refine ⟨_,rfl,?_⟩;have n0_:=a1z.mk (b1z (by repeat (first|(with_reducible first|exact HB.1|apply a3z|apply a0z|apply a2z)|exact HB.1)) hb);clear HB;have HB:=n0_;clear n0_;(try clear hb))|((with_reducible refine b2z (f:=18) rfl ?_);refine c1z (some 7) rfl rfl Tryz.func18 (by kernel_rfl) rfl #[.slice A0 l0.length c0] rfl (by (try simp only [mA_,mC_,mN_]);first|done|rfl|(simp only [lD_,lT_];rfl)) ?_;(with_reducible refine (spec_l4Put.calls k _ _ l0 t102 _ ?side1 ?side2 A4.1).mono ?_);(case side1 => repeat (first|exact (Kd.C_below HR0.1 HB.1)|(with_reducible refine Kd.C_alloc ?_ _)|(with_reducible refine Kd.C_drewN ?_ _)|(with_reducible refine Kd.e5z ?_)));(case side2 => exact HC0.1);rintro e w6 ⟨rfl,hb⟩;refine ⟨_,rfl,?_⟩;have n0_:=a1z.mk (b1z (by repeat (first|(with_reducible first|exact HB.1|apply a3z|apply a0z|apply a2z)|exact HB.1)) hb);clear HB;have HB:=n0_;clear n0_;(try clear hb)))
  go_ret
  exact ⟨by first|rfl|(simp [b5z,b4z] <;> rfl)|(simp [*,b5z,b4z] <;> rfl),by repeat (first|(with_reducible first|exact HB.1|apply a3z|apply a0z|apply a2z)|exact HB.1)⟩
 ·replace c3:=Bool.eq_false_iff.mpr c3
  subst c3
  have H1 : (some (⟨#[]⟩ : ByteArray)) = some r:=by rw [if_neg (show ¬ (false = true) by decide)] at H;exact H
  clear H
  have H:=H1
  clear H1
  obtain rfl:=Option.some.inj H
  go_enter Tryz.func12,Tryz.ntmps12
  go_wp2_with (first|((with_reducible refine b2z (f:=13) rfl ?_);refine c1z (some 4) rfl rfl Tryz.func13 (by kernel_rfl) rfl #[.slice A0 l0.length c0] rfl (by (try simp only [mA_,mC_,mN_]);first|done|rfl|(simp only [lD_,lT_];rfl)) ?_;(with_reducible refine (spec_RulesOk.calls k _ _ l0 false _ ?side1 ?side2 A2.1).mono ?_);(case side1 => repeat (first|exact HR0.1|(with_reducible refine Kd.C_alloc ?_ _)|(with_reducible refine Kd.C_drewN ?_ _)|(with_reducible refine Kd.e5z ?_)));(case side2 => exact HC0.1);rintro e w7 ⟨rfl,hb⟩;refine ⟨_,rfl,?_⟩;have n0_:=a1z.mk (b1z (by repeat (first|(with_reducible first|exact HB.1|apply a3z|apply a0z|apply a2z)|exact HB.1)) hb);clear HB;have HB:=n0_;clear n0_;(try clear hb)))
  go_ret
  exact ⟨by first|rfl|(simp [b5z,b4z] <;> rfl)|(simp [*,b5z,b4z] <;> rfl),by repeat (first|(with_reducible first|exact HB.1|apply a3z|apply a0z|apply a2z)|exact HB.1)⟩
theorem eqA37 (d : Nat) (w : World) (x0 y0 : Int) (x1 y1 : Int) :
  (Op.equalIn (d + 2) 37 (.agg #[.int .i64 x0,.int .i64 x1]) (.agg #[.int .i64 y0,.int .i64 y1])).run Tryz.prog w = .ok (x0 == y0 && (x1 == y1)) w:=by
 refine eqA_of Tryz.underlying37 (by kernel_rfl) ?_
 refine eqf_cons (by rfl) (by go_simp;rfl) (by go_simp;rfl) (by go_simp) ?_
 exact eqf_last (by rfl) (by go_simp;rfl) (by go_simp;rfl) (by go_simp)
theorem eqA39 (d : Nat) (w : World) (x0 y0 : Int) (x1 y1 : Int) (x2 y2 : Int) (x3 y3 : Int) (x4 y4 : Int) (x5 y5 : Int) (x6 y6 : Int) (x7 y7 : Int) :
  (Op.equalIn (d + 3) 39 (.agg #[.int .i64 x0,.int .i64 x1,.int .i64 x2,.int .i64 x3,.int .i64 x4,.int .i64 x5,.int .i64 x6,.int .i64 x7]) (.agg #[.int .i64 y0,.int .i64 y1,.int .i64 y2,.int .i64 y3,.int .i64 y4,.int .i64 y5,.int .i64 y6,.int .i64 y7])).run Tryz.prog w = .ok (x0 == y0 && (x1 == y1 && ((x2 == y2 && (x3 == y3)) && ((x4 == y4 && (x5 == y5)) && (x6 == y6 && (x7 == y7)))))) w:=by
 refine eqA_of Tryz.underlying39 (by kernel_rfl) ?_
 refine eqf_cons (by rfl) (by go_simp;rfl) (by go_simp;rfl) (by go_simp) ?_
 refine eqf_cons (by rfl) (by go_simp;rfl) (by go_simp;rfl) (by go_simp) ?_
 refine eqf_cons (by rfl) (by go_simp) (by go_simp) (eqA37 (d + 0) w _ _ _ _) ?_
 refine eqf_cons (by rfl) (by go_simp) (by go_simp) (eqA37 (d + 0) w _ _ _ _) ?_
 refine eqf_cons (by rfl) (by go_simp;rfl) (by go_simp;rfl) (by go_simp) ?_
 exact eqf_last (by rfl) (by go_simp;rfl) (by go_simp;rfl) (by go_simp)
end Go.Proofs.YtgbdnbbfgcogjaaGreatDoor.Q

namespace Go.Proofs.YtgbdnbbfgcogjaaGreatDoor.Q
open Go.RowKit Go.Proofs.YtgbdnbbfgcogjaaGreatDoorW.PrintWords Go.Proofs.YtgbdnbbfgcogjaaGreatDoorW.PrintLast Go.Proofs.YtgbdnbbfgcogjaaGreatDoorW.PrintMore
attribute [local go_sem] d7z d5z d9z d8z c8z c7z d6z d4z
set_option linter.unusedVariables false
set_option linter.unusedSimpArgs false
attribute [local go_sem high] eqA39
def laws_ovRules.l0 : Nat → List (S39) → List (S39) → Int → Option (Bool)
 | 0,_,_,_ => none
 | k + 1,x0,x1,x5 => if x5 < (x0.length : Int) then (if 0 ≤ x5 then (if x5 < (x1.length : Int) then (if (!(((a6z x0 x5).f0) == ((a6z x1 x5).f0)) || (!(((a6z x0 x5).f1) == ((a6z x1 x5).f1)) || ((!(((a6z x0 x5).f2.f0) == ((a6z x1 x5).f2.f0)) || (!(((a6z x0 x5).f2.f1) == ((a6z x1 x5).f2.f1)))) || ((!(((a6z x0 x5).f3.f0) == ((a6z x1 x5).f3.f0)) || (!(((a6z x0 x5).f3.f1) == ((a6z x1 x5).f3.f1)))) || (!(((a6z x0 x5).f4) == ((a6z x1 x5).f4)) || (!(((a6z x0 x5).f5) == ((a6z x1 x5).f5)))))))) = true then (some false) else (laws_ovRules.l0 k x0 x1 (wrap64 (x5 + 1)))) else (none)) else (none)) else (some true)
def laws_ovRules.f (k : Nat) (l0 : List (S39)) (l1 : List (S39)) : Option (Bool):=if (l0.length : Int) = (l1.length : Int) then (laws_ovRules.l0 k l0 l1 0) else (some false)
set_option maxHeartbeats 8000000 in
set_option maxRecDepth 100000 in
theorem laws_ovRules.calls (k : Nat) (A0 : Option Addr) (c0 : Nat) (l0 : List (S39)) (A1 : Option Addr) (c1 : Nat) (l1 : List (S39)) (r : Bool) (w : World) (hr0 : Kd.C k39 w A0 l0.length l0) (hc0 : l0.length ≤ c0) (hr1 : Kd.C k39 w A1 l1.length l1) (hc1 : l1.length ≤ c1) (h : laws_ovRules.f k l0 l1 = some r) :
  Calls Tryz.prog 14 #[.slice A0 l0.length c0,.slice A1 l1.length c1] w fun e w' => e = .returned (.bool r) ∧ Drawn0 w w':=by
 have hu39:=Tryz.underlying39
 have HR0:=a1z.mk hr0
 have HC0:=a1z.mk hc0
 clear hr0 hc0
 have HR1:=a1z.mk hr1
 have HC1:=a1z.mk hc1
 clear hr1 hc1
 have H : (if (l0.length : Int) = (l1.length : Int) then (laws_ovRules.l0 k l0 l1 0) else (some false)) = some r:=h
 clear h
 by_cases c3 : (l0.length : Int) = (l1.length : Int)
 ·rw [if_pos c3] at H
  have c3b0 : ((l0.length : Int) == (l1.length : Int)) = true:=beq_iff_eq.mpr c3
  have c3b1 : ((l0.length : Int) != (l1.length : Int)) = false:=bne_eq_false_iff_eq.mpr c3
  have c3b2 : (l0.length == l1.length) = true:=by first|simpa using c3|(simp at c3 ⊢;omega)
  clear c3
  have H':=a1z.mk H
  clear H
  go_enter Tryz.func14,Tryz.ntmps14
  go_wp2
  repeat (go_quiet (fail);try go_wp2)
  go_loopg [5] k (fun kq v5 w' => ∃ (x5_1 : Int),v5 = .int .i64 x5_1 ∧ a1z (laws_ovRules.l0 kq l0 l1 x5_1 = some r) ∧ a1z (kq ≤ k) ∧ Drawn0 w w')
  case atStart => exact ⟨(0),(by first|rfl|(simp;done)|(simp [*];done)),H',⟨Nat.le_refl _⟩,by repeat (first|exact Drawn0.refl _|apply Drawn0.step)⟩
  case round =>
   clear H'
   try clear c1
   try clear p2
   try clear c3
   try clear c3b0
   try clear c3b1
   try clear c3b2
   obtain ⟨x5_1,rfl,HA,HK1,⟨m1,rfl⟩⟩:=hrel
   cases gk with
   | zero => exact absurd HA.1 (by simp [laws_ovRules.l0])
   | succ k1 =>
    have H:=HA.1
    clear HA
    simp only [laws_ovRules.l0] at H
    by_cases c4 : x5_1 < (l0.length : Int)
    ·rw [if_pos c4] at H
     have c4b0 : decide (x5_1 < (l0.length : Int)) = true:=decide_eq_true c4
     clear c4
     by_cases c5 : 0 ≤ x5_1
     ·rw [if_pos c5] at H
      have c5b0 : decide (0 ≤ x5_1) = true:=decide_eq_true c5
      clear c5
      by_cases c6 : x5_1 < (l1.length : Int)
      ·rw [if_pos c6] at H
       have c6b0 : decide (x5_1 < (l1.length : Int)) = true:=decide_eq_true c6
       clear c6
       by_cases c7 : (!(((a6z l0 x5_1).f0) == ((a6z l1 x5_1).f0)) || (!(((a6z l0 x5_1).f1) == ((a6z l1 x5_1).f1)) || ((!(((a6z l0 x5_1).f2.f0) == ((a6z l1 x5_1).f2.f0)) || (!(((a6z l0 x5_1).f2.f1) == ((a6z l1 x5_1).f2.f1)))) || ((!(((a6z l0 x5_1).f3.f0) == ((a6z l1 x5_1).f3.f0)) || (!(((a6z l0 x5_1).f3.f1) == ((a6z l1 x5_1).f3.f1)))) || (!(((a6z l0 x5_1).f4) == ((a6z l1 x5_1).f4)) || (!(((a6z l0 x5_1).f5) == ((a6z l1 x5_1).f5)))))))) = true
       ·rw [if_pos c7] at H
        have c7b0 : (!(((a6z l0 x5_1).f0) == ((a6z l1 x5_1).f0)) || (!(((a6z l0 x5_1).f1) == ((a6z l1 x5_1).f1)) || ((!(((a6z l0 x5_1).f2.f0) == ((a6z l1 x5_1).f2.f0)) || (!(((a6z l0 x5_1).f2.f1) == ((a6z l1 x5_1).f2.f1)))) || ((!(((a6z l0 x5_1).f3.f0) == ((a6z l1 x5_1).f3.f0)) || (!(((a6z l0 x5_1).f3.f1) == ((a6z l1 x5_1).f3.f1)))) || (!(((a6z l0 x5_1).f4) == ((a6z l1 x5_1).f4)) || (!(((a6z l0 x5_1).f5) == ((a6z l1 x5_1).f5)))))))) = true:=c7
        clear c7
        obtain rfl:=Option.some.inj H
        have p101 : 0 ≤ (x5_1 : Int):=of_decide_eq_true (by first|(with_reducible assumption)|assumption)
        have q101 : x5_1 < (l0.length : Int):=of_decide_eq_true (by first|(with_reducible assumption)|assumption)
        obtain ⟨ad101,e101,hx101_0,hx101_1,hx101_2,hx101_3,hx101_4,hx101_5,hx101_6,hx101_7⟩:=at_T39 HR0.1 x5_1 p101 q101
        cases e101
        replace p101:=eq_true p101
        replace q101:=eq_true q101
        have p102 : 0 ≤ (x5_1 : Int):=of_decide_eq_true (by first|(with_reducible assumption)|assumption)
        have q102 : x5_1 < (l1.length : Int):=of_decide_eq_true (by first|(with_reducible assumption)|assumption)
        obtain ⟨ad102,e102,hx102_0,hx102_1,hx102_2,hx102_3,hx102_4,hx102_5,hx102_6,hx102_7⟩:=at_T39 HR1.1 x5_1 p102 q102
        cases e102
        replace p102:=eq_true p102
        replace q102:=eq_true q102
        go_wp2
        repeat (go_quiet (fail);try go_wp2)
        go_ret
        exact ⟨by first|rfl|(simp;done)|(simp [*];done),by repeat (first|exact Drawn0.refl _|apply Drawn0.step)⟩
       ·rw [if_neg c7] at H
        have c7b0 : (!(((a6z l0 x5_1).f0) == ((a6z l1 x5_1).f0)) || (!(((a6z l0 x5_1).f1) == ((a6z l1 x5_1).f1)) || ((!(((a6z l0 x5_1).f2.f0) == ((a6z l1 x5_1).f2.f0)) || (!(((a6z l0 x5_1).f2.f1) == ((a6z l1 x5_1).f2.f1)))) || ((!(((a6z l0 x5_1).f3.f0) == ((a6z l1 x5_1).f3.f0)) || (!(((a6z l0 x5_1).f3.f1) == ((a6z l1 x5_1).f3.f1)))) || (!(((a6z l0 x5_1).f4) == ((a6z l1 x5_1).f4)) || (!(((a6z l0 x5_1).f5) == ((a6z l1 x5_1).f5)))))))) = false:=by simpa using c7
        clear c7
        have H':=a1z.mk H
        clear H
        have p101 : 0 ≤ (x5_1 : Int):=of_decide_eq_true (by first|(with_reducible assumption)|assumption)
        have q101 : x5_1 < (l0.length : Int):=of_decide_eq_true (by first|(with_reducible assumption)|assumption)
        obtain ⟨ad101,e101,hx101_0,hx101_1,hx101_2,hx101_3,hx101_4,hx101_5,hx101_6,hx101_7⟩:=at_T39 HR0.1 x5_1 p101 q101
        cases e101
        replace p101:=eq_true p101
        replace q101:=eq_true q101
        have p102 : 0 ≤ (x5_1 : Int):=of_decide_eq_true (by first|(with_reducible assumption)|assumption)
        have q102 : x5_1 < (l1.length : Int):=of_decide_eq_true (by first|(with_reducible assumption)|assumption)
        obtain ⟨ad102,e102,hx102_0,hx102_1,hx102_2,hx102_3,hx102_4,hx102_5,hx102_6,hx102_7⟩:=at_T39 HR1.1 x5_1 p102 q102
        cases e102
        replace p102:=eq_true p102
        replace q102:=eq_true q102
        go_wp2
        repeat (go_quiet (fail);try go_wp2)
        go_roundg k1
        case measure => have:=HK1.1;omega
        case rel => exact ⟨(wrap64 (x5_1 + 1)),(by first|rfl|(simp;done)|(simp [*];done)),H',⟨by have:=HK1.1;omega⟩,by repeat (first|exact Drawn0.refl _|apply Drawn0.step)⟩
      ·rw [if_neg c6] at H
       exact absurd H (by simp)
     ·rw [if_neg c5] at H
      exact absurd H (by simp)
    ·rw [if_neg c4] at H
     have c4b0 : decide (x5_1 < (l0.length : Int)) = false:=decide_eq_false c4
     clear c4
     obtain rfl:=Option.some.inj H
     go_wp2
     repeat (go_quiet (fail);try go_wp2)
     go_ret
     exact ⟨by first|rfl|(simp;done)|(simp [*];done),by repeat (first|exact Drawn0.refl _|apply Drawn0.step)⟩
 ·rw [if_neg c3] at H
  have c3b0 : ((l0.length : Int) == (l1.length : Int)) = false:=beq_eq_false_iff_ne.mpr c3
  have c3b1 : ((l0.length : Int) != (l1.length : Int)) = true:=bne_iff_ne.mpr c3
  have c3b2 : (l0.length == l1.length) = false:=by first|simpa using c3|(simp at c3 ⊢;omega)
  obtain rfl:=Option.some.inj H
  go_enter Tryz.func14,Tryz.ntmps14
  go_wp2
  repeat (go_quiet (fail);try go_wp2)
  go_ret
  exact ⟨by first|rfl|(simp;done)|(simp [*];done),by repeat (first|exact Drawn0.refl _|apply Drawn0.step)⟩
end Go.Proofs.YtgbdnbbfgcogjaaGreatDoor.Q

namespace Go.Proofs.YtgbdnbbfgcogjaaGreatDoor.Q
open Go.RowKit Go.Proofs.YtgbdnbbfgcogjaaGreatDoorW.PrintWords Go.Proofs.YtgbdnbbfgcogjaaGreatDoorW.PrintLast Go.Proofs.YtgbdnbbfgcogjaaGreatDoorW.PrintMore
attribute [local go_sem] d7z d5z d9z d8z c8z c7z d6z d4z
set_option linter.unusedVariables false
set_option linter.unusedSimpArgs false
def spec_l1Rd_of.f (k : Nat) (s0_0 : List Int) (s0_1 : Int) (l1 : List ByteArray) : Option (ByteArray × Int):=(spec_l1Rd_pick.f k s0_0 s0_1 (l1.length : Int)).bind fun bt101 => (if 0 ≤ bt101.1 then (if bt101.1 < (l1.length : Int) then (some (rdOf ByteArray.empty l1 bt101.1,bt101.2)) else (none)) else (none))
set_option maxHeartbeats 8000000 in
set_option maxRecDepth 100000 in
theorem spec_l1Rd_of.calls (k : Nat) (g : Nat) (s0_0 : List Int) (s0_1 : Int) (A1 : Option Addr) (c1 : Nat) (l1 : List ByteArray) (r1 : ByteArray) (r2 : Int) (w0 w : World) (hI : IsS80 w0 w g s0_0 s0_1) (hB : Below w0.heap.size w0 w) (hr1 : Kd.C Kd.string w A1 l1.length l1) (hc1 : l1.length ≤ c1) (hf1 : ∀ ad,A1 = some ad → 0 < l1.length → ad.block ≠ g) (h : spec_l1Rd_of.f k s0_0 s0_1 l1 = some (r1,r2)) :
  Calls Tryz.prog 64 #[.pointer (some ⟨g,0,none⟩),.slice A1 l1.length c1] w fun e w' => e = .returned (.string r1) ∧ IsS80 w0 w' g s0_0 r2 ∧ Below w0.heap.size w0 w' ∧ a7z w w' g none:=by
 have HR1:=a1z.mk hr1
 have HC1:=a1z.mk hc1
 clear hr1 hc1
 have HI0:=a1z.mk hI
 have HK:=a1z.mk (a7z.refl w g none)
 have HL:=a1z.mk hB.size
 clear hI
 have HW0:=a1z.mk hB.size
 have HB:=a1z.mk hB
 clear hB
 have H : ((spec_l1Rd_pick.f k s0_0 s0_1 (l1.length : Int)).bind fun bt101 => (if 0 ≤ bt101.1 then (if bt101.1 < (l1.length : Int) then (some (rdOf ByteArray.empty l1 bt101.1,bt101.2)) else (none)) else (none))) = some (r1,r2):=h
 clear h
 replace H:=Option.bind_eq_some_iff.mp H
 obtain ⟨⟨t101,t102⟩,A30,H⟩:=H
 replace H : (if 0 ≤ t101 then (if t101 < (l1.length : Int) then (some (rdOf ByteArray.empty l1 t101,t102)) else (none)) else (none)) = some (r1,r2):=H
 have A3:=a1z.mk A30
 clear A30
 by_cases c4 : 0 ≤ t101
 ·rw [if_pos c4] at H
  have c4b0 : decide (0 ≤ t101) = true:=decide_eq_true c4
  clear c4
  by_cases c5 : t101 < (l1.length : Int)
  ·rw [if_pos c5] at H
   have c5b0 : decide (t101 < (l1.length : Int)) = true:=decide_eq_true c5
   clear c5
   simp only [Option.some.injEq,Prod.mk.injEq] at H
   obtain ⟨rfl,rfl⟩:=H
   go_enter Tryz.func64,Tryz.ntmps64
   go_wp2_with (first|((with_reducible refine b2z (f:=50) rfl ?_);refine c1z (some 9) rfl rfl Tryz.func50 (by kernel_rfl) rfl #[.pointer (some ⟨g,0,none⟩),.int .i64 (l1.length : Int)] rfl (by (try simp only [mA_,mC_,mN_]);first|done|rfl|(simp only [lD_,lT_];rfl)) ?_;(with_reducible refine (spec_l1Rd_pick.calls k g s0_0 s0_1 (l1.length : Int) t101 t102 w0 _ ?side1 ?side2 A3.1).mono ?_);(case side1 => repeat (first|(with_reducible first|exact HI0.1|apply IsS80.alloc|apply IsS80.drewN|apply IsS80.drew|apply IsS80.set_1)|exact HI0.1));(case side2 => repeat (first|(with_reducible first|exact HB.1|apply a3z|apply a0z|apply a2z|refine a5z ?_ (IsS80.ge HI0.1))|exact HB.1));rintro e w6 ⟨rfl,hi,hb,hk⟩;refine ⟨_,rfl,?_⟩;have n0_:=a1z.mk (a7z.trans (by repeat (first|(with_reducible first|exact HK.1|apply a7z.set_|apply b0z|apply b3z|apply keep_alloc)|exact HK.1)) hk (.inl rfl));have n1_:=a1z.mk (hb);have n2_:=a1z.mk (hi);clear HK HB HI0;have HK:=n0_;have HB:=n1_;have HI0:=n2_;clear n0_ n1_ n2_;(try clear hb);(try clear hk);(try clear hi);have p103 : 0 ≤ (t101 : Int):=of_decide_eq_true (by first|(with_reducible assumption)|assumption);have q103 : t101 < (l1.length : Int):=of_decide_eq_true (by first|(with_reducible assumption)|assumption);obtain ⟨ad103,e103,hx103_0⟩:=Kd.e7z HR1.1 t101 p103 q103;cases e103;replace hx103_0:=keep_cell HK.1 hx103_0 (by first|(rw [c6z];exact hf1 _ rfl (by omega))|exact hf1 _ rfl (by omega)|exact hf1 ad103 rfl (by omega));replace p103:=eq_true p103;replace q103:=eq_true q103))
   go_ret
   exact ⟨by first|rfl|(simp [b5z,b4z] <;> rfl)|(simp [*,b5z,b4z] <;> rfl),by repeat (first|(with_reducible first|exact HI0.1|apply IsS80.alloc|apply IsS80.drewN|apply IsS80.drew|apply IsS80.set_1)|exact HI0.1),by repeat (first|(with_reducible first|exact HB.1|apply a3z|apply a0z|apply a2z|refine a5z ?_ (IsS80.ge HI0.1))|exact HB.1),by repeat (first|(with_reducible first|exact HK.1|apply a7z.set_|apply b0z|apply b3z|apply keep_alloc)|exact HK.1)⟩
  ·rw [if_neg c5] at H
   exact absurd H (by simp)
 ·rw [if_neg c4] at H
  exact absurd H (by simp)
def spec_l12Cut.f (k : Nat) (s0_0 : List Int) (s0_1 : Int) (a1 : ByteArray) : Option (ByteArray × Int):=(spec_l1Rd_pick.f k s0_0 s0_1 (wrap64 ((a1.size : Int) + 1))).bind fun bt101 => ((spec_l1Rd_pick.f k s0_0 bt101.2 5).bind fun bt103 => (if bt103.1 = 0 then (if 0 ≤ bt101.1 then (if bt101.1 ≤ (a1.size : Int) then ((spec_l1Rd_of.f k s0_0 bt103.2 (([(⟨#[48]⟩ : ByteArray),(⟨#[46]⟩ : ByteArray),(⟨#[47]⟩ : ByteArray),(⟨#[32]⟩ : ByteArray),(⟨#[49]⟩ : ByteArray),(⟨#[50,53,54]⟩ : ByteArray),(⟨#[10]⟩ : ByteArray),(⟨#[45]⟩ : ByteArray),(⟨#[120]⟩ : ByteArray)] : List ByteArray))).bind fun bt108 => (if (a1.extract 0 (bt101.1 : Int).toNat).size + bt108.1.size ≤ 9223372036854775807 then (if ((a1.extract 0 (bt101.1 : Int).toNat) ++ bt108.1).size + (a1.extract (bt101.1 : Int).toNat a1.size).size ≤ 9223372036854775807 then (some (((a1.extract 0 (bt101.1 : Int).toNat) ++ bt108.1) ++ (a1.extract (bt101.1 : Int).toNat a1.size),bt108.2)) else (none)) else (none))) else (none)) else (none)) else (if bt103.1 = 1 then (if 0 ≤ bt101.1 then (if bt101.1 ≤ (a1.size : Int) then (some (a1.extract 0 (bt101.1 : Int).toNat,bt103.2)) else (none)) else (none)) else (some (a1,bt103.2)))))
def spec_l12Cut.T4 : Bool × List (List Nat × List Nat):=(true,[([],[]),([],[]),([0,1],[0,1]),([],[]),([],[]),([3,4],[3,4]),([2,5],[2,5]),([],[]),([],[]),([7,8],[7,8]),([6,9],[6,9]),([10,5,0,1,2,3,4,5,6,7,8,9,10],[10])])
def spec_l12Cut.B4 : List Nat:=[0,0,3,0,0,24,63,0,0,384,1023,2047]
theorem spec_l12Cut.tab4 : rtab .any (opsOf Tryz.f34 4) = spec_l12Cut.T4:=by kernel_rfl
theorem spec_l12Cut.bits4 : waitsOk spec_l12Cut.T4.2 spec_l12Cut.B4 = true:=by kernel_rfl
set_option maxHeartbeats 8000000 in
set_option maxRecDepth 100000 in
theorem spec_l12Cut.calls (k : Nat) (g : Nat) (s0_0 : List Int) (s0_1 : Int) (a1 : ByteArray) (r1 : ByteArray) (r2 : Int) (w0 w : World) (hI : IsS80 w0 w g s0_0 s0_1) (hB : Below w0.heap.size w0 w) (h : spec_l12Cut.f k s0_0 s0_1 a1 = some (r1,r2)) :
  Calls Tryz.prog 34 #[.pointer (some ⟨g,0,none⟩),.string a1] w fun e w' => e = .returned (.string r1) ∧ IsS80 w0 w' g s0_0 r2 ∧ Below w0.heap.size w0 w' ∧ a7z w w' g none:=by
 have HI0:=a1z.mk hI
 have HK:=a1z.mk (a7z.refl w g none)
 have HL:=a1z.mk hB.size
 clear hI
 have HW0:=a1z.mk hB.size
 have HB:=a1z.mk hB
 clear hB
 have H : ((spec_l1Rd_pick.f k s0_0 s0_1 (wrap64 ((a1.size : Int) + 1))).bind fun bt101 => ((spec_l1Rd_pick.f k s0_0 bt101.2 5).bind fun bt103 => (if bt103.1 = 0 then (if 0 ≤ bt101.1 then (if bt101.1 ≤ (a1.size : Int) then ((spec_l1Rd_of.f k s0_0 bt103.2 (([(⟨#[48]⟩ : ByteArray),(⟨#[46]⟩ : ByteArray),(⟨#[47]⟩ : ByteArray),(⟨#[32]⟩ : ByteArray),(⟨#[49]⟩ : ByteArray),(⟨#[50,53,54]⟩ : ByteArray),(⟨#[10]⟩ : ByteArray),(⟨#[45]⟩ : ByteArray),(⟨#[120]⟩ : ByteArray)] : List ByteArray))).bind fun bt108 => (if (a1.extract 0 (bt101.1 : Int).toNat).size + bt108.1.size ≤ 9223372036854775807 then (if ((a1.extract 0 (bt101.1 : Int).toNat) ++ bt108.1).size + (a1.extract (bt101.1 : Int).toNat a1.size).size ≤ 9223372036854775807 then (some (((a1.extract 0 (bt101.1 : Int).toNat) ++ bt108.1) ++ (a1.extract (bt101.1 : Int).toNat a1.size),bt108.2)) else (none)) else (none))) else (none)) else (none)) else (if bt103.1 = 1 then (if 0 ≤ bt101.1 then (if bt101.1 ≤ (a1.size : Int) then (some (a1.extract 0 (bt101.1 : Int).toNat,bt103.2)) else (none)) else (none)) else (some (a1,bt103.2)))))) = some (r1,r2):=h
 clear h
 replace H:=Option.bind_eq_some_iff.mp H
 obtain ⟨⟨t101,t102⟩,A30,H⟩:=H
 replace H : ((spec_l1Rd_pick.f k s0_0 t102 5).bind fun bt103 => (if bt103.1 = 0 then (if 0 ≤ t101 then (if t101 ≤ (a1.size : Int) then ((spec_l1Rd_of.f k s0_0 bt103.2 (([(⟨#[48]⟩ : ByteArray),(⟨#[46]⟩ : ByteArray),(⟨#[47]⟩ : ByteArray),(⟨#[32]⟩ : ByteArray),(⟨#[49]⟩ : ByteArray),(⟨#[50,53,54]⟩ : ByteArray),(⟨#[10]⟩ : ByteArray),(⟨#[45]⟩ : ByteArray),(⟨#[120]⟩ : ByteArray)] : List ByteArray))).bind fun bt108 => (if (a1.extract 0 (t101 : Int).toNat).size + bt108.1.size ≤ 9223372036854775807 then (if ((a1.extract 0 (t101 : Int).toNat) ++ bt108.1).size + (a1.extract (t101 : Int).toNat a1.size).size ≤ 9223372036854775807 then (some (((a1.extract 0 (t101 : Int).toNat) ++ bt108.1) ++ (a1.extract (t101 : Int).toNat a1.size),bt108.2)) else (none)) else (none))) else (none)) else (none)) else (if bt103.1 = 1 then (if 0 ≤ t101 then (if t101 ≤ (a1.size : Int) then (some (a1.extract 0 (t101 : Int).toNat,bt103.2)) else (none)) else (none)) else (some (a1,bt103.2))))) = some (r1,r2):=H
 have A3:=a1z.mk A30
 clear A30
 replace H:=Option.bind_eq_some_iff.mp H
 obtain ⟨⟨t103,t104⟩,A40,H⟩:=H
 replace H : (if t103 = 0 then (if 0 ≤ t101 then (if t101 ≤ (a1.size : Int) then ((spec_l1Rd_of.f k s0_0 t104 (([(⟨#[48]⟩ : ByteArray),(⟨#[46]⟩ : ByteArray),(⟨#[47]⟩ : ByteArray),(⟨#[32]⟩ : ByteArray),(⟨#[49]⟩ : ByteArray),(⟨#[50,53,54]⟩ : ByteArray),(⟨#[10]⟩ : ByteArray),(⟨#[45]⟩ : ByteArray),(⟨#[120]⟩ : ByteArray)] : List ByteArray))).bind fun bt108 => (if (a1.extract 0 (t101 : Int).toNat).size + bt108.1.size ≤ 9223372036854775807 then (if ((a1.extract 0 (t101 : Int).toNat) ++ bt108.1).size + (a1.extract (t101 : Int).toNat a1.size).size ≤ 9223372036854775807 then (some (((a1.extract 0 (t101 : Int).toNat) ++ bt108.1) ++ (a1.extract (t101 : Int).toNat a1.size),bt108.2)) else (none)) else (none))) else (none)) else (none)) else (if t103 = 1 then (if 0 ≤ t101 then (if t101 ≤ (a1.size : Int) then (some (a1.extract 0 (t101 : Int).toNat,t104)) else (none)) else (none)) else (some (a1,t104)))) = some (r1,r2):=H
 have A4:=a1z.mk A40
 clear A40
 by_cases c5 : t103 = 0
 ·rw [if_pos c5] at H
  have c5b0 : (t103 == 0) = true:=beq_iff_eq.mpr c5
  have c5b1 : (t103 != 0) = false:=bne_eq_false_iff_eq.mpr c5
  clear c5
  by_cases c6 : 0 ≤ t101
  ·rw [if_pos c6] at H
   have c6b0:=eq_true c6
   have c6b1 : decide (0 ≤ t101) = true:=decide_eq_true c6
   clear c6
   by_cases c7 : t101 ≤ (a1.size : Int)
   ·rw [if_pos c7] at H
    have c7b0:=eq_true c7
    have c7b1 : decide (t101 ≤ (a1.size : Int)) = true:=decide_eq_true c7
    clear c7
    obtain ⟨y105,hy105⟩ : ∃ y_ : List ByteArray,y_ = (([(⟨#[48]⟩ : ByteArray),(⟨#[46]⟩ : ByteArray),(⟨#[47]⟩ : ByteArray),(⟨#[32]⟩ : ByteArray),(⟨#[49]⟩ : ByteArray),(⟨#[50,53,54]⟩ : ByteArray),(⟨#[10]⟩ : ByteArray),(⟨#[45]⟩ : ByteArray),(⟨#[120]⟩ : ByteArray)] : List ByteArray)):=⟨_,rfl⟩
    replace H : ((spec_l1Rd_of.f k s0_0 t104 y105).bind fun bt108 => (if (a1.extract 0 (t101 : Int).toNat).size + bt108.1.size ≤ 9223372036854775807 then (if ((a1.extract 0 (t101 : Int).toNat) ++ bt108.1).size + (a1.extract (t101 : Int).toNat a1.size).size ≤ 9223372036854775807 then (some (((a1.extract 0 (t101 : Int).toNat) ++ bt108.1) ++ (a1.extract (t101 : Int).toNat a1.size),bt108.2)) else (none)) else (none))) = some (r1,r2):=by first|(rw [hy105];with_reducible exact H)|(have H2_:=(Option.bind_some _ _).symm.trans H;rw [hy105];with_reducible exact H2_)|(have H2_:=(Option.bind_some _ _).symm.trans H;with_reducible exact H2_)|with_reducible exact H|(rw [hy105];exact H)|exact H
    have Ny105:=a1z.mk hy105
    clear hy105
    replace H:=Option.bind_eq_some_iff.mp H
    obtain ⟨⟨t108,t109⟩,A80,H⟩:=H
    replace H : (if (a1.extract 0 (t101 : Int).toNat).size + t108.size ≤ 9223372036854775807 then (if ((a1.extract 0 (t101 : Int).toNat) ++ t108).size + (a1.extract (t101 : Int).toNat a1.size).size ≤ 9223372036854775807 then (some (((a1.extract 0 (t101 : Int).toNat) ++ t108) ++ (a1.extract (t101 : Int).toNat a1.size),t109)) else (none)) else (none)) = some (r1,r2):=H
    have A8:=a1z.mk A80
    clear A80
    by_cases c9 : (a1.extract 0 (t101 : Int).toNat).size + t108.size ≤ 9223372036854775807
    ·rw [if_pos c9] at H
     have c9b0:=eq_true c9
     have c9b1 : decide ((a1.extract 0 (t101 : Int).toNat).size + t108.size ≤ 9223372036854775807) = true:=decide_eq_true c9
     (try (have c9b3 : (9223372036854775807 < (a1.extract 0 (t101 : Int).toNat).size + t108.size) = False:=eq_false (Nat.not_lt.2 c9);simp only [ByteArray.size_append] at c9b3))
     (try (have c9b4 : (9223372036854775807 < (a1.extract 0 (t101 : Int).toNat).size + t108.size) = False:=by (have h_:=eq_false (Nat.not_lt.2 c9);simp only [ByteArray.size_append] at h_;exact h_)))
     try have c9b2 : (9223372036854775807 < (a1.extract 0 (t101 : Int).toNat).size + t108.size) = False:=eq_false (Nat.not_lt.2 c9)
     have c9b9 : (9223372036854775807 < (t101 : Int).toNat + t108.size) = False:=by (have e_ : (a1.extract 0 (t101 : Int).toNat).size = (t101 : Int).toNat:=(by rw [ByteArray.size_extract];have h_:=of_eq_true c7b0;omega);rw [e_] at c9;exact eq_false (by omega))
     have c10b0:=eq_true (of_decide_eq_true (by first|(with_reducible assumption)|assumption) : 0 ≤ t101)
     have c11b0:=eq_true (of_decide_eq_true (by first|(with_reducible assumption)|assumption) : t101 ≤ (a1.size : Int))
     by_cases c12 : ((a1.extract 0 (t101 : Int).toNat) ++ t108).size + (a1.extract (t101 : Int).toNat a1.size).size ≤ 9223372036854775807
     ·rw [if_pos c12] at H
      have c12b0:=eq_true c12
      have c12b1 : decide (((a1.extract 0 (t101 : Int).toNat) ++ t108).size + (a1.extract (t101 : Int).toNat a1.size).size ≤ 9223372036854775807) = true:=decide_eq_true c12
      (try (have c12b3 : (9223372036854775807 < ((a1.extract 0 (t101 : Int).toNat) ++ t108).size + (a1.extract (t101 : Int).toNat a1.size).size) = False:=eq_false (Nat.not_lt.2 c12);simp only [ByteArray.size_append] at c12b3))
      (try (have c12b4 : (9223372036854775807 < a1.extract 0 (t101 : Int).toNat.size + t108.size + (a1.extract (t101 : Int).toNat a1.size).size) = False:=by (have h_:=eq_false (Nat.not_lt.2 c12);simp only [ByteArray.size_append] at h_;exact h_)))
      try have c12b2 : (9223372036854775807 < ((a1.extract 0 (t101 : Int).toNat) ++ t108).size + (a1.extract (t101 : Int).toNat a1.size).size) = False:=eq_false (Nat.not_lt.2 c12)
      have c12b9 : (9223372036854775807 < (t101 : Int).toNat + t108.size + (a1.size - (t101 : Int).toNat)) = False:=by (have e_ : (a1.extract 0 (t101 : Int).toNat).size = (t101 : Int).toNat:=(by rw [ByteArray.size_extract];have h_:=of_eq_true c7b0;omega);rw [ByteArray.size_append,e_,ByteArray.size_extract,Nat.min_self] at c12;exact eq_false (by omega))
      simp only [Option.some.injEq,Prod.mk.injEq] at H
      obtain ⟨rfl,rfl⟩:=H
      go_enter Tryz.func34,Tryz.ntmps34
      try go_wp2_with (first|((with_reducible refine b2z (f:=50) rfl ?_);refine c1z (some 10) rfl rfl Tryz.func50 (by kernel_rfl) rfl #[.pointer (some ⟨g,0,none⟩),.int .i64 (wrap64 ((a1.size : Int) + 1))] rfl (by (try simp only [mA_,mC_,mN_]);first|done|rfl|(simp only [lD_,lT_];rfl)) ?_;(with_reducible refine (spec_l1Rd_pick.calls k g s0_0 s0_1 (wrap64 ((a1.size : Int) + 1)) t101 t102 w0 _ ?side1 ?side2 A3.1).mono ?_);(case side1 => repeat (first|(with_reducible first|exact HI0.1|apply IsS80.alloc|apply IsS80.drewN|apply IsS80.drew|apply IsS80.set_1)|exact HI0.1));(case side2 => repeat (first|(with_reducible first|exact HB.1|apply a3z|apply a0z|apply a2z|refine a5z ?_ (IsS80.ge HI0.1))|exact HB.1));rintro e w13 ⟨rfl,hi,hb,hk⟩;refine ⟨_,rfl,?_⟩;have n0_:=a1z.mk (a7z.trans (by repeat (first|(with_reducible first|exact HK.1|apply a7z.set_|apply b0z|apply b3z|apply keep_alloc)|exact HK.1)) hk (.inl rfl));have n1_:=a1z.mk (hb);have n2_:=a1z.mk (hi);clear HK HB HI0;have HK:=n0_;have HB:=n1_;have HI0:=n2_;clear n0_ n1_ n2_;(try clear hb);(try clear hk);(try clear hi))|((with_reducible refine b2z (f:=50) rfl ?_);refine c1z (some 12) rfl rfl Tryz.func50 (by kernel_rfl) rfl #[.pointer (some ⟨g,0,none⟩),.int .i64 5] rfl (by (try simp only [mA_,mC_,mN_]);first|done|rfl|(simp only [lD_,lT_];rfl)) ?_;(with_reducible refine (spec_l1Rd_pick.calls k g s0_0 t102 5 t103 t104 w0 _ ?side1 ?side2 A4.1).mono ?_);(case side1 => repeat (first|(with_reducible first|exact HI0.1|apply IsS80.alloc|apply IsS80.drewN|apply IsS80.drew|apply IsS80.set_1)|exact HI0.1));(case side2 => repeat (first|(with_reducible first|exact HB.1|apply a3z|apply a0z|apply a2z|refine a5z ?_ (IsS80.ge HI0.1))|exact HB.1));rintro e w14 ⟨rfl,hi,hb,hk⟩;refine ⟨_,rfl,?_⟩;have n0_:=a1z.mk (a7z.trans (by repeat (first|(with_reducible first|exact HK.1|apply a7z.set_|apply b0z|apply b3z|apply keep_alloc)|exact HK.1)) hk (.inl rfl));have n1_:=a1z.mk (hb);have n2_:=a1z.mk (hi);clear HK HB HI0;have HK:=n0_;have HB:=n1_;have HI0:=n2_;clear n0_ n1_ n2_;(try clear hb);(try clear hk);(try clear hi)))
      have n0_:=a1z.mk (IsS80.drew HI0.1)
      have n1_:=a1z.mk (b3z HK.1)
      have n2_:=a1z.mk (a2z HB.1)
      clear HI0 HK HB
      have HI0:=n0_
      have HK:=n1_
      have HB:=n2_
      clear n0_ n1_ n2_
      refine h6z (n:=12) (S:=fun w' => True) (ds:=[]) #[false,false,false,false,false,false,false,false,false,false,false,false] (by kernel_rfl) rfl rfl trivial (fun hHeld => ?_);refine g0z spec_l12Cut.tab4 spec_l12Cut.bits4 (fun HT_ HW_ => ?_)
      generalize w14.drew = w15 at HI0 HK HB hHeld ⊢
      refine pure_ (i:=0) (N:=some 15) (v:=?_) (a':=?_) #[true,false,false,false,false,false,false,false,false,false,false,false] rfl rfl (d1z HT_.1 (by kernel_rfl)) (fun _ _ _ h => h) (Or.inl ⟨by rfl,?_⟩) ?_ ?_
      rotate_left
      ·intro w'
       go_simp
       with_reducible rfl
      rotate_left
      ·simp only [Act.put,sA_,sZ_,sS_,i64_w,i32_w]
       rfl
      refine pure_ (i:=1) (N:=some 16) (v:=?_) (a':=?_) #[true,true,false,false,false,false,false,false,false,false,false,false] rfl rfl (d1z HT_.1 (by kernel_rfl)) (fun _ _ _ h => h) (Or.inl ⟨by rfl,?_⟩) ?_ ?_
      rotate_left
      ·intro w'
       go_simp
       with_reducible rfl
      rotate_left
      ·simp only [Act.put,sA_,sZ_,sS_,i64_w,i32_w]
       rfl
      refine pure_ (i:=2) (N:=some 17) (v:=?_) (a':=?_) #[true,true,true,false,false,false,false,false,false,false,false,false] rfl rfl (d1z HT_.1 (by kernel_rfl)) (fun _ _ _ h => h) (Or.inl ⟨by rfl,?_⟩) ?_ ?_
      rotate_left
      ·intro w'
       go_simp
       with_reducible rfl
      rotate_left
      ·simp only [Act.put,sA_,sZ_,sS_,i64_w,i32_w]
       rfl
      refine pure_ (i:=3) (N:=some 18) (v:=?_) (a':=?_) #[true,true,true,true,false,false,false,false,false,false,false,false] rfl rfl (d1z HT_.1 (by kernel_rfl)) (fun _ _ _ h => h) (Or.inl ⟨by rfl,?_⟩) ?_ ?_
      rotate_left
      ·intro w'
       go_simp
       with_reducible rfl
      rotate_left
      ·simp only [Act.put,sA_,sZ_,sS_,i64_w,i32_w]
       rfl
      refine pure_ (i:=7) (N:=some 22) (v:=?_) (a':=?_) #[true,true,true,true,false,false,false,true,false,false,false,false] rfl rfl (d1z HT_.1 (by kernel_rfl)) (fun _ _ _ h => h) (Or.inl ⟨by rfl,?_⟩) ?_ ?_
      rotate_left
      ·intro w'
       go_simp
       with_reducible rfl
      rotate_left
      ·simp only [Act.put,sA_,sZ_,sS_,i64_w,i32_w]
       rfl
      refine pure_ (i:=8) (N:=some 23) (v:=?_) (a':=?_) #[true,true,true,true,false,false,false,true,true,false,false,false] rfl rfl (d1z HT_.1 (by kernel_rfl)) (fun _ _ _ h => h) (Or.inl ⟨by rfl,?_⟩) ?_ ?_
      rotate_left
      ·intro w'
       go_simp
       with_reducible rfl
      rotate_left
      ·simp only [Act.put,sA_,sZ_,sS_,i64_w,i32_w]
       rfl
      refine pure_ (i:=9) (N:=some 24) (v:=?_) (a':=?_) #[true,true,true,true,false,false,false,true,true,true,false,false] rfl rfl (d1z HT_.1 (by kernel_rfl)) (fun _ _ _ h => h) (Or.inl ⟨by rfl,?_⟩) ?_ ?_
      rotate_left
      ·intro w'
       go_simp
       with_reducible rfl
      rotate_left
      ·simp only [Act.put,sA_,sZ_,sS_,i64_w,i32_w]
       rfl
      refine one_ (i:=4) (N:=some 19) #[true,true,true,true,true,false,false,true,true,true,false,false] rfl rfl (e8z HT_.1 (by kernel_rfl)) (by decide) (fun K hK => ?_)
      refine Kd.R_lit_step Kd.string _ 9 ?hg (N:=19) ?hd (xs:=([(⟨#[48]⟩ : ByteArray),(⟨#[46]⟩ : ByteArray),(⟨#[47]⟩ : ByteArray),(⟨#[32]⟩ : ByteArray),(⟨#[49]⟩ : ByteArray),(⟨#[50,53,54]⟩ : ByteArray),(⟨#[10]⟩ : ByteArray),(⟨#[45]⟩ : ByteArray),(⟨#[120]⟩ : ByteArray)] : List ByteArray)) (inner:=[.string (⟨#[48]⟩ : ByteArray),.string (⟨#[46]⟩ : ByteArray),.string (⟨#[47]⟩ : ByteArray),.string (⟨#[32]⟩ : ByteArray),.string (⟨#[49]⟩ : ByteArray),.string (⟨#[50,53,54]⟩ : ByteArray),.string (⟨#[10]⟩ : ByteArray),.string (⟨#[45]⟩ : ByteArray),.string (⟨#[120]⟩ : ByteArray)]) (ok:=fun _ => True) (okp:=fun _ => True) ?hr ?hp (fun _ hk => hk) trivial (Below.refl _ _) (Nat.le_refl _) (by simp) ?_;(case hd => rfl);(case hg => rfl);(case hr => first|(go_simp;done)|(go_simp;rfl));(case hp => exact (Reps.one (show Kd.M Kd.string _ _ _ (⟨#[48]⟩ : ByteArray) [.string (⟨#[48]⟩ : ByteArray)] from rfl) (Reps.one (show Kd.M Kd.string _ _ _ (⟨#[46]⟩ : ByteArray) [.string (⟨#[46]⟩ : ByteArray)] from rfl) (Reps.one (show Kd.M Kd.string _ _ _ (⟨#[47]⟩ : ByteArray) [.string (⟨#[47]⟩ : ByteArray)] from rfl) (Reps.one (show Kd.M Kd.string _ _ _ (⟨#[32]⟩ : ByteArray) [.string (⟨#[32]⟩ : ByteArray)] from rfl) (Reps.one (show Kd.M Kd.string _ _ _ (⟨#[49]⟩ : ByteArray) [.string (⟨#[49]⟩ : ByteArray)] from rfl) (Reps.one (show Kd.M Kd.string _ _ _ (⟨#[50,53,54]⟩ : ByteArray) [.string (⟨#[50,53,54]⟩ : ByteArray)] from rfl) (Reps.one (show Kd.M Kd.string _ _ _ (⟨#[10]⟩ : ByteArray) [.string (⟨#[10]⟩ : ByteArray)] from rfl) (Reps.one (show Kd.M Kd.string _ _ _ (⟨#[45]⟩ : ByteArray) [.string (⟨#[45]⟩ : ByteArray)] from rfl) (Reps.one (show Kd.M Kd.string _ _ _ (⟨#[120]⟩ : ByteArray) [.string (⟨#[120]⟩ : ByteArray)] from rfl) (Reps.none _ _)))))))))))
      intro v106 w16 ho17 hb hg_ hnew_
      clear hg_ hnew_
      (first|rw [← Ny105.1] at ho17|(simp only [Int.reduceToNat] at ho17;rw [← Ny105.1] at ho17))
      have n0_:=a1z.mk (Kd.e1z ho17 (d0z (w:=w) (g:=g) (row:=none) (by repeat (first|(with_reducible first|exact HK.1|apply a7z.set_|apply b0z|apply b3z|apply keep_alloc)|exact HK.1))))
      have n1_:=a1z.mk (IsS80.below (by repeat (first|(with_reducible first|exact HI0.1|apply IsS80.alloc|apply IsS80.drewN|apply IsS80.drew|apply IsS80.set_1)|exact HI0.1)) hb)
      have n2_:=a1z.mk (a7z.trans (by repeat (first|(with_reducible first|exact HK.1|apply a7z.set_|apply b0z|apply b3z|apply keep_alloc)|exact HK.1)) (a7z.e3z hb g none) (.inl rfl))
      have n3_:=a1z.mk (b1z (by repeat (first|(with_reducible first|exact HB.1|apply a3z|apply a0z|apply a2z|refine a5z ?_ (IsS80.ge HI0.1))|exact HB.1)) hb)
      clear HI0 HK HB
      have HO107:=n0_
      have HI0:=n1_
      have HK:=n2_
      have HB:=n3_
      clear n0_ n1_ n2_ n3_
      clear hb ho17
      obtain ⟨Ao18,co18,eo18⟩:=Kd.e0z HO107.1
      (first|subst eo18|(injection eo18 with f1_ f2_ f3_;have f4_:=f1_.symm;have f5_:=f3_.symm;clear f1_ f2_ f3_;subst f4_;subst f5_))
      refine hK.out _ _ trivial (fun hHeld => ?_)
      clear hK K
      refine norm_ (a':=?_) ?_ ?_
      rotate_left
      ·show Act.put _ (some 19) _ = _
       simp only [Act.put,sA_,sZ_,sS_,i64_w,i32_w]
       rfl
      refine one_ (i:=5) (N:=some 20) #[true,true,true,true,true,true,false,true,true,true,false,false] rfl rfl (e8z HT_.1 (by kernel_rfl)) (by decide) (fun K hK => ?_)
      refine goes_ Tryz.func64 (by kernel_rfl) rfl #[.pointer (some ⟨g,0,none⟩),.slice Ao18 y105.length co18] (by rfl) rfl rfl (by (try simp only [mA_,mC_,mN_]);first|done|rfl|(simp only [lD_,lT_];rfl)) ?_
      with_reducible refine (spec_l1Rd_of.calls k g s0_0 t104 _ _ y105 t108 t109 w0 _ ?side1 ?side2 ?side3 ?side4 ?side5 A8.1).mono ?_
      (case side1 => repeat (first|(with_reducible first|exact HI0.1|apply IsS80.alloc|apply IsS80.drewN|apply IsS80.drew|apply IsS80.set_1)|exact HI0.1))
      (case side2 => repeat (first|(with_reducible first|exact HB.1|apply a3z|apply a0z|apply a2z|refine a5z ?_ (IsS80.ge HI0.1))|exact HB.1))
      (case side3 => repeat (first|exact (Kd.c2z HO107.1).2.2|(with_reducible refine Kd.C_alloc ?_ _)|(with_reducible refine Kd.C_drewN ?_ _)|(with_reducible refine Kd.e5z ?_)))
      (case side4 => exact (Kd.c2z HO107.1).2.1)
      (case side5 => exact f2z (IsS80.own_ne HI0.1 HO107.1 (by decide)))
      rintro e w19 ⟨rfl,hi,hb,hk⟩
      refine ⟨_,rfl,?_⟩
      have n0_:=a1z.mk (Kd.c9z (Kd.e2z (IsS80.apart (show IsS80 w0 _ g s0_0 t104 from by repeat (first|(with_reducible first|exact HI0.1|apply IsS80.alloc|apply IsS80.drewN|apply IsS80.drew|apply IsS80.set_1)|exact HI0.1)) (by (with_reducible repeat (first|apply Kd.R_alloc|apply Kd.b6z|apply Kd.b9z));exact HO107.1) (by decide)) hk (fun _ h => h.2)) (fun _ h => h.1))
      have n1_:=a1z.mk (a7z.trans (by repeat (first|(with_reducible first|exact HK.1|apply a7z.set_|apply b0z|apply b3z|apply keep_alloc)|exact HK.1)) hk (.inl rfl))
      have n2_:=a1z.mk (hb)
      have n3_:=a1z.mk (hi)
      clear HO107 HK HB HI0
      have HO107:=n0_
      have HK:=n1_
      have HB:=n2_
      have HI0:=n3_
      clear n0_ n1_ n2_ n3_
      (try clear hb)
      (try clear hb2)
      (try clear hk)
      (try clear hi)
      refine hK.out _ _ trivial (fun hHeld => ?_)
      clear hK K
      refine norm_ (a':=?_) ?_ ?_
      rotate_left
      ·show Act.put _ (some 20) _ = _
       simp only [Act.put,sA_,sZ_,sS_,i64_w,i32_w]
       rfl
      refine pure_ (i:=6) (N:=some 21) (v:=?_) (a':=?_) #[true,true,true,true,true,true,true,true,true,true,false,false] rfl rfl (d1z HT_.1 (by kernel_rfl)) (fun _ _ _ h => h) (Or.inl ⟨by rfl,?_⟩) ?_ ?_
      rotate_left
      ·intro w'
       go_simp
       with_reducible rfl
      rotate_left
      ·simp only [Act.put,sA_,sZ_,sS_,i64_w,i32_w]
       rfl
      refine pure_ (i:=10) (N:=some 25) (v:=?_) (a':=?_) #[true,true,true,true,true,true,true,true,true,true,true,false] rfl rfl (d1z HT_.1 (by kernel_rfl)) (fun _ _ _ h => h) (Or.inl ⟨by rfl,?_⟩) ?_ ?_
      rotate_left
      ·intro w'
       go_simp
       with_reducible rfl
      rotate_left
      ·simp only [Act.put,sA_,sZ_,sS_,i64_w,i32_w]
       rfl
      refine pure_ (i:=11) (N:=some 4) (v:=?_) (a':=?_) #[true,true,true,true,true,true,true,true,true,true,true,true] rfl rfl (d1z HT_.1 (by kernel_rfl)) (fun _ _ _ h => h) (Or.inl ⟨by rfl,?_⟩) ?_ ?_
      rotate_left
      ·intro w'
       go_simp
       with_reducible rfl
      rotate_left
      ·simp only [Act.put,sA_,sZ_,sS_,i64_w,i32_w]
       rfl
      refine done_ (g8z HT_.1 (by kernel_rfl)) ?_
      try go_wp2
      go_ret
      exact ⟨by first|rfl|(simp [b5z,b4z] <;> rfl)|(simp [*,b5z,b4z] <;> rfl),by repeat (first|(with_reducible first|exact HI0.1|apply IsS80.alloc|apply IsS80.drewN|apply IsS80.drew|apply IsS80.set_1)|exact HI0.1),by repeat (first|(with_reducible first|exact HB.1|apply a3z|apply a0z|apply a2z|refine a5z ?_ (IsS80.ge HI0.1))|exact HB.1),by repeat (first|(with_reducible first|exact HK.1|apply a7z.set_|apply b0z|apply b3z|apply keep_alloc)|exact HK.1)⟩
     ·rw [if_neg c12] at H
      exact absurd H (by simp)
    ·rw [if_neg c9] at H
     exact absurd H (by simp)
   ·rw [if_neg c7] at H
    exact absurd H (by simp)
  ·rw [if_neg c6] at H
   exact absurd H (by simp)
 ·rw [if_neg c5] at H
  have c5b0 : (t103 == 0) = false:=beq_eq_false_iff_ne.mpr c5
  have c5b1 : (t103 != 0) = true:=bne_iff_ne.mpr c5
  by_cases c20 : t103 = 1
  ·rw [if_pos c20] at H
   have c20b0 : (t103 == 1) = true:=beq_iff_eq.mpr c20
   have c20b1 : (t103 != 1) = false:=bne_eq_false_iff_eq.mpr c20
   clear c20
   by_cases c21 : 0 ≤ t101
   ·rw [if_pos c21] at H
    have c21b0:=eq_true c21
    have c21b1 : decide (0 ≤ t101) = true:=decide_eq_true c21
    clear c21
    by_cases c22 : t101 ≤ (a1.size : Int)
    ·rw [if_pos c22] at H
     have c22b0:=eq_true c22
     have c22b1 : decide (t101 ≤ (a1.size : Int)) = true:=decide_eq_true c22
     clear c22
     simp only [Option.some.injEq,Prod.mk.injEq] at H
     obtain ⟨rfl,rfl⟩:=H
     go_enter Tryz.func34,Tryz.ntmps34
     go_wp2_with (first|((with_reducible refine b2z (f:=50) rfl ?_);refine c1z (some 10) rfl rfl Tryz.func50 (by kernel_rfl) rfl #[.pointer (some ⟨g,0,none⟩),.int .i64 (wrap64 ((a1.size : Int) + 1))] rfl (by (try simp only [mA_,mC_,mN_]);first|done|rfl|(simp only [lD_,lT_];rfl)) ?_;(with_reducible refine (spec_l1Rd_pick.calls k g s0_0 s0_1 (wrap64 ((a1.size : Int) + 1)) t101 t102 w0 _ ?side1 ?side2 A3.1).mono ?_);(case side1 => repeat (first|(with_reducible first|exact HI0.1|apply IsS80.alloc|apply IsS80.drewN|apply IsS80.drew|apply IsS80.set_1)|exact HI0.1));(case side2 => repeat (first|(with_reducible first|exact HB.1|apply a3z|apply a0z|apply a2z|refine a5z ?_ (IsS80.ge HI0.1))|exact HB.1));rintro e w23 ⟨rfl,hi,hb,hk⟩;refine ⟨_,rfl,?_⟩;have n0_:=a1z.mk (a7z.trans (by repeat (first|(with_reducible first|exact HK.1|apply a7z.set_|apply b0z|apply b3z|apply keep_alloc)|exact HK.1)) hk (.inl rfl));have n1_:=a1z.mk (hb);have n2_:=a1z.mk (hi);clear HK HB HI0;have HK:=n0_;have HB:=n1_;have HI0:=n2_;clear n0_ n1_ n2_;(try clear hb);(try clear hk);(try clear hi))|((with_reducible refine b2z (f:=50) rfl ?_);refine c1z (some 12) rfl rfl Tryz.func50 (by kernel_rfl) rfl #[.pointer (some ⟨g,0,none⟩),.int .i64 5] rfl (by (try simp only [mA_,mC_,mN_]);first|done|rfl|(simp only [lD_,lT_];rfl)) ?_;(with_reducible refine (spec_l1Rd_pick.calls k g s0_0 t102 5 t103 t104 w0 _ ?side1 ?side2 A4.1).mono ?_);(case side1 => repeat (first|(with_reducible first|exact HI0.1|apply IsS80.alloc|apply IsS80.drewN|apply IsS80.drew|apply IsS80.set_1)|exact HI0.1));(case side2 => repeat (first|(with_reducible first|exact HB.1|apply a3z|apply a0z|apply a2z|refine a5z ?_ (IsS80.ge HI0.1))|exact HB.1));rintro e w24 ⟨rfl,hi,hb,hk⟩;refine ⟨_,rfl,?_⟩;have n0_:=a1z.mk (a7z.trans (by repeat (first|(with_reducible first|exact HK.1|apply a7z.set_|apply b0z|apply b3z|apply keep_alloc)|exact HK.1)) hk (.inl rfl));have n1_:=a1z.mk (hb);have n2_:=a1z.mk (hi);clear HK HB HI0;have HK:=n0_;have HB:=n1_;have HI0:=n2_;clear n0_ n1_ n2_;(try clear hb);(try clear hk);(try clear hi)))
     go_ret
     exact ⟨by first|rfl|(simp [b5z,b4z] <;> rfl)|(simp [*,b5z,b4z] <;> rfl),by repeat (first|(with_reducible first|exact HI0.1|apply IsS80.alloc|apply IsS80.drewN|apply IsS80.drew|apply IsS80.set_1)|exact HI0.1),by repeat (first|(with_reducible first|exact HB.1|apply a3z|apply a0z|apply a2z|refine a5z ?_ (IsS80.ge HI0.1))|exact HB.1),by repeat (first|(with_reducible first|exact HK.1|apply a7z.set_|apply b0z|apply b3z|apply keep_alloc)|exact HK.1)⟩
    ·rw [if_neg c22] at H
     exact absurd H (by simp)
   ·rw [if_neg c21] at H
    exact absurd H (by simp)
  ·rw [if_neg c20] at H
   have c20b0 : (t103 == 1) = false:=beq_eq_false_iff_ne.mpr c20
   have c20b1 : (t103 != 1) = true:=bne_iff_ne.mpr c20
   simp only [Option.some.injEq,Prod.mk.injEq] at H
   obtain ⟨rfl,rfl⟩:=H
   go_enter Tryz.func34,Tryz.ntmps34
   go_wp2_with (first|((with_reducible refine b2z (f:=50) rfl ?_);refine c1z (some 10) rfl rfl Tryz.func50 (by kernel_rfl) rfl #[.pointer (some ⟨g,0,none⟩),.int .i64 (wrap64 ((a1.size : Int) + 1))] rfl (by (try simp only [mA_,mC_,mN_]);first|done|rfl|(simp only [lD_,lT_];rfl)) ?_;(with_reducible refine (spec_l1Rd_pick.calls k g s0_0 s0_1 (wrap64 ((a1.size : Int) + 1)) t101 t102 w0 _ ?side1 ?side2 A3.1).mono ?_);(case side1 => repeat (first|(with_reducible first|exact HI0.1|apply IsS80.alloc|apply IsS80.drewN|apply IsS80.drew|apply IsS80.set_1)|exact HI0.1));(case side2 => repeat (first|(with_reducible first|exact HB.1|apply a3z|apply a0z|apply a2z|refine a5z ?_ (IsS80.ge HI0.1))|exact HB.1));rintro e w25 ⟨rfl,hi,hb,hk⟩;refine ⟨_,rfl,?_⟩;have n0_:=a1z.mk (a7z.trans (by repeat (first|(with_reducible first|exact HK.1|apply a7z.set_|apply b0z|apply b3z|apply keep_alloc)|exact HK.1)) hk (.inl rfl));have n1_:=a1z.mk (hb);have n2_:=a1z.mk (hi);clear HK HB HI0;have HK:=n0_;have HB:=n1_;have HI0:=n2_;clear n0_ n1_ n2_;(try clear hb);(try clear hk);(try clear hi))|((with_reducible refine b2z (f:=50) rfl ?_);refine c1z (some 12) rfl rfl Tryz.func50 (by kernel_rfl) rfl #[.pointer (some ⟨g,0,none⟩),.int .i64 5] rfl (by (try simp only [mA_,mC_,mN_]);first|done|rfl|(simp only [lD_,lT_];rfl)) ?_;(with_reducible refine (spec_l1Rd_pick.calls k g s0_0 t102 5 t103 t104 w0 _ ?side1 ?side2 A4.1).mono ?_);(case side1 => repeat (first|(with_reducible first|exact HI0.1|apply IsS80.alloc|apply IsS80.drewN|apply IsS80.drew|apply IsS80.set_1)|exact HI0.1));(case side2 => repeat (first|(with_reducible first|exact HB.1|apply a3z|apply a0z|apply a2z|refine a5z ?_ (IsS80.ge HI0.1))|exact HB.1));rintro e w26 ⟨rfl,hi,hb,hk⟩;refine ⟨_,rfl,?_⟩;have n0_:=a1z.mk (a7z.trans (by repeat (first|(with_reducible first|exact HK.1|apply a7z.set_|apply b0z|apply b3z|apply keep_alloc)|exact HK.1)) hk (.inl rfl));have n1_:=a1z.mk (hb);have n2_:=a1z.mk (hi);clear HK HB HI0;have HK:=n0_;have HB:=n1_;have HI0:=n2_;clear n0_ n1_ n2_;(try clear hb);(try clear hk);(try clear hi)))
   go_ret
   exact ⟨by first|rfl|(simp [b5z,b4z] <;> rfl)|(simp [*,b5z,b4z] <;> rfl),by repeat (first|(with_reducible first|exact HI0.1|apply IsS80.alloc|apply IsS80.drewN|apply IsS80.drew|apply IsS80.set_1)|exact HI0.1),by repeat (first|(with_reducible first|exact HB.1|apply a3z|apply a0z|apply a2z|refine a5z ?_ (IsS80.ge HI0.1))|exact HB.1),by repeat (first|(with_reducible first|exact HK.1|apply a7z.set_|apply b0z|apply b3z|apply keep_alloc)|exact HK.1)⟩
def spec_DrawRulesGet.f (k : Nat) (l0 : List Int) : Option (ByteArray):=(spec_l1Open.f l0).bind fun bt101 => ((spec_l12Rules.f k bt101.1 bt101.2).bind fun bt104 => ((spec_l4Put.f k bt104.1).bind fun t108 => ((spec_l12Cut.f k bt101.1 bt104.2 t108).bind fun bt109 => (some bt109.1))))
set_option maxHeartbeats 8000000 in
set_option maxRecDepth 100000 in
theorem spec_DrawRulesGet.calls (k : Nat) (A0 : Option Addr) (c0 : Nat) (l0 : List Int) (r : ByteArray) (w : World) (hr0 : Kd.C (Kd.int .u8) w A0 l0.length l0) (hc0 : l0.length ≤ c0) (h : spec_DrawRulesGet.f k l0 = some r) :
  Calls Tryz.prog 15 #[.slice A0 l0.length c0] w fun e w' => e = .returned (.string r) ∧ Below w.heap.size w w':=by
 have HR0:=a1z.mk hr0
 have HC0:=a1z.mk hc0
 clear hr0 hc0
 have HB:=a1z.mk (Below.refl w.heap.size w)
 have H : ((spec_l1Open.f l0).bind fun bt101 => ((spec_l12Rules.f k bt101.1 bt101.2).bind fun bt104 => ((spec_l4Put.f k bt104.1).bind fun t108 => ((spec_l12Cut.f k bt101.1 bt104.2 t108).bind fun bt109 => (some bt109.1))))) = some r:=h
 clear h
 replace H:=Option.bind_eq_some_iff.mp H
 obtain ⟨⟨t101,t102⟩,A20,H⟩:=H
 replace H : ((spec_l12Rules.f k t101 t102).bind fun bt104 => ((spec_l4Put.f k bt104.1).bind fun t108 => ((spec_l12Cut.f k t101 bt104.2 t108).bind fun bt109 => (some bt109.1)))) = some r:=H
 have A2:=a1z.mk A20
 clear A20
 replace H:=Option.bind_eq_some_iff.mp H
 obtain ⟨⟨t104,t107⟩,A30,H⟩:=H
 replace H : ((spec_l4Put.f k t104).bind fun t108 => ((spec_l12Cut.f k t101 t107 t108).bind fun bt109 => (some bt109.1))) = some r:=H
 have A3:=a1z.mk A30
 clear A30
 replace H:=Option.bind_eq_some_iff.mp H
 obtain ⟨t108,A40,H⟩:=H
 replace H : ((spec_l12Cut.f k t101 t107 t108).bind fun bt109 => (some bt109.1)) = some r:=H
 have A4:=a1z.mk A40
 clear A40
 replace H:=Option.bind_eq_some_iff.mp H
 obtain ⟨⟨t109,t110⟩,A50,H⟩:=H
 replace H : (some t109) = some r:=H
 have A5:=a1z.mk A50
 clear A50
 obtain rfl:=Option.some.inj H
 go_enter Tryz.func15,Tryz.ntmps15
 go_wp2_with (first|((with_reducible refine b2z (f:=25) rfl ?_);refine c1z (some 5) rfl rfl Tryz.func25 (by kernel_rfl) rfl #[.slice A0 l0.length c0] rfl (by (try simp only [mA_,mC_,mN_]);first|done|rfl|(simp only [lD_,lT_];rfl)) ?_;(with_reducible refine (spec_l1Open.calls _ _ l0 t101 t102 w _ ?side1 ?side2 ?side3 A2.1).mono ?_);(case side1 => repeat (first|(with_reducible first|exact HB.1|apply a3z|apply a0z|apply a2z)|exact HB.1));(case side2 => exact HR0.1);(case side3 => exact HC0.1);rintro e w6 ⟨g103,rfl,hi,hb,hb2⟩;refine ⟨_,rfl,?_⟩;have n0_:=a1z.mk (hb);have n1_:=a1z.mk (hi);clear HB;have HB:=n0_;have HI103:=n1_;clear n0_ n1_;(try clear hb);(try clear hb2);(try clear hi))|((with_reducible refine b2z (f:=35) rfl ?_);refine c1z (some 8) rfl rfl Tryz.func35 (by kernel_rfl) rfl #[.pointer (some ⟨g103,0,none⟩)] rfl (by (try simp only [mA_,mC_,mN_]);first|done|rfl|(simp only [lD_,lT_];rfl)) ?_;(with_reducible refine (spec_l12Rules.calls k g103 t101 t102 t104 t107 w _ ?side1 ?side2 A3.1).mono ?_);(case side1 => repeat (first|(with_reducible first|exact HI103.1|apply IsS80.alloc|apply IsS80.drewN|apply IsS80.drew|apply IsS80.set_1)|exact HI103.1));(case side2 => repeat (first|(with_reducible first|exact HB.1|apply a3z|apply a0z|apply a2z|refine a5z ?_ (IsS80.ge HI103.1))|exact HB.1));rintro e w7 ⟨v105,rfl,ho0,hi,hb,hk⟩;refine ⟨_,rfl,?_⟩;have n0_:=a1z.mk (Kd.e1z ho0 (b8z (by repeat (first|(with_reducible first|exact HB.1|apply a3z|apply a0z|apply a2z|refine a5z ?_ (IsS80.ge HI103.1))|exact HB.1))));have n1_:=a1z.mk (hb);have n2_:=a1z.mk (hi);clear HB HI103;have HO106:=n0_;have HB:=n1_;have HI103:=n2_;clear n0_ n1_ n2_;(try clear hb);(try clear hk);(try clear hi);(try clear ho0);obtain ⟨Ao8,co8,eo8⟩:=Kd.e0z HO106.1;subst eo8)|((with_reducible refine b2z (f:=18) rfl ?_);refine c1z (some 9) rfl rfl Tryz.func18 (by kernel_rfl) rfl #[.slice Ao8 t104.length co8] rfl (by (try simp only [mA_,mC_,mN_]);first|done|rfl|(simp only [lD_,lT_];rfl)) ?_;(with_reducible refine (spec_l4Put.calls k _ _ t104 t108 _ ?side1 ?side2 A4.1).mono ?_);(case side1 => repeat (first|exact (Kd.c2z HO106.1).2.2|(with_reducible refine Kd.C_alloc ?_ _)|(with_reducible refine Kd.C_drewN ?_ _)|(with_reducible refine Kd.e5z ?_)));(case side2 => exact (Kd.c2z HO106.1).2.1);rintro e w9 ⟨rfl,hb⟩;refine ⟨_,rfl,?_⟩;have n0_:=a1z.mk (Kd.d3z (by (with_reducible repeat (first|apply Kd.R_alloc|apply Kd.b6z|apply Kd.b9z));exact HO106.1) hb);have n1_:=a1z.mk (IsS80.below (by repeat (first|(with_reducible first|exact HI103.1|apply IsS80.alloc|apply IsS80.drewN|apply IsS80.drew|apply IsS80.set_1)|exact HI103.1)) hb);have n2_:=a1z.mk (b1z (by repeat (first|(with_reducible first|exact HB.1|apply a3z|apply a0z|apply a2z|refine a5z ?_ (IsS80.ge HI103.1))|exact HB.1)) hb);clear HO106 HI103 HB;have HO106:=n0_;have HI103:=n1_;have HB:=n2_;clear n0_ n1_ n2_;(try clear hb))|((with_reducible refine b2z (f:=34) rfl ?_);refine c1z (some 10) rfl rfl Tryz.func34 (by kernel_rfl) rfl #[.pointer (some ⟨g103,0,none⟩),.string t108] rfl (by (try simp only [mA_,mC_,mN_]);first|done|rfl|(simp only [lD_,lT_];rfl)) ?_;(with_reducible refine (spec_l12Cut.calls k g103 t101 t107 t108 t109 t110 w _ ?side1 ?side2 A5.1).mono ?_);(case side1 => repeat (first|(with_reducible first|exact HI103.1|apply IsS80.alloc|apply IsS80.drewN|apply IsS80.drew|apply IsS80.set_1)|exact HI103.1));(case side2 => repeat (first|(with_reducible first|exact HB.1|apply a3z|apply a0z|apply a2z|refine a5z ?_ (IsS80.ge HI103.1))|exact HB.1));rintro e w10 ⟨rfl,hi,hb,hk⟩;refine ⟨_,rfl,?_⟩;have n0_:=a1z.mk (Kd.c9z (Kd.e2z (IsS80.apart (show IsS80 w _ g103 t101 t107 from by repeat (first|(with_reducible first|exact HI103.1|apply IsS80.alloc|apply IsS80.drewN|apply IsS80.drew|apply IsS80.set_1)|exact HI103.1)) (by (with_reducible repeat (first|apply Kd.R_alloc|apply Kd.b6z|apply Kd.b9z));exact HO106.1) (by decide)) hk (fun _ h => h.2)) (fun _ h => h.1));have n1_:=a1z.mk (hb);have n2_:=a1z.mk (hi);clear HO106 HB HI103;have HO106:=n0_;have HB:=n1_;have HI103:=n2_;clear n0_ n1_ n2_;(try clear hb);(try clear hk);(try clear hi)))
 go_ret
 exact ⟨by first|rfl|(simp [b5z,b4z] <;> rfl)|(simp [*,b5z,b4z] <;> rfl),by repeat (first|(with_reducible first|exact HB.1|apply a3z|apply a0z|apply a2z|refine a5z ?_ (IsS80.ge HI103.1))|exact HB.1)⟩
mutual
def laws_FnRulesText.j0 : Nat → List Int → List Int → Bool → Option (Bool)
 | 0,_,_,_ => none
 | k + 1,x0,x1,x21 => if x21 = true then (some true) else ((spec_DrawRulesPut.f k x0).bind fun t101 => ((impl_RulesPut.f k t101).bind fun t104 => ((impl_RulesGet.f k t104).bind fun bt105 => ((spec_RulesPut.f k t101).bind fun t109 => (if t104.toList = t109.toList then (if bt105.2 = true then ((spec_RulesOk.f k t101).bind fun t110 => (if t110 = true then ((laws_ovRules.f k bt105.1 t101).bind fun t111 => (laws_FnRulesText.j1 k x1 (!t111))) else (laws_FnRulesText.j1 k x1 false))) else (laws_FnRulesText.j1 k x1 true)) else (laws_FnRulesText.j1 k x1 true))))))
def laws_FnRulesText.j1 : Nat → List Int → Bool → Option (Bool)
 | 0,_,_ => none
 | k + 1,x1,x48 => if x48 = true then (some false) else ((spec_DrawRulesGet.f k x1).bind fun t112 => ((impl_RulesGet.f k t112).bind fun bt113 => ((spec_RulesGet.f k t112).bind fun bt117 => (if (bt113.2 == bt117.2) = true then ((laws_ovRules.f k bt113.1 bt117.1).bind fun t121 => (if t121 = true then (if bt113.2 = true then ((impl_RulesPut.f k bt113.1).bind fun t122 => (some (t122.toList == t112.toList))) else (some true)) else (some false))) else (some false)))))
end
def laws_FnRulesText.f (k : Nat) (l0 : List Int) (l1 : List Int) : Option (Bool):=if (l0.length : Int) > 1048576 then (laws_FnRulesText.j0 k l0 l1 true) else (laws_FnRulesText.j0 k l0 l1 (decide ((l1.length : Int) > 1048576)))
set_option maxHeartbeats 8000000 in
set_option maxRecDepth 100000 in
theorem laws_FnRulesText.calls (k : Nat) (A0 : Option Addr) (c0 : Nat) (l0 : List Int) (A1 : Option Addr) (c1 : Nat) (l1 : List Int) (r : Bool) (w : World) (hT : Tb.T3 w) (hr0 : Kd.C (Kd.int .u8) w A0 l0.length l0) (hc0 : l0.length ≤ c0) (hr1 : Kd.C (Kd.int .u8) w A1 l1.length l1) (hc1 : l1.length ≤ c1) (h : laws_FnRulesText.f k l0 l1 = some r) :
  Calls Tryz.prog 4 #[.slice A0 l0.length c0,.slice A1 l1.length c1] w fun e w' => e = .returned (.bool r) ∧ Below w.heap.size w w':=by
 have HT:=a1z.mk hT
 clear hT
 have HR0:=a1z.mk hr0
 have HC0:=a1z.mk hc0
 clear hr0 hc0
 have HR1:=a1z.mk hr1
 have HC1:=a1z.mk hc1
 clear hr1 hc1
 have HB:=a1z.mk (Below.refl w.heap.size w)
 have H : (if (l0.length : Int) > 1048576 then (laws_FnRulesText.j0 k l0 l1 true) else (laws_FnRulesText.j0 k l0 l1 (decide ((l1.length : Int) > 1048576)))) = some r:=h
 clear h
 have HC3:=a1z.mk H
 clear H
 go_enter Tryz.func4,Tryz.ntmps4
 go_upto_region 1 with (fail)
 go_cut [21] (fun v21 wc => ∃ (kq : Nat) (x21_2 : Bool),v21 = .bool x21_2 ∧ a1z (laws_FnRulesText.j0 kq l0 l1 x21_2 = some r) ∧ a1z (kq ≤ k) ∧ a1z (Below w.heap.size w wc))
 case first =>
  have H:=HC3.1
  clear HC3
  by_cases c4 : (l0.length : Int) > 1048576
  ·rw [if_pos c4] at H
   have c4b0 : decide (1048576 < (l0.length : Int)) = true:=decide_eq_true c4
   have c4b1 : decide (1048576 < l0.length) = true:=decide_eq_true (by omega)
   clear c4
   (first|rw [c4b0]|(simp only [i64_w,i32_w];rw [c4b0])|skip)
   have H':=a1z.mk H
   clear H
   go_wp2
   go_meet
   case rel => exact ⟨_,(true),(by first|rfl|(simp;done)|(simp [*];done)),H',⟨by first|omega|exact Nat.le_refl _⟩,⟨by repeat (first|(with_reducible first|exact HB.1|apply a3z|apply a0z|apply a2z)|exact HB.1)⟩⟩
  ·rw [if_neg c4] at H
   have c4b0 : decide (1048576 < (l0.length : Int)) = false:=decide_eq_false c4
   have c4b1 : decide (1048576 < l0.length) = false:=decide_eq_false (by omega)
   clear c4
   (first|rw [c4b0]|(simp only [i64_w,i32_w];rw [c4b0])|skip)
   have H':=a1z.mk H
   clear H
   go_wp2
   go_meet
   case rel => exact ⟨_,(decide ((l1.length : Int) > 1048576)),(by first|rfl|(simp;done)|(simp [*];done)),H',⟨by first|omega|exact Nat.le_refl _⟩,⟨by repeat (first|(with_reducible first|exact HB.1|apply a3z|apply a0z|apply a2z)|exact HB.1)⟩⟩
 case rest =>
  clear HC3
  try clear c1
  try clear p2
  try clear c4
  try clear c4b0
  try clear c4b1
  obtain ⟨kq,x21_2,rfl,HA,HJ2,HB⟩:=hcut
  cases kq with
  | zero => exact absurd HA.1 (by simp [laws_FnRulesText.j0])
  | succ kj2 =>
   have H:=HA.1
   clear HA
   simp only [laws_FnRulesText.j0] at H
   by_cases c5 : x21_2 = true
   ·subst c5
    have H1 : (some true) = some r:=by rw [if_pos rfl] at H;exact H
    clear H
    have H:=H1
    clear H1
    obtain rfl:=Option.some.inj H
    go_wp2
    go_ret
    exact ⟨by first|rfl|(simp [b5z,b4z] <;> rfl)|(simp [*,b5z,b4z] <;> rfl),by repeat (first|(with_reducible first|exact HB.1|apply a3z|apply a0z|apply a2z)|exact HB.1)⟩
   ·replace c5:=Bool.eq_false_iff.mpr c5
    subst c5
    have H1 : ((spec_DrawRulesPut.f kj2 l0).bind fun t101 => ((impl_RulesPut.f kj2 t101).bind fun t104 => ((impl_RulesGet.f kj2 t104).bind fun bt105 => ((spec_RulesPut.f kj2 t101).bind fun t109 => (if t104.toList = t109.toList then (if bt105.2 = true then ((spec_RulesOk.f kj2 t101).bind fun t110 => (if t110 = true then ((laws_ovRules.f kj2 bt105.1 t101).bind fun t111 => (laws_FnRulesText.j1 kj2 l1 (!t111))) else (laws_FnRulesText.j1 kj2 l1 false))) else (laws_FnRulesText.j1 kj2 l1 true)) else (laws_FnRulesText.j1 kj2 l1 true)))))) = some r:=by rw [if_neg (show ¬ (false = true) by decide)] at H;exact H
    clear H
    have H:=H1
    clear H1
    replace H:=Option.bind_eq_some_iff.mp H
    obtain ⟨t101,A60,H⟩:=H
    replace H : ((impl_RulesPut.f kj2 t101).bind fun t104 => ((impl_RulesGet.f kj2 t104).bind fun bt105 => ((spec_RulesPut.f kj2 t101).bind fun t109 => (if t104.toList = t109.toList then (if bt105.2 = true then ((spec_RulesOk.f kj2 t101).bind fun t110 => (if t110 = true then ((laws_ovRules.f kj2 bt105.1 t101).bind fun t111 => (laws_FnRulesText.j1 kj2 l1 (!t111))) else (laws_FnRulesText.j1 kj2 l1 false))) else (laws_FnRulesText.j1 kj2 l1 true)) else (laws_FnRulesText.j1 kj2 l1 true))))) = some r:=H
    have A6:=a1z.mk A60
    clear A60
    replace H:=Option.bind_eq_some_iff.mp H
    obtain ⟨t104,A70,H⟩:=H
    replace H : ((impl_RulesGet.f kj2 t104).bind fun bt105 => ((spec_RulesPut.f kj2 t101).bind fun t109 => (if t104.toList = t109.toList then (if bt105.2 = true then ((spec_RulesOk.f kj2 t101).bind fun t110 => (if t110 = true then ((laws_ovRules.f kj2 bt105.1 t101).bind fun t111 => (laws_FnRulesText.j1 kj2 l1 (!t111))) else (laws_FnRulesText.j1 kj2 l1 false))) else (laws_FnRulesText.j1 kj2 l1 true)) else (laws_FnRulesText.j1 kj2 l1 true)))) = some r:=H
    have A7:=a1z.mk A70
    clear A70
    replace H:=Option.bind_eq_some_iff.mp H
    obtain ⟨⟨t105,t106⟩,A80,H⟩:=H
    replace H : ((spec_RulesPut.f kj2 t101).bind fun t109 => (if t104.toList = t109.toList then (if t106 = true then ((spec_RulesOk.f kj2 t101).bind fun t110 => (if t110 = true then ((laws_ovRules.f kj2 t105 t101).bind fun t111 => (laws_FnRulesText.j1 kj2 l1 (!t111))) else (laws_FnRulesText.j1 kj2 l1 false))) else (laws_FnRulesText.j1 kj2 l1 true)) else (laws_FnRulesText.j1 kj2 l1 true))) = some r:=H
    have A8:=a1z.mk A80
    clear A80
    have HC9:=a1z.mk H
    clear H
    go_upto_region 6 with (first|((with_reducible refine b2z (f:=10) rfl ?_);refine c1z (some 23) rfl rfl Tryz.func10 (by kernel_rfl) rfl #[.slice A0 l0.length c0] rfl (by (try simp only [mA_,mC_,mN_]);first|done|rfl|(simp only [lD_,lT_];rfl)) ?_;(with_reducible refine (spec_DrawRulesPut.calls kj2 _ _ l0 t101 _ ?side1 ?side2 A6.1).mono ?_);(case side1 => repeat (first|exact (Kd.C_below HR0.1 HB.1)|(with_reducible refine Kd.C_alloc ?_ _)|(with_reducible refine Kd.C_drewN ?_ _)|(with_reducible refine Kd.e5z ?_)));(case side2 => exact HC0.1);rintro e w10 ⟨v102,rfl,ho0,hb⟩;refine ⟨_,rfl,?_⟩;have n0_:=a1z.mk (Kd.e1z ho0 (b8z (by repeat (first|(with_reducible first|exact HB.1|apply a3z|apply a0z|apply a2z)|exact HB.1))));have n1_:=a1z.mk (b1z (by repeat (first|(with_reducible first|exact HB.1|apply a3z|apply a0z|apply a2z)|exact HB.1)) hb);clear HB;have HO103:=n0_;have HB:=n1_;clear n0_ n1_;(try clear hb);(try clear ho0);obtain ⟨Ao11,co11,eo11⟩:=Kd.e0z HO103.1;subst eo11)|((with_reducible refine b2z (f:=11) rfl ?_);refine c1z (some 25) rfl rfl Tryz.func11 (by kernel_rfl) rfl #[.slice Ao11 t101.length co11] rfl (by (try simp only [mA_,mC_,mN_]);first|done|rfl|(simp only [lD_,lT_];rfl)) ?_;(with_reducible refine (impl_RulesPut.calls kj2 _ _ t101 t104 _ ?side1 ?side2 ?side3 A7.1).mono ?_);(case side1 => exact Tb.T1.of <| Tb.T2.of (Tb.T3.below HT.out (by repeat (first|(with_reducible first|exact HB.1|apply a3z|apply a0z|apply a2z)|exact HB.1))));(case side2 => repeat (first|exact (Kd.c2z HO103.1).2.2|(with_reducible refine Kd.C_alloc ?_ _)|(with_reducible refine Kd.C_drewN ?_ _)|(with_reducible refine Kd.e5z ?_)));(case side3 => exact (Kd.c2z HO103.1).2.1);rintro e w12 ⟨rfl,hb⟩;refine ⟨_,rfl,?_⟩;have n0_:=a1z.mk (Kd.d3z (by (with_reducible repeat (first|apply Kd.R_alloc|apply Kd.b6z|apply Kd.b9z));exact HO103.1) hb);have n1_:=a1z.mk (b1z (by repeat (first|(with_reducible first|exact HB.1|apply a3z|apply a0z|apply a2z)|exact HB.1)) hb);clear HO103 HB;have HO103:=n0_;have HB:=n1_;clear n0_ n1_;(try clear hb))|((with_reducible refine b2z (f:=6) rfl ?_);refine c1z (some 28) rfl rfl Tryz.func6 (by kernel_rfl) rfl #[.string t104] rfl (by (try simp only [mA_,mC_,mN_]);first|done|rfl|(simp only [lD_,lT_];rfl)) ?_;(with_reducible refine (impl_RulesGet.calls kj2 t104 t105 t106 _ ?side1 A8.1).mono ?_);(case side1 => exact (Tb.T3.below HT.out (by repeat (first|(with_reducible first|exact HB.1|apply a3z|apply a0z|apply a2z)|exact HB.1))));rintro e w13 ⟨v107,rfl,ho0,hb⟩;refine ⟨_,rfl,?_⟩;have n0_:=a1z.mk (Kd.f8z (by (with_reducible repeat (first|apply Kd.R_alloc|apply Kd.b6z|apply Kd.b9z));exact HO103.1) (Kd.g3z ho0) hb);have n1_:=a1z.mk (Kd.e1z (Kd.g2z ho0 (Kd.R_lt (by (with_reducible repeat (first|apply Kd.R_alloc|apply Kd.b6z|apply Kd.b9z));exact HO103.1))) (b8z (by repeat (first|(with_reducible first|exact HB.1|apply a3z|apply a0z|apply a2z)|exact HB.1))));have n2_:=a1z.mk (b1z (by repeat (first|(with_reducible first|exact HB.1|apply a3z|apply a0z|apply a2z)|exact HB.1)) hb);clear HO103 HB;have HO103:=n0_;have HO108:=n1_;have HB:=n2_;clear n0_ n1_ n2_;(try clear hb);(try clear ho0)))
    (try simp only [Act.put,sA_,sZ_,sS_])
    go_cut [48] (fun v48 wc => ∃ (kq : Nat) (x48_8 : Bool),v48 = .bool x48_8 ∧ a1z (laws_FnRulesText.j1 kq l1 x48_8 = some r) ∧ a1z (kq ≤ kj2) ∧ a1z (Below w.heap.size w wc))
    case first =>
     have H:=HC9.1
     clear HC9
     replace H:=Option.bind_eq_some_iff.mp H
     obtain ⟨t109,A140,H⟩:=H
     replace H : (if t104.toList = t109.toList then (if t106 = true then ((spec_RulesOk.f kj2 t101).bind fun t110 => (if t110 = true then ((laws_ovRules.f kj2 t105 t101).bind fun t111 => (laws_FnRulesText.j1 kj2 l1 (!t111))) else (laws_FnRulesText.j1 kj2 l1 false))) else (laws_FnRulesText.j1 kj2 l1 true)) else (laws_FnRulesText.j1 kj2 l1 true)) = some r:=H
     have A14:=a1z.mk A140
     clear A140
     by_cases c15 : t104.toList = t109.toList
     ·rw [if_pos c15] at H
      have c15b0 : (t104.toList == t109.toList) = true:=beq_iff_eq.mpr c15
      have c15b1 : (t104.toList != t109.toList) = false:=bne_eq_false_iff_eq.mpr c15
      clear c15
      (first|rw [c15b0]|(simp only [i64_w,i32_w];rw [c15b0])|skip)
      by_cases c16 : t106 = true
      ·subst c16
       have H1 : ((spec_RulesOk.f kj2 t101).bind fun t110 => (if t110 = true then ((laws_ovRules.f kj2 t105 t101).bind fun t111 => (laws_FnRulesText.j1 kj2 l1 (!t111))) else (laws_FnRulesText.j1 kj2 l1 false))) = some r:=by rw [if_pos rfl] at H;exact H
       clear H
       have H:=H1
       clear H1
       replace H:=Option.bind_eq_some_iff.mp H
       obtain ⟨t110,A170,H⟩:=H
       replace H : (if t110 = true then ((laws_ovRules.f kj2 t105 t101).bind fun t111 => (laws_FnRulesText.j1 kj2 l1 (!t111))) else (laws_FnRulesText.j1 kj2 l1 false)) = some r:=H
       have A17:=a1z.mk A170
       clear A170
       by_cases c18 : t110 = true
       ·subst c18
        have H1 : ((laws_ovRules.f kj2 t105 t101).bind fun t111 => (laws_FnRulesText.j1 kj2 l1 (!t111))) = some r:=by rw [if_pos rfl] at H;exact H
        clear H
        have H:=H1
        clear H1
        replace H:=Option.bind_eq_some_iff.mp H
        obtain ⟨t111,A190,H⟩:=H
        replace H : (laws_FnRulesText.j1 kj2 l1 (!t111)) = some r:=H
        have A19:=a1z.mk A190
        clear A190
        have H':=a1z.mk H
        clear H
        go_wp2_with (first|((with_reducible refine b2z (f:=12) rfl ?_);refine c1z (some 33) rfl rfl Tryz.func12 (by kernel_rfl) rfl #[.slice Ao11 t101.length co11] rfl (by (try simp only [mA_,mC_,mN_]);first|done|rfl|(simp only [lD_,lT_];rfl)) ?_;(with_reducible refine (spec_RulesPut.calls kj2 _ _ t101 t109 _ ?side1 ?side2 A14.1).mono ?_);(case side1 => repeat (first|exact (Kd.c2z HO103.1).2.2|(with_reducible refine Kd.C_alloc ?_ _)|(with_reducible refine Kd.C_drewN ?_ _)|(with_reducible refine Kd.e5z ?_)));(case side2 => exact (Kd.c2z HO103.1).2.1);rintro e w20 ⟨rfl,hb⟩;refine ⟨_,rfl,?_⟩;have n0_:=a1z.mk (Kd.d3z (by (with_reducible repeat (first|apply Kd.R_alloc|apply Kd.b6z|apply Kd.b9z));exact HO103.1) hb);have n1_:=a1z.mk (Kd.d3z (by (with_reducible repeat (first|apply Kd.R_alloc|apply Kd.b6z|apply Kd.b9z));exact HO108.1) hb);have n2_:=a1z.mk (b1z (by repeat (first|(with_reducible first|exact HB.1|apply a3z|apply a0z|apply a2z)|exact HB.1)) hb);clear HO103 HO108 HB;have HO103:=n0_;have HO108:=n1_;have HB:=n2_;clear n0_ n1_ n2_;(try clear hb))|(go_at_call 13;(with_reducible refine (spec_RulesOk.calls kj2 _ _ t101 true _ ?side1 ?side2 A17.1).mono ?_);(case side1 => repeat (first|exact (Kd.c2z HO103.1).2.2|(with_reducible refine Kd.C_alloc ?_ _)|(with_reducible refine Kd.C_drewN ?_ _)|(with_reducible refine Kd.e5z ?_)));(case side2 => exact (Kd.c2z HO103.1).2.1);rintro e w21 ⟨rfl,hb⟩;have n0_:=a1z.mk (Kd.d3z (by (with_reducible repeat (first|apply Kd.R_alloc|apply Kd.b6z|apply Kd.b9z));exact HO103.1) hb);have n1_:=a1z.mk (Kd.d3z (by (with_reducible repeat (first|apply Kd.R_alloc|apply Kd.b6z|apply Kd.b9z));exact HO108.1) hb);have n2_:=a1z.mk (b1z (by repeat (first|(with_reducible first|exact HB.1|apply a3z|apply a0z|apply a2z)|exact HB.1)) hb);clear HO103 HO108 HB;have HO103:=n0_;have HO108:=n1_;have HB:=n2_;clear n0_ n1_ n2_;(try clear hb);obtain ⟨Ao22,co22,eo22⟩:=Kd.e0z HO108.1;subst eo22)|(go_at_call 14;(with_reducible refine (laws_ovRules.calls kj2 _ _ t105 _ _ t101 t111 _ ?side1 ?side2 ?side3 ?side4 A19.1).mono ?_);(case side1 => repeat (first|exact (Kd.c2z HO108.1).2.2|(with_reducible refine Kd.C_alloc ?_ _)|(with_reducible refine Kd.C_drewN ?_ _)|(with_reducible refine Kd.e5z ?_)));(case side2 => exact (Kd.c2z HO108.1).2.1);(case side3 => repeat (first|exact (Kd.c2z HO103.1).2.2|(with_reducible refine Kd.C_alloc ?_ _)|(with_reducible refine Kd.C_drewN ?_ _)|(with_reducible refine Kd.e5z ?_)));(case side4 => exact (Kd.c2z HO103.1).2.1);rintro e w' ⟨rfl,⟨nd,rfl⟩⟩))
        go_meet
        case rel => exact ⟨_,(!t111),(by first|rfl|(simp;done)|(simp [*];done)),H',⟨by have:=HJ2.1;first|omega|exact Nat.le_refl _⟩,⟨by repeat (first|(with_reducible first|exact HB.1|apply a3z|apply a0z|apply a2z)|exact HB.1)⟩⟩
       ·replace c18:=Bool.eq_false_iff.mpr c18
        subst c18
        have H1 : (laws_FnRulesText.j1 kj2 l1 false) = some r:=by rw [if_neg (show ¬ (false = true) by decide)] at H;exact H
        clear H
        have H:=H1
        clear H1
        have H':=a1z.mk H
        clear H
        go_wp2_with (first|((with_reducible refine b2z (f:=12) rfl ?_);refine c1z (some 33) rfl rfl Tryz.func12 (by kernel_rfl) rfl #[.slice Ao11 t101.length co11] rfl (by (try simp only [mA_,mC_,mN_]);first|done|rfl|(simp only [lD_,lT_];rfl)) ?_;(with_reducible refine (spec_RulesPut.calls kj2 _ _ t101 t109 _ ?side1 ?side2 A14.1).mono ?_);(case side1 => repeat (first|exact (Kd.c2z HO103.1).2.2|(with_reducible refine Kd.C_alloc ?_ _)|(with_reducible refine Kd.C_drewN ?_ _)|(with_reducible refine Kd.e5z ?_)));(case side2 => exact (Kd.c2z HO103.1).2.1);rintro e w23 ⟨rfl,hb⟩;refine ⟨_,rfl,?_⟩;have n0_:=a1z.mk (Kd.d3z (by (with_reducible repeat (first|apply Kd.R_alloc|apply Kd.b6z|apply Kd.b9z));exact HO103.1) hb);have n1_:=a1z.mk (Kd.d3z (by (with_reducible repeat (first|apply Kd.R_alloc|apply Kd.b6z|apply Kd.b9z));exact HO108.1) hb);have n2_:=a1z.mk (b1z (by repeat (first|(with_reducible first|exact HB.1|apply a3z|apply a0z|apply a2z)|exact HB.1)) hb);clear HO103 HO108 HB;have HO103:=n0_;have HO108:=n1_;have HB:=n2_;clear n0_ n1_ n2_;(try clear hb))|(go_at_call 13;(with_reducible refine (spec_RulesOk.calls kj2 _ _ t101 false _ ?side1 ?side2 A17.1).mono ?_);(case side1 => repeat (first|exact (Kd.c2z HO103.1).2.2|(with_reducible refine Kd.C_alloc ?_ _)|(with_reducible refine Kd.C_drewN ?_ _)|(with_reducible refine Kd.e5z ?_)));(case side2 => exact (Kd.c2z HO103.1).2.1);rintro e w24 ⟨rfl,hb⟩;have n0_:=a1z.mk (Kd.d3z (by (with_reducible repeat (first|apply Kd.R_alloc|apply Kd.b6z|apply Kd.b9z));exact HO103.1) hb);have n1_:=a1z.mk (Kd.d3z (by (with_reducible repeat (first|apply Kd.R_alloc|apply Kd.b6z|apply Kd.b9z));exact HO108.1) hb);have n2_:=a1z.mk (b1z (by repeat (first|(with_reducible first|exact HB.1|apply a3z|apply a0z|apply a2z)|exact HB.1)) hb);clear HO103 HO108 HB;have HO103:=n0_;have HO108:=n1_;have HB:=n2_;clear n0_ n1_ n2_;(try clear hb)))
        go_meet
        case rel => exact ⟨_,(false),(by first|rfl|(simp;done)|(simp [*];done)),H',⟨by have:=HJ2.1;first|omega|exact Nat.le_refl _⟩,⟨by repeat (first|(with_reducible first|exact HB.1|apply a3z|apply a0z|apply a2z)|exact HB.1)⟩⟩
      ·replace c16:=Bool.eq_false_iff.mpr c16
       subst c16
       have H1 : (laws_FnRulesText.j1 kj2 l1 true) = some r:=by rw [if_neg (show ¬ (false = true) by decide)] at H;exact H
       clear H
       have H:=H1
       clear H1
       have H':=a1z.mk H
       clear H
       go_wp2_with (first|((with_reducible refine b2z (f:=12) rfl ?_);refine c1z (some 33) rfl rfl Tryz.func12 (by kernel_rfl) rfl #[.slice Ao11 t101.length co11] rfl (by (try simp only [mA_,mC_,mN_]);first|done|rfl|(simp only [lD_,lT_];rfl)) ?_;(with_reducible refine (spec_RulesPut.calls kj2 _ _ t101 t109 _ ?side1 ?side2 A14.1).mono ?_);(case side1 => repeat (first|exact (Kd.c2z HO103.1).2.2|(with_reducible refine Kd.C_alloc ?_ _)|(with_reducible refine Kd.C_drewN ?_ _)|(with_reducible refine Kd.e5z ?_)));(case side2 => exact (Kd.c2z HO103.1).2.1);rintro e w25 ⟨rfl,hb⟩;refine ⟨_,rfl,?_⟩;have n0_:=a1z.mk (Kd.d3z (by (with_reducible repeat (first|apply Kd.R_alloc|apply Kd.b6z|apply Kd.b9z));exact HO103.1) hb);have n1_:=a1z.mk (Kd.d3z (by (with_reducible repeat (first|apply Kd.R_alloc|apply Kd.b6z|apply Kd.b9z));exact HO108.1) hb);have n2_:=a1z.mk (b1z (by repeat (first|(with_reducible first|exact HB.1|apply a3z|apply a0z|apply a2z)|exact HB.1)) hb);clear HO103 HO108 HB;have HO103:=n0_;have HO108:=n1_;have HB:=n2_;clear n0_ n1_ n2_;(try clear hb)))
       go_meet
       case rel => exact ⟨_,(true),(by first|rfl|(simp;done)|(simp [*];done)),H',⟨by have:=HJ2.1;first|omega|exact Nat.le_refl _⟩,⟨by repeat (first|(with_reducible first|exact HB.1|apply a3z|apply a0z|apply a2z)|exact HB.1)⟩⟩
     ·rw [if_neg c15] at H
      have c15b0 : (t104.toList == t109.toList) = false:=beq_eq_false_iff_ne.mpr c15
      have c15b1 : (t104.toList != t109.toList) = true:=bne_iff_ne.mpr c15
      (first|rw [c15b0]|(simp only [i64_w,i32_w];rw [c15b0])|skip)
      have H':=a1z.mk H
      clear H
      go_wp2_with (first|((with_reducible refine b2z (f:=12) rfl ?_);refine c1z (some 33) rfl rfl Tryz.func12 (by kernel_rfl) rfl #[.slice Ao11 t101.length co11] rfl (by (try simp only [mA_,mC_,mN_]);first|done|rfl|(simp only [lD_,lT_];rfl)) ?_;(with_reducible refine (spec_RulesPut.calls kj2 _ _ t101 t109 _ ?side1 ?side2 A14.1).mono ?_);(case side1 => repeat (first|exact (Kd.c2z HO103.1).2.2|(with_reducible refine Kd.C_alloc ?_ _)|(with_reducible refine Kd.C_drewN ?_ _)|(with_reducible refine Kd.e5z ?_)));(case side2 => exact (Kd.c2z HO103.1).2.1);rintro e w26 ⟨rfl,hb⟩;refine ⟨_,rfl,?_⟩;have n0_:=a1z.mk (Kd.d3z (by (with_reducible repeat (first|apply Kd.R_alloc|apply Kd.b6z|apply Kd.b9z));exact HO103.1) hb);have n1_:=a1z.mk (Kd.d3z (by (with_reducible repeat (first|apply Kd.R_alloc|apply Kd.b6z|apply Kd.b9z));exact HO108.1) hb);have n2_:=a1z.mk (b1z (by repeat (first|(with_reducible first|exact HB.1|apply a3z|apply a0z|apply a2z)|exact HB.1)) hb);clear HO103 HO108 HB;have HO103:=n0_;have HO108:=n1_;have HB:=n2_;clear n0_ n1_ n2_;(try clear hb)))
      go_meet
      case rel => exact ⟨_,(true),(by first|rfl|(simp;done)|(simp [*];done)),H',⟨by have:=HJ2.1;first|omega|exact Nat.le_refl _⟩,⟨by repeat (first|(with_reducible first|exact HB.1|apply a3z|apply a0z|apply a2z)|exact HB.1)⟩⟩
    case rest =>
     clear HC9
     try clear c1
     try clear p2
     try clear c4
     try clear c4b0
     try clear c4b1
     try clear c5
     try clear c6
     try clear c10
     try clear c11
     try clear c12
     try clear c15
     try clear c15b0
     try clear c15b1
     try clear c16
     try clear c18
     try clear p2
     obtain ⟨kq,x48_8,rfl,HA,HJ8,HB⟩:=hcut
     cases kq with
     | zero => exact absurd HA.1 (by simp [laws_FnRulesText.j1])
     | succ kj8 =>
      have H:=HA.1
      clear HA
      simp only [laws_FnRulesText.j1] at H
      by_cases c27 : x48_8 = true
      ·subst c27
       have H1 : (some false) = some r:=by rw [if_pos rfl] at H;exact H
       clear H
       have H:=H1
       clear H1
       obtain rfl:=Option.some.inj H
       go_wp2
       go_ret
       exact ⟨by first|rfl|(simp [b5z,b4z] <;> rfl)|(simp [*,b5z,b4z] <;> rfl),by repeat (first|(with_reducible first|exact HB.1|apply a3z|apply a0z|apply a2z)|exact HB.1)⟩
      ·replace c27:=Bool.eq_false_iff.mpr c27
       subst c27
       have H1 : ((spec_DrawRulesGet.f kj8 l1).bind fun t112 => ((impl_RulesGet.f kj8 t112).bind fun bt113 => ((spec_RulesGet.f kj8 t112).bind fun bt117 => (if (bt113.2 == bt117.2) = true then ((laws_ovRules.f kj8 bt113.1 bt117.1).bind fun t121 => (if t121 = true then (if bt113.2 = true then ((impl_RulesPut.f kj8 bt113.1).bind fun t122 => (some (t122.toList == t112.toList))) else (some true)) else (some false))) else (some false))))) = some r:=by rw [if_neg (show ¬ (false = true) by decide)] at H;exact H
       clear H
       have H:=H1
       clear H1
       replace H:=Option.bind_eq_some_iff.mp H
       obtain ⟨t112,A280,H⟩:=H
       replace H : ((impl_RulesGet.f kj8 t112).bind fun bt113 => ((spec_RulesGet.f kj8 t112).bind fun bt117 => (if (bt113.2 == bt117.2) = true then ((laws_ovRules.f kj8 bt113.1 bt117.1).bind fun t121 => (if t121 = true then (if bt113.2 = true then ((impl_RulesPut.f kj8 bt113.1).bind fun t122 => (some (t122.toList == t112.toList))) else (some true)) else (some false))) else (some false)))) = some r:=H
       have A28:=a1z.mk A280
       clear A280
       replace H:=Option.bind_eq_some_iff.mp H
       obtain ⟨⟨t113,t114⟩,A290,H⟩:=H
       replace H : ((spec_RulesGet.f kj8 t112).bind fun bt117 => (if (t114 == bt117.2) = true then ((laws_ovRules.f kj8 t113 bt117.1).bind fun t121 => (if t121 = true then (if t114 = true then ((impl_RulesPut.f kj8 t113).bind fun t122 => (some (t122.toList == t112.toList))) else (some true)) else (some false))) else (some false))) = some r:=H
       have A29:=a1z.mk A290
       clear A290
       replace H:=Option.bind_eq_some_iff.mp H
       obtain ⟨⟨t117,t118⟩,A300,H⟩:=H
       replace H : (if (t114 == t118) = true then ((laws_ovRules.f kj8 t113 t117).bind fun t121 => (if t121 = true then (if t114 = true then ((impl_RulesPut.f kj8 t113).bind fun t122 => (some (t122.toList == t112.toList))) else (some true)) else (some false))) else (some false)) = some r:=H
       have A30:=a1z.mk A300
       clear A300
       by_cases c31 : (t114 == t118) = true
       ·rw [if_pos c31] at H
        have c31b0 : (t114 == t118) = true:=c31
        (try (have c31b1 : decide (t114 = t118) = true:=by simpa using c31))
        (try (have c31b2 : (t114 == t118) = true:=by simpa using c31))
        clear c31
        replace H:=Option.bind_eq_some_iff.mp H
        obtain ⟨t121,A320,H⟩:=H
        replace H : (if t121 = true then (if t114 = true then ((impl_RulesPut.f kj8 t113).bind fun t122 => (some (t122.toList == t112.toList))) else (some true)) else (some false)) = some r:=H
        have A32:=a1z.mk A320
        clear A320
        by_cases c33 : t121 = true
        ·subst c33
         have H1 : (if t114 = true then ((impl_RulesPut.f kj8 t113).bind fun t122 => (some (t122.toList == t112.toList))) else (some true)) = some r:=by rw [if_pos rfl] at H;exact H
         clear H
         have H:=H1
         clear H1
         by_cases c34 : t114 = true
         ·subst c34
          have H1 : ((impl_RulesPut.f kj8 t113).bind fun t122 => (some (t122.toList == t112.toList))) = some r:=by rw [if_pos rfl] at H;exact H
          clear H
          have H:=H1
          clear H1
          replace H:=Option.bind_eq_some_iff.mp H
          obtain ⟨t122,A350,H⟩:=H
          replace H : (some (t122.toList == t112.toList)) = some r:=H
          have A35:=a1z.mk A350
          clear A350
          obtain rfl:=Option.some.inj H
          go_wp2_with (first|((with_reducible refine b2z (f:=15) rfl ?_);refine c1z (some 50) rfl rfl Tryz.func15 (by kernel_rfl) rfl #[.slice A1 l1.length c1] rfl (by (try simp only [mA_,mC_,mN_]);first|done|rfl|(simp only [lD_,lT_];rfl)) ?_;(with_reducible refine (spec_DrawRulesGet.calls kj8 _ _ l1 t112 _ ?side1 ?side2 A28.1).mono ?_);(case side1 => repeat (first|exact (Kd.C_below HR1.1 HB.1)|(with_reducible refine Kd.C_alloc ?_ _)|(with_reducible refine Kd.C_drewN ?_ _)|(with_reducible refine Kd.e5z ?_)));(case side2 => exact HC1.1);rintro e w36 ⟨rfl,hb⟩;refine ⟨_,rfl,?_⟩;have n0_:=a1z.mk (b1z (by repeat (first|(with_reducible first|exact HB.1|apply a3z|apply a0z|apply a2z)|exact HB.1)) hb);clear HB;have HB:=n0_;clear n0_;(try clear hb))|((with_reducible refine b2z (f:=6) rfl ?_);refine c1z (some 53) rfl rfl Tryz.func6 (by kernel_rfl) rfl #[.string t112] rfl (by (try simp only [mA_,mC_,mN_]);first|done|rfl|(simp only [lD_,lT_];rfl)) ?_;(with_reducible refine (impl_RulesGet.calls kj8 t112 t113 true _ ?side1 A29.1).mono ?_);(case side1 => exact (Tb.T3.below HT.out (by repeat (first|(with_reducible first|exact HB.1|apply a3z|apply a0z|apply a2z)|exact HB.1))));rintro e w37 ⟨v115,rfl,ho0,hb⟩;refine ⟨_,rfl,?_⟩;have n0_:=a1z.mk (Kd.e1z ho0 (b8z (by repeat (first|(with_reducible first|exact HB.1|apply a3z|apply a0z|apply a2z)|exact HB.1))));have n1_:=a1z.mk (b1z (by repeat (first|(with_reducible first|exact HB.1|apply a3z|apply a0z|apply a2z)|exact HB.1)) hb);clear HB;have HO116:=n0_;have HB:=n1_;clear n0_ n1_;(try clear hb);(try clear ho0))|((with_reducible refine b2z (f:=5) rfl ?_);refine c1z (some 58) rfl rfl Tryz.func5 (by kernel_rfl) rfl #[.string t112] rfl (by (try simp only [mA_,mC_,mN_]);first|done|rfl|(simp only [lD_,lT_];rfl)) ?_;(with_reducible refine (spec_RulesGet.calls kj8 t112 t117 t118 _ A30.1).mono ?_);rintro e w38 ⟨v119,rfl,ho0,hb⟩;refine ⟨_,rfl,?_⟩;have n0_:=a1z.mk (Kd.f8z (by (with_reducible repeat (first|apply Kd.R_alloc|apply Kd.b6z|apply Kd.b9z));exact HO116.1) (Kd.g3z ho0) hb);have n1_:=a1z.mk (Kd.e1z (Kd.g2z ho0 (Kd.R_lt (by (with_reducible repeat (first|apply Kd.R_alloc|apply Kd.b6z|apply Kd.b9z));exact HO116.1))) (b8z (by repeat (first|(with_reducible first|exact HB.1|apply a3z|apply a0z|apply a2z)|exact HB.1))));have n2_:=a1z.mk (b1z (by repeat (first|(with_reducible first|exact HB.1|apply a3z|apply a0z|apply a2z)|exact HB.1)) hb);clear HO116 HB;have HO116:=n0_;have HO120:=n1_;have HB:=n2_;clear n0_ n1_ n2_;(try clear hb);(try clear ho0);obtain ⟨Ao39,co39,eo39⟩:=Kd.e0z HO116.1;subst eo39;obtain ⟨Ao40,co40,eo40⟩:=Kd.e0z HO120.1;subst eo40)|(go_at_call 14;(with_reducible refine (laws_ovRules.calls kj8 _ _ t113 _ _ t117 true _ ?side1 ?side2 ?side3 ?side4 A32.1).mono ?_);(case side1 => repeat (first|exact (Kd.c2z HO116.1).2.2|(with_reducible refine Kd.C_alloc ?_ _)|(with_reducible refine Kd.C_drewN ?_ _)|(with_reducible refine Kd.e5z ?_)));(case side2 => exact (Kd.c2z HO116.1).2.1);(case side3 => repeat (first|exact (Kd.c2z HO120.1).2.2|(with_reducible refine Kd.C_alloc ?_ _)|(with_reducible refine Kd.C_drewN ?_ _)|(with_reducible refine Kd.e5z ?_)));(case side4 => exact (Kd.c2z HO120.1).2.1);rintro e w' ⟨rfl,⟨nd,rfl⟩⟩)|(go_at_call 11;(with_reducible refine (impl_RulesPut.calls kj8 _ _ t113 t122 _ ?side1 ?side2 ?side3 A35.1).mono ?_);(case side1 => exact Tb.T1.of <| Tb.T2.of (Tb.T3.below HT.out (by repeat (first|(with_reducible first|exact HB.1|apply a3z|apply a0z|apply a2z)|exact HB.1))));(case side2 => repeat (first|exact (Kd.c2z HO116.1).2.2|(with_reducible refine Kd.C_alloc ?_ _)|(with_reducible refine Kd.C_drewN ?_ _)|(with_reducible refine Kd.e5z ?_)));(case side3 => exact (Kd.c2z HO116.1).2.1);rintro e w41 ⟨rfl,hb⟩;have n0_:=a1z.mk (Kd.d3z (by (with_reducible repeat (first|apply Kd.R_alloc|apply Kd.b6z|apply Kd.b9z));exact HO116.1) hb);have n1_:=a1z.mk (Kd.d3z (by (with_reducible repeat (first|apply Kd.R_alloc|apply Kd.b6z|apply Kd.b9z));exact HO120.1) hb);have n2_:=a1z.mk (b1z (by repeat (first|(with_reducible first|exact HB.1|apply a3z|apply a0z|apply a2z)|exact HB.1)) hb);clear HO116 HO120 HB;have HO116:=n0_;have HO120:=n1_;have HB:=n2_;clear n0_ n1_ n2_;(try clear hb)))
          go_ret
          exact ⟨by first|rfl|(simp [b5z,b4z] <;> rfl)|(simp [*,b5z,b4z] <;> rfl),by repeat (first|(with_reducible first|exact HB.1|apply a3z|apply a0z|apply a2z)|exact HB.1)⟩
         ·replace c34:=Bool.eq_false_iff.mpr c34
          subst c34
          have H1 : (some true) = some r:=by rw [if_neg (show ¬ (false = true) by decide)] at H;exact H
          clear H
          have H:=H1
          clear H1
          obtain rfl:=Option.some.inj H
          go_wp2_with (first|((with_reducible refine b2z (f:=15) rfl ?_);refine c1z (some 50) rfl rfl Tryz.func15 (by kernel_rfl) rfl #[.slice A1 l1.length c1] rfl (by (try simp only [mA_,mC_,mN_]);first|done|rfl|(simp only [lD_,lT_];rfl)) ?_;(with_reducible refine (spec_DrawRulesGet.calls kj8 _ _ l1 t112 _ ?side1 ?side2 A28.1).mono ?_);(case side1 => repeat (first|exact (Kd.C_below HR1.1 HB.1)|(with_reducible refine Kd.C_alloc ?_ _)|(with_reducible refine Kd.C_drewN ?_ _)|(with_reducible refine Kd.e5z ?_)));(case side2 => exact HC1.1);rintro e w42 ⟨rfl,hb⟩;refine ⟨_,rfl,?_⟩;have n0_:=a1z.mk (b1z (by repeat (first|(with_reducible first|exact HB.1|apply a3z|apply a0z|apply a2z)|exact HB.1)) hb);clear HB;have HB:=n0_;clear n0_;(try clear hb))|((with_reducible refine b2z (f:=6) rfl ?_);refine c1z (some 53) rfl rfl Tryz.func6 (by kernel_rfl) rfl #[.string t112] rfl (by (try simp only [mA_,mC_,mN_]);first|done|rfl|(simp only [lD_,lT_];rfl)) ?_;(with_reducible refine (impl_RulesGet.calls kj8 t112 t113 false _ ?side1 A29.1).mono ?_);(case side1 => exact (Tb.T3.below HT.out (by repeat (first|(with_reducible first|exact HB.1|apply a3z|apply a0z|apply a2z)|exact HB.1))));rintro e w43 ⟨v115,rfl,ho0,hb⟩;refine ⟨_,rfl,?_⟩;have n0_:=a1z.mk (Kd.e1z ho0 (b8z (by repeat (first|(with_reducible first|exact HB.1|apply a3z|apply a0z|apply a2z)|exact HB.1))));have n1_:=a1z.mk (b1z (by repeat (first|(with_reducible first|exact HB.1|apply a3z|apply a0z|apply a2z)|exact HB.1)) hb);clear HB;have HO116:=n0_;have HB:=n1_;clear n0_ n1_;(try clear hb);(try clear ho0))|((with_reducible refine b2z (f:=5) rfl ?_);refine c1z (some 58) rfl rfl Tryz.func5 (by kernel_rfl) rfl #[.string t112] rfl (by (try simp only [mA_,mC_,mN_]);first|done|rfl|(simp only [lD_,lT_];rfl)) ?_;(with_reducible refine (spec_RulesGet.calls kj8 t112 t117 t118 _ A30.1).mono ?_);rintro e w44 ⟨v119,rfl,ho0,hb⟩;refine ⟨_,rfl,?_⟩;have n0_:=a1z.mk (Kd.f8z (by (with_reducible repeat (first|apply Kd.R_alloc|apply Kd.b6z|apply Kd.b9z));exact HO116.1) (Kd.g3z ho0) hb);have n1_:=a1z.mk (Kd.e1z (Kd.g2z ho0 (Kd.R_lt (by (with_reducible repeat (first|apply Kd.R_alloc|apply Kd.b6z|apply Kd.b9z));exact HO116.1))) (b8z (by repeat (first|(with_reducible first|exact HB.1|apply a3z|apply a0z|apply a2z)|exact HB.1))));have n2_:=a1z.mk (b1z (by repeat (first|(with_reducible first|exact HB.1|apply a3z|apply a0z|apply a2z)|exact HB.1)) hb);clear HO116 HB;have HO116:=n0_;have HO120:=n1_;have HB:=n2_;clear n0_ n1_ n2_;(try clear hb);(try clear ho0);obtain ⟨Ao45,co45,eo45⟩:=Kd.e0z HO116.1;subst eo45;obtain ⟨Ao46,co46,eo46⟩:=Kd.e0z HO120.1;subst eo46)|(go_at_call 14;(with_reducible refine (laws_ovRules.calls kj8 _ _ t113 _ _ t117 true _ ?side1 ?side2 ?side3 ?side4 A32.1).mono ?_);(case side1 => repeat (first|exact (Kd.c2z HO116.1).2.2|(with_reducible refine Kd.C_alloc ?_ _)|(with_reducible refine Kd.C_drewN ?_ _)|(with_reducible refine Kd.e5z ?_)));(case side2 => exact (Kd.c2z HO116.1).2.1);(case side3 => repeat (first|exact (Kd.c2z HO120.1).2.2|(with_reducible refine Kd.C_alloc ?_ _)|(with_reducible refine Kd.C_drewN ?_ _)|(with_reducible refine Kd.e5z ?_)));(case side4 => exact (Kd.c2z HO120.1).2.1);rintro e w' ⟨rfl,⟨nd,rfl⟩⟩))
          go_ret
          exact ⟨by first|rfl|(simp [b5z,b4z] <;> rfl)|(simp [*,b5z,b4z] <;> rfl),by repeat (first|(with_reducible first|exact HB.1|apply a3z|apply a0z|apply a2z)|exact HB.1)⟩
        ·replace c33:=Bool.eq_false_iff.mpr c33
         subst c33
         have H1 : (some false) = some r:=by rw [if_neg (show ¬ (false = true) by decide)] at H;exact H
         clear H
         have H:=H1
         clear H1
         obtain rfl:=Option.some.inj H
         go_wp2_with (first|((with_reducible refine b2z (f:=15) rfl ?_);refine c1z (some 50) rfl rfl Tryz.func15 (by kernel_rfl) rfl #[.slice A1 l1.length c1] rfl (by (try simp only [mA_,mC_,mN_]);first|done|rfl|(simp only [lD_,lT_];rfl)) ?_;(with_reducible refine (spec_DrawRulesGet.calls kj8 _ _ l1 t112 _ ?side1 ?side2 A28.1).mono ?_);(case side1 => repeat (first|exact (Kd.C_below HR1.1 HB.1)|(with_reducible refine Kd.C_alloc ?_ _)|(with_reducible refine Kd.C_drewN ?_ _)|(with_reducible refine Kd.e5z ?_)));(case side2 => exact HC1.1);rintro e w47 ⟨rfl,hb⟩;refine ⟨_,rfl,?_⟩;have n0_:=a1z.mk (b1z (by repeat (first|(with_reducible first|exact HB.1|apply a3z|apply a0z|apply a2z)|exact HB.1)) hb);clear HB;have HB:=n0_;clear n0_;(try clear hb))|((with_reducible refine b2z (f:=6) rfl ?_);refine c1z (some 53) rfl rfl Tryz.func6 (by kernel_rfl) rfl #[.string t112] rfl (by (try simp only [mA_,mC_,mN_]);first|done|rfl|(simp only [lD_,lT_];rfl)) ?_;(with_reducible refine (impl_RulesGet.calls kj8 t112 t113 t114 _ ?side1 A29.1).mono ?_);(case side1 => exact (Tb.T3.below HT.out (by repeat (first|(with_reducible first|exact HB.1|apply a3z|apply a0z|apply a2z)|exact HB.1))));rintro e w48 ⟨v115,rfl,ho0,hb⟩;refine ⟨_,rfl,?_⟩;have n0_:=a1z.mk (Kd.e1z ho0 (b8z (by repeat (first|(with_reducible first|exact HB.1|apply a3z|apply a0z|apply a2z)|exact HB.1))));have n1_:=a1z.mk (b1z (by repeat (first|(with_reducible first|exact HB.1|apply a3z|apply a0z|apply a2z)|exact HB.1)) hb);clear HB;have HO116:=n0_;have HB:=n1_;clear n0_ n1_;(try clear hb);(try clear ho0))|((with_reducible refine b2z (f:=5) rfl ?_);refine c1z (some 58) rfl rfl Tryz.func5 (by kernel_rfl) rfl #[.string t112] rfl (by (try simp only [mA_,mC_,mN_]);first|done|rfl|(simp only [lD_,lT_];rfl)) ?_;(with_reducible refine (spec_RulesGet.calls kj8 t112 t117 t118 _ A30.1).mono ?_);rintro e w49 ⟨v119,rfl,ho0,hb⟩;refine ⟨_,rfl,?_⟩;have n0_:=a1z.mk (Kd.f8z (by (with_reducible repeat (first|apply Kd.R_alloc|apply Kd.b6z|apply Kd.b9z));exact HO116.1) (Kd.g3z ho0) hb);have n1_:=a1z.mk (Kd.e1z (Kd.g2z ho0 (Kd.R_lt (by (with_reducible repeat (first|apply Kd.R_alloc|apply Kd.b6z|apply Kd.b9z));exact HO116.1))) (b8z (by repeat (first|(with_reducible first|exact HB.1|apply a3z|apply a0z|apply a2z)|exact HB.1))));have n2_:=a1z.mk (b1z (by repeat (first|(with_reducible first|exact HB.1|apply a3z|apply a0z|apply a2z)|exact HB.1)) hb);clear HO116 HB;have HO116:=n0_;have HO120:=n1_;have HB:=n2_;clear n0_ n1_ n2_;(try clear hb);(try clear ho0);obtain ⟨Ao50,co50,eo50⟩:=Kd.e0z HO116.1;subst eo50;obtain ⟨Ao51,co51,eo51⟩:=Kd.e0z HO120.1;subst eo51)|(go_at_call 14;(with_reducible refine (laws_ovRules.calls kj8 _ _ t113 _ _ t117 false _ ?side1 ?side2 ?side3 ?side4 A32.1).mono ?_);(case side1 => repeat (first|exact (Kd.c2z HO116.1).2.2|(with_reducible refine Kd.C_alloc ?_ _)|(with_reducible refine Kd.C_drewN ?_ _)|(with_reducible refine Kd.e5z ?_)));(case side2 => exact (Kd.c2z HO116.1).2.1);(case side3 => repeat (first|exact (Kd.c2z HO120.1).2.2|(with_reducible refine Kd.C_alloc ?_ _)|(with_reducible refine Kd.C_drewN ?_ _)|(with_reducible refine Kd.e5z ?_)));(case side4 => exact (Kd.c2z HO120.1).2.1);rintro e w' ⟨rfl,⟨nd,rfl⟩⟩))
         go_ret
         exact ⟨by first|rfl|(simp [b5z,b4z] <;> rfl)|(simp [*,b5z,b4z] <;> rfl),by repeat (first|(with_reducible first|exact HB.1|apply a3z|apply a0z|apply a2z)|exact HB.1)⟩
       ·rw [if_neg c31] at H
        have c31b0 : (t114 == t118) = false:=by simpa using c31
        (try (have c31b1 : decide (t114 = t118) = false:=by simpa using c31))
        (try (have c31b2 : (t114 == t118) = false:=by simpa using c31))
        (try (have c31b3 : ¬ (t114 = t118):=by simpa using c31))
        clear c31
        obtain rfl:=Option.some.inj H
        go_wp2_with (first|((with_reducible refine b2z (f:=15) rfl ?_);refine c1z (some 50) rfl rfl Tryz.func15 (by kernel_rfl) rfl #[.slice A1 l1.length c1] rfl (by (try simp only [mA_,mC_,mN_]);first|done|rfl|(simp only [lD_,lT_];rfl)) ?_;(with_reducible refine (spec_DrawRulesGet.calls kj8 _ _ l1 t112 _ ?side1 ?side2 A28.1).mono ?_);(case side1 => repeat (first|exact (Kd.C_below HR1.1 HB.1)|(with_reducible refine Kd.C_alloc ?_ _)|(with_reducible refine Kd.C_drewN ?_ _)|(with_reducible refine Kd.e5z ?_)));(case side2 => exact HC1.1);rintro e w52 ⟨rfl,hb⟩;refine ⟨_,rfl,?_⟩;have n0_:=a1z.mk (b1z (by repeat (first|(with_reducible first|exact HB.1|apply a3z|apply a0z|apply a2z)|exact HB.1)) hb);clear HB;have HB:=n0_;clear n0_;(try clear hb))|((with_reducible refine b2z (f:=6) rfl ?_);refine c1z (some 53) rfl rfl Tryz.func6 (by kernel_rfl) rfl #[.string t112] rfl (by (try simp only [mA_,mC_,mN_]);first|done|rfl|(simp only [lD_,lT_];rfl)) ?_;(with_reducible refine (impl_RulesGet.calls kj8 t112 t113 t114 _ ?side1 A29.1).mono ?_);(case side1 => exact (Tb.T3.below HT.out (by repeat (first|(with_reducible first|exact HB.1|apply a3z|apply a0z|apply a2z)|exact HB.1))));rintro e w53 ⟨v115,rfl,ho0,hb⟩;refine ⟨_,rfl,?_⟩;have n0_:=a1z.mk (Kd.e1z ho0 (b8z (by repeat (first|(with_reducible first|exact HB.1|apply a3z|apply a0z|apply a2z)|exact HB.1))));have n1_:=a1z.mk (b1z (by repeat (first|(with_reducible first|exact HB.1|apply a3z|apply a0z|apply a2z)|exact HB.1)) hb);clear HB;have HO116:=n0_;have HB:=n1_;clear n0_ n1_;(try clear hb);(try clear ho0))|((with_reducible refine b2z (f:=5) rfl ?_);refine c1z (some 58) rfl rfl Tryz.func5 (by kernel_rfl) rfl #[.string t112] rfl (by (try simp only [mA_,mC_,mN_]);first|done|rfl|(simp only [lD_,lT_];rfl)) ?_;(with_reducible refine (spec_RulesGet.calls kj8 t112 t117 t118 _ A30.1).mono ?_);rintro e w54 ⟨v119,rfl,ho0,hb⟩;refine ⟨_,rfl,?_⟩;have n0_:=a1z.mk (Kd.f8z (by (with_reducible repeat (first|apply Kd.R_alloc|apply Kd.b6z|apply Kd.b9z));exact HO116.1) (Kd.g3z ho0) hb);have n1_:=a1z.mk (Kd.e1z (Kd.g2z ho0 (Kd.R_lt (by (with_reducible repeat (first|apply Kd.R_alloc|apply Kd.b6z|apply Kd.b9z));exact HO116.1))) (b8z (by repeat (first|(with_reducible first|exact HB.1|apply a3z|apply a0z|apply a2z)|exact HB.1))));have n2_:=a1z.mk (b1z (by repeat (first|(with_reducible first|exact HB.1|apply a3z|apply a0z|apply a2z)|exact HB.1)) hb);clear HO116 HB;have HO116:=n0_;have HO120:=n1_;have HB:=n2_;clear n0_ n1_ n2_;(try clear hb);(try clear ho0)))
        go_ret
        exact ⟨by first|rfl|(simp [b5z,b4z] <;> rfl)|(simp [*,b5z,b4z] <;> rfl),by repeat (first|(with_reducible first|exact HB.1|apply a3z|apply a0z|apply a2z)|exact HB.1)⟩
end Go.Proofs.YtgbdnbbfgcogjaaGreatDoor.Q

namespace Go.Proofs.YtgbdnbbfgcogjaaGreatDoor.Open
open Go.RowKit Go.ChangeShapes Go.WideShapes Go.Deep Go.Proofs.YtgbdnbbfgcogjaaGreatDoorW.PrintWords
/-- A number fits its kind. -/
def Fits (k : IntKind) (n : Int) : Prop:=(Lit.int k n).wf = true
/-- What the cells of a type say. -/
def Opens (P : Program) (w : World) (t : TypeId) {α : Type} (d : Kd α) (p : α → Prop) : Prop :=
 ∀ (H : Type) (enc : TypeId × Value → H) (base : Nat) (spare : Nat → Bool) (held : Bool) (fuel : Nat) (cs : List Value) (x : DataW H × List MemPlace),
  DataW.trod enc P w base spare held fuel t cs = some x → ∃ a,d.K w a cs ∧ p a
theorem opens_int {P : Program} {w : World} {t : TypeId} {k : IntKind} (ht : P.underlying t = some (.int k)) : Opens P w t (Kd.int k) (fun n => Fits k n):=by
 intro H enc base spare held fuel cs x h
 obtain ⟨n,rfl,_,hw⟩:=DataW.trod_int ht h
 exact ⟨n,rfl,hw⟩
theorem pick {α : Type} (n : Nat) (R : Nat → α → Prop) (h : ∀ i,i < n → ∃ a,R i a) : ∃ xs : List α,xs.length = n ∧ ∀ i a,xs[i]? = some a → R i a:=by
 induction n with
 | zero => exact ⟨[],rfl,fun i a e => by simp at e⟩
 | succ n ih =>
  obtain ⟨xs,hl,hx⟩:=ih (fun i hi => h i (by omega))
  obtain ⟨a,ha⟩:=h n (by omega)
  refine ⟨xs ++ [a],by simp [hl],fun i b e => ?_⟩
  rcases Nat.lt_or_ge i xs.length with hi|hi
  ·rw [List.getElem?_append_left hi] at e
   exact hx i b e
  ·have hlt:=(List.getElem?_eq_some_iff.1 e).1
   rw [List.length_append,List.length_singleton] at hlt
   obtain rfl : i = xs.length:=by omega
   simp at e
   subst e
   rw [hl]
   exact ha
theorem opens_slice {P : Program} {w : World} {t e : TypeId} {α : Type} {d : Kd α} {p : α → Prop} (ht : P.underlying t = some (.slice e)) (hc : P.cellsOf e = d.sz) (he : Opens P w e d p) :
  Opens P w t (Kd.slice e d) (fun xs => xs.length ≤ 9223372036854775807 ∧ ∀ y ∈ xs,p y):=by
 intro H enc base spare held fuel cs x h
 rcases open_slice ht h with ⟨rfl,_⟩|⟨a,len,cap,m,n,D,Pl,rfl,_,hl,hm,hmm,_,hi⟩
 ·exact ⟨[],⟨none,0,rfl,by simp,by simp,by simp,fun hn => by simp at hn⟩,by simp,by simp⟩
 ·have hle : len ≤ m:=by rw [hmm];split <;> omega
  obtain ⟨xs,hxl,hx⟩:=pick len (fun i y => p y ∧ ∃ c,c.length = d.sz ∧ d.K w y c ∧ ∀ j u,c[j]? = some u → w.cell? (a.add (i * d.sz + j)) = some u) (fun i hil => by
   obtain ⟨cs',h1,h2⟩:=hi i (by omega)
   obtain ⟨y,hK,hp⟩:=he _ _ _ _ _ _ _ _ h2
   obtain ⟨_,hcl,hat⟩:=World.cells?_some h1
   rw [hc] at hcl hat
   refine ⟨y,hp,cs',hcl,hK,fun j u hu => ?_⟩
   have hj:=(List.getElem?_eq_some_iff.1 hu).1
   rw [← Go.Deep.add_add,hat j (by omega),hu])
  have hmx : maxLen = 9223372036854775807:=rfl
  refine ⟨xs,⟨some a,cap,by rw [hxl],by omega,?_⟩,by omega,fun y hy => ?_⟩
  ·refine ⟨rfl,by omega,fun _ => ⟨a,rfl,fun j q hj => ?_⟩⟩
   obtain ⟨_,c,h1,h2,h3⟩:=hx j q hj
   exact ⟨c,h1,h2,h3⟩
  ·obtain ⟨i,hi2⟩:=List.getElem?_of_mem hy
   exact (hx i y hi2).1
theorem open_arg {H : Type} {enc : TypeId × Value → H} {P : Program} {w : World} {base : Nat} {spare : Nat → Bool} {held : Bool} {t : TypeId} {α : Type} {d : Kd α} {p : α → Prop} {v : Value} {dt : DataW H} {ps : List MemPlace} (he : Opens P w t d p)
  (h : DataW.Trod enc P w base spare held t v dt ps) : ∃ a,d.K w a v.cells.toList ∧ p a:=by
 obtain ⟨fuel,hf⟩:=h
 exact he _ _ _ _ _ _ _ _ hf
theorem slice_of_cells {a A : Option Addr} {len cap n c : Nat} (h : (Value.slice a len cap).cells.toList = [.slice A n c]) : A = a ∧ len = n ∧ c = cap:=by
 simp only [Value.cells,List.cons.injEq,Value.slice.injEq,and_true] at h
 exact ⟨h.1.symm,h.2.1,h.2.2.symm⟩
end Go.Proofs.YtgbdnbbfgcogjaaGreatDoor.Open

namespace Go.Proofs.YtgbdnbbfgcogjaaGreatDoor.Q
open Go.RowKit Go.Proofs.YtgbdnbbfgcogjaaGreatDoorW.PrintWords Go.Proofs.YtgbdnbbfgcogjaaGreatDoor.Open
theorem op5 (w : World) : Opens Tryz.prog w 5 (Kd.int .u8) (fun x => Open.Fits .u8 x):=opens_int Tryz.underlying5
theorem op28 (w : World) : Opens Tryz.prog w 28 (Kd.slice 5 (Kd.int .u8)) (fun x => (x.length ≤ 9223372036854775807 ∧ ∀ y ∈ x,Open.Fits .u8 y)):=opens_slice Tryz.underlying28 (by kernel_rfl) (op5 w)
end Go.Proofs.YtgbdnbbfgcogjaaGreatDoor.Q

namespace Go.Proofs.YtgbdnbbfgcogjaaGreatDoor.Q
open Go.Proofs.YtgbdnbbfgcogjaaGreatDoor.Open
/-- The pure statement of laws_FnRulesText. -/
def laws_FnRulesText.Pure : Prop:=∀ (x0 : List Int) (x1 : List Int),((x0.length ≤ 9223372036854775807 ∧ ∀ y ∈ x0,Open.Fits .u8 y)) → ((x1.length ≤ 9223372036854775807 ∧ ∀ y ∈ x1,Open.Fits .u8 y)) → ∃ k,laws_FnRulesText.f k x0 x1 = some true
end Go.Proofs.YtgbdnbbfgcogjaaGreatDoor.Q

namespace Go.Proofs.YtgbdnbbfgcogjaaGreatDoor.Pure
set_option linter.unusedSimpArgs false
open Go.RowKit Go.Proofs.YtgbdnbbfgcogjaaGreatDoor.Q Go.Proofs.YtgbdnbbfgcogjaaGreatDoorW.PrintWords Go.Proofs.YtgbdnbbfgcogjaaGreatDoorW.PrintLast Go.Proofs.YtgbdnbbfgcogjaaGreatDoorW.PrintMore
/-- A rule is valid. -/
def rok (r : S39) : Bool:=bok r.f2.f0 r.f2.f1 && (bok r.f3.f0 r.f3.f1 && (decide (0 ≤ r.f4 ∧ r.f4 ≤ r.f5) && (decide (r.f5 ≤ 65535) && (decide (0 ≤ r.f0 ∧ r.f0 ≤ 2) && (decide (r.f1 = 0) || (decide (r.f0 = 2) && decide (0 ≤ r.f1 ∧ r.f1 ≤ 3)))))))
theorem l4Ok_ev (r : S39) {k : Nat} (hk : 41 ≤ k) : spec_l4Ok.f k r.f0 r.f1 r.f2.f0 r.f2.f1 r.f3.f0 r.f3.f1 r.f4 r.f5 = some (rok r):=by
 obtain ⟨k,rfl⟩ : ∃ m,k = m + 1:=⟨k - 1,by omega⟩
 unfold spec_l4Ok.f rok
 simp only [spec_l4Ok.j0,ok_spec _ _ (show 40 ≤ k + 1 by omega),in_spec,Option.bind_some]
 cases bok r.f2.f0 r.f2.f1
 ·simp
 ·cases bok r.f3.f0 r.f3.f1
  ·simp
  ·by_cases h4 : 0 ≤ r.f4 ∧ r.f4 ≤ r.f5
   ·by_cases h5 : r.f5 ≤ 65535
    ·by_cases h0 : 0 ≤ r.f0 ∧ r.f0 ≤ 2
     ·by_cases h2 : r.f0 = 2
      ·have e : (0 ≤ r.f1 ∧ r.f1 ≤ 3) ↔ (r.f1 = 0 ∨ (0 ≤ r.f1 ∧ r.f1 ≤ 3)):=by omega
       simp [h4,h0,h2,show ¬ r.f5 > 65535 by omega,h5]
       omega
      ·simp [h4,h0,h2,show ¬ r.f5 > 65535 by omega,h5]
       first|rfl|(rw [Bool.eq_iff_iff];simp)
     ·simp [h4,h0,show ¬ r.f5 > 65535 by omega,h5]
    ·simp [h4,show r.f5 > 65535 by omega,h5]
   ·simp [h4]
theorem right_ev (r : S39) {k : Nat} (hk : 1 ≤ k) : impl_Rule_right.f k r.f0 r.f1 r.f2.f0 r.f2.f1 r.f3.f0 r.f3.f1 r.f4 r.f5 = some (rok r):=by
 obtain ⟨k,rfl⟩ : ∃ m,k = m + 1:=⟨k - 1,by omega⟩
 unfold impl_Rule_right.f rok
 simp only [impl_Rule_right.j0,ok_impl,in_impl,Option.bind_some]
 cases bok r.f2.f0 r.f2.f1
 ·simp
 ·cases bok r.f3.f0 r.f3.f1
  ·simp
  ·by_cases h4 : 0 ≤ r.f4 ∧ r.f4 ≤ r.f5
   ·by_cases h5 : r.f5 ≤ 65535
    ·by_cases h0 : 0 ≤ r.f0 ∧ r.f0 ≤ 2
     ·by_cases h1 : r.f1 = 0
      ·simp [h4,h0,h1,h5]
      ·by_cases h2 : r.f0 = 2
       ·simp [h4,h0,h1,h2,h5]
       ·simp [h4,h0,h1,h2,h5]
     ·simp [h4,h0,h5]
    ·simp [h4,h5]
   ·simp [h4]
theorem rdR (l : List S39) (i : Nat) : a6z l (i : Int) = l.getD i z39:=rfl
/-- Rules are valid. -/
def rsok (l : List S39) : Bool:=if (List.range l.length).all (fun i => rok (l.getD i z39)) then decide ((l.length : Int) ≤ 8) else false
theorem h7z {l : List S39} {k : Nat} (hl : l.length ≤ 1048577) (hk : l.length + 50 < k) : spec_RulesOk.f k l = some (rsok l):=by
 unfold spec_RulesOk.f rsok
 refine scan_loop (fun k i => spec_RulesOk.l0 k l i) l.length 50 (fun i => rok (l.getD i z39)) false _ ?_ ?_ ?_ k hk
 ·intro k i hi hk _ hg
  simp only [spec_RulesOk.l0]
  rw [if_pos (by omega),if_pos (by omega),rdR,l4Ok_ev _ (by omega),Option.bind_some,if_pos hg,w64 (by omega) (by omega)]
  rfl
 ·intro k i hi hk _ hg
  simp only [spec_RulesOk.l0]
  rw [if_pos (by omega),if_pos (by omega),rdR,l4Ok_ev _ (by omega),Option.bind_some,if_neg (by rw [hg];simp)]
 ·intro k _
  simp only [spec_RulesOk.l0]
  rw [if_neg (by omega)]
theorem idxFunc_ev {l : List S39} (hl : l.length ≤ 1048577) : ∃ v,(∀ k,l.length + 50 < k → slices_IndexFunc_Rule.f k l = some v) ∧ ((0 ≤ v) ↔ ¬ ∀ i,i < l.length → rok (l.getD i z39) = true):=by
 have key : ∀ (e i : Nat),l.length - i = e → i ≤ l.length → ∃ v,(∀ k,e + 50 < k → slices_IndexFunc_Rule.l0 k l (l.length : Int) (i : Int) = some v) ∧ ((0 ≤ v) ↔ ¬ ∀ j,i ≤ j → j < l.length → rok (l.getD j z39) = true):=by
  intro e
  induction e with
  | zero =>
   intro i he hi
   refine ⟨-1,fun k hk => ?_,?_⟩
   ·obtain ⟨k,rfl⟩ : ∃ m,k = m + 1:=⟨k - 1,by omega⟩
    simp only [slices_IndexFunc_Rule.l0]
    rw [if_neg (by omega)]
   ·constructor
    ·intro h;omega
    ·intro h;exact absurd (fun j h1 h2 => by omega) h
  | succ e ih =>
   intro i he hi
   have ew : wrap64 ((i : Int) + 1) = ((i + 1 : Nat) : Int):=by rw [w64 (by omega) (by omega)];rfl
   cases hr : rok (l.getD i z39) with
   | true =>
    obtain ⟨v,hv,hi2⟩:=ih (i + 1) (by omega) (by omega)
    refine ⟨v,fun k hk => ?_,?_⟩
    ·obtain ⟨k,rfl⟩ : ∃ m,k = m + 1:=⟨k - 1,by omega⟩
     simp only [slices_IndexFunc_Rule.l0,impl_RulesOk_1.f]
     rw [if_pos (by omega),if_pos (by omega),if_pos (by omega),rdR,right_ev _ (by omega),Option.bind_some,Option.bind_some,hr,if_neg (by simp),ew]
     exact hv k (by omega)
    ·rw [hi2]
     constructor
     ·intro h hall;exact h (fun j h1 h2 => hall j (by omega) h2)
     ·intro h hall
      refine h (fun j h1 h2 => ?_)
      by_cases hj : j = i
      ·rw [hj];exact hr
      ·exact hall j (by omega) h2
   | false =>
    refine ⟨(i : Int),fun k hk => ?_,?_⟩
    ·obtain ⟨k,rfl⟩ : ∃ m,k = m + 1:=⟨k - 1,by omega⟩
     simp only [slices_IndexFunc_Rule.l0,impl_RulesOk_1.f]
     rw [if_pos (by omega),if_pos (by omega),if_pos (by omega),rdR,right_ev _ (by omega),Option.bind_some,Option.bind_some,hr,if_pos (by simp)]
    ·constructor
     ·intro _ hall
      have:=hall i (Nat.le_refl _) (by omega)
      rw [hr] at this
      exact absurd this (by simp)
     ·intro _;omega
 obtain ⟨v,hv,h2⟩:=key l.length 0 (by omega) (by omega)
 refine ⟨v,fun k hk => hv k hk,?_⟩
 rw [h2]
 constructor
 ·intro h hall;exact h (fun j _ h2 => hall j h2)
 ·intro h hall;exact h (fun j h2 => hall j (by omega) h2)
theorem rulesOk_impl {l : List S39} {k : Nat} (hl : l.length ≤ 1048577) (hk : l.length + 50 < k) : impl_RulesOk.f k l = some (rsok l):=by
 obtain ⟨v,hv,h2⟩:=idxFunc_ev hl
 unfold impl_RulesOk.f rsok slices_ContainsFunc_Rule.f
 rw [hv k hk]
 by_cases h8 : (l.length : Int) ≤ 8
 ·rw [if_pos h8,Option.bind_some,Option.bind_some]
  congr 1
  by_cases hall : ∀ i,i < l.length → rok (l.getD i z39) = true
  ·rw [if_pos (by rw [List.all_eq_true];exact fun x hx => hall x (List.mem_range.1 hx))]
   have : ¬ 0 ≤ v:=fun h => h2.1 h hall
   simp [h8]
   omega
  ·rw [if_neg (by rw [List.all_eq_true];exact fun h => hall (fun i hi => h i (List.mem_range.2 hi)))]
   have:=h2.2 hall
   simp
   omega
 ·rw [if_neg h8]
  congr 1
  simp [h8]
end Go.Proofs.YtgbdnbbfgcogjaaGreatDoor.Pure

namespace Go.Proofs.YtgbdnbbfgcogjaaGreatDoor.Tx
set_option linter.unusedSimpArgs false
set_option linter.unusedVariables false
open Go.RowKit Go.Proofs.YtgbdnbbfgcogjaaGreatDoor.Q Go.Proofs.YtgbdnbbfgcogjaaGreatDoor.Pure Go.Proofs.YtgbdnbbfgcogjaaGreatDoorW.PrintWords Go.Proofs.YtgbdnbbfgcogjaaGreatDoorW.PrintLast Go.Proofs.YtgbdnbbfgcogjaaGreatDoorW.PrintMore
theorem blockT_len2 {a b : Nat} (ha : a < 4294967296) (hb : b < 1000) : (blockT a b).length ≤ 20:=by
 have h1:=addrT_len ha
 have h2:=h1z 2 b (by simpa using hb)
 simp only [blockT,List.length_append,List.length_singleton]
 omega
theorem itoa_nat {n : Nat} (h : n < 1000000000) : strconv_Itoa.f (n : Int) = some (bs (dec n)):=by
 unfold strconv_Itoa.f
 rw [if_pos (by omega)]
 unfold Lib.itoa
 rw [if_neg (by omega),Int.toNat_natCast]
 rfl
theorem itoa_int {n : Int} (h0 : 0 ≤ n) (h : n < 1000000000) : strconv_Itoa.f n = some (bs (dec n.toNat)):=by
 have e:=itoa_nat (n:=n.toNat) (by omega)
 rwa [show ((n.toNat : Nat) : Int) = n by omega] at e
theorem l1Dec_int {n : Int} (h0 : 0 ≤ n) (h : n ≤ 65535) {k : Nat} (hk : 5 ≤ k) : spec_l1Dec.f k n = some (bs (dec n.toNat)):=by
 have e:=l1Dec_ev 4 n.toNat (by show n.toNat < 100000;omega) (by omega) k (by omega)
 rwa [show ((n.toNat : Nat) : Int) = n by omega] at e
theorem l1Block_int {a b : Int} (h : bok a b = true) {k : Nat} (hk : 3 ≤ k) : spec_l1Block.f k a b = some (bs (blockT a.toNat b.toNat)):=by
 obtain ⟨h0,h1,h2,h3,_⟩:=bok_iff.1 h
 have e:=l1Block_ev (a:=a.toNat) (b:=b.toNat) (by omega) (by omega) hk
 rwa [show ((a.toNat : Nat) : Int) = a by omega,show ((b.toNat : Nat) : Int) = b by omega] at e
theorem block_int {a b : Int} (h : bok a b = true) {k : Nat} (hk : 40 ≤ k) : impl_BlockText.f k a b = some (bs (blockT a.toNat b.toNat)):=by
 rw [blockText_impl a b hk]
 unfold blockText
 rw [if_pos h]
theorem g6z {a b : Int} (h : bok a b = true) : (blockT a.toNat b.toNat).length ≤ 20:=by
 obtain ⟨h0,h1,h2,h3,_⟩:=bok_iff.1 h
 exact blockT_len2 (by omega) (by omega)
theorem g4z {r : S39} (h : rok r = true) : bok r.f2.f0 r.f2.f1 = true ∧ bok r.f3.f0 r.f3.f1 = true ∧ 0 ≤ r.f4 ∧ r.f4 ≤ r.f5 ∧ r.f5 ≤ 65535 ∧ 0 ≤ r.f0 ∧ r.f0 ≤ 2 ∧ (r.f1 = 0 ∨ (r.f0 = 2 ∧ 0 ≤ r.f1 ∧ r.f1 ≤ 3)):=by
 unfold rok at h
 simp only [Bool.and_eq_true,Bool.or_eq_true,decide_eq_true_eq] at h
 obtain ⟨h1,h2,⟨h3,h4⟩,h5,⟨h6,h7⟩,h8⟩:=h
 exact ⟨h1,h2,h3,h4,h5,h6,h7,h8⟩
/-- A rule's first word. -/
def wordT (r : S39) : List UInt8:=if r.f0 = 0 then [100,114,111,112] else if r.f0 = 1 then [112,97,115,115] else [103,117,97,114,100] ++ dec r.f1.toNat
/-- A rule's line. -/
def lineT (r : S39) : List UInt8:=wordT r ++ [32] ++ blockT r.f2.f0.toNat r.f2.f1.toNat ++ [32] ++ blockT r.f3.f0.toNat r.f3.f1.toNat ++ [32] ++ (dec r.f4.toNat ++ [45] ++ dec r.f5.toNat) ++ [10]
theorem wordT_len {r : S39} (h : rok r = true) : (wordT r).length ≤ 6:=by
 obtain ⟨_,_,_,_,_,_,_,h8⟩:=g4z h
 have hd:=h1z 0 r.f1.toNat (by show r.f1.toNat < 10;omega)
 unfold wordT
 split
 ·decide
 ·split
  ·decide
  ·simp only [List.length_append,List.length_cons,List.length_nil]
   omega
theorem word_spec {r : S39} (h : rok r = true) {k : Nat} (hk : 5 ≤ k) : spec_l4Word.f k r.f0 r.f1 r.f2.f0 r.f2.f1 r.f3.f0 r.f3.f1 r.f4 r.f5 = some (bs (wordT r)):=by
 obtain ⟨_,_,_,_,_,h6,h7,h8⟩:=g4z h
 have hd:=h1z 0 r.f1.toNat (by show r.f1.toNat < 10;omega)
 unfold spec_l4Word.f wordT
 by_cases h1 : r.f0 = 1
 ·rw [if_pos h1,if_neg (by omega),if_pos h1]
  rfl
 ·rw [if_neg h1]
  by_cases h2 : r.f0 = 2
  ·rw [if_pos h2,if_neg (by omega),if_neg (by omega),l1Dec_int (by omega) (by omega) hk,Option.bind_some,h3z,if_pos (by omega),show (⟨#[103,117,97,114,100]⟩ : ByteArray) = bs [103,117,97,114,100] from rfl,h0z]
  ·rw [if_neg h2,if_pos (by omega)]
   rfl
theorem word_impl {r : S39} (h : rok r = true) : impl_Rule_word.f r.f0 r.f1 r.f2.f0 r.f2.f1 r.f3.f0 r.f3.f1 r.f4 r.f5 = some (bs (wordT r)):=by
 obtain ⟨_,_,_,_,_,h6,h7,h8⟩:=g4z h
 have hd:=h1z 0 r.f1.toNat (by show r.f1.toNat < 10;omega)
 unfold impl_Rule_word.f wordT
 by_cases h0 : r.f0 = 0
 ·rw [if_pos h0,if_pos h0]
  rfl
 ·rw [if_neg h0,if_neg h0]
  by_cases h1 : r.f0 = 1
  ·rw [if_pos h1,if_pos h1]
   rfl
  ·rw [if_neg h1,if_neg h1,itoa_int (by omega) (by omega),Option.bind_some,h3z,if_pos (by omega),show (⟨#[103,117,97,114,100]⟩ : ByteArray) = bs [103,117,97,114,100] from rfl,h0z]
theorem ports_len {r : S39} (h : rok r = true) : (dec r.f4.toNat).length ≤ 5 ∧ (dec r.f5.toNat).length ≤ 5:=by
 obtain ⟨_,_,h3,h4,h5,_⟩:=g4z h
 exact ⟨h1z 4 _ (by show r.f4.toNat < 100000;omega),h1z 4 _ (by show r.f5.toNat < 100000;omega)⟩
theorem lineT_len {r : S39} (h : rok r = true) : (lineT r).length ≤ 100:=by
 obtain ⟨h1,h2,_⟩:=g4z h
 have a:=wordT_len h
 have b:=g6z h1
 have c:=g6z h2
 obtain ⟨d,e⟩:=ports_len h
 unfold lineT
 simp only [List.length_append,List.length_cons,List.length_nil]
 omega
theorem join_sp (x y z t : List UInt8) (h : (x ++ [32] ++ y ++ [32] ++ z ++ [32] ++ t).length ≤ 1000) : strings_Join.f [bs x,bs y,bs z,bs t] ⟨#[32]⟩ = some (bs (x ++ [32] ++ y ++ [32] ++ z ++ [32] ++ t)):=by
 have e : Lib.join ([bs x,bs y,bs z,bs t].map (·.data.toList)) (ByteArray.mk #[32]).data.toList = x ++ [32] ++ y ++ [32] ++ z ++ [32] ++ t:=by
  simp [Lib.join,List.intercalate,bs]
 unfold strings_Join.f
 rw [e,if_pos ⟨by simp,by omega⟩]
 rfl
theorem drop_rd (l : List S39) (i : Nat) (h : i < l.length) : l.drop i = l.getD i z39 :: l.drop (i + 1):=by
 rw [List.drop_eq_getElem_cons h,List.getD_eq_getElem?_getD,List.getElem?_eq_getElem h]
 rfl
theorem l4Put_loop {l : List S39} (hr : ∀ i,i < l.length → rok (l.getD i z39) = true) (h8 : l.length ≤ 8) : ∀ (e i : Nat) (acc : List UInt8),l.length - i = e → i ≤ l.length → acc.length + 100 * e ≤ 1000 → ∀ k,e + 50 < k → spec_l4Put.l0 k l (bs acc) (i : Int) = some (bs (acc ++ ((l.drop i).map lineT).flatten)):=by
 intro e
 induction e with
 | zero =>
  intro i acc he hi ha k hk
  obtain ⟨k,rfl⟩ : ∃ m,k = m + 1:=⟨k - 1,by omega⟩
  simp only [spec_l4Put.l0]
  rw [if_neg (by omega),List.drop_eq_nil_of_le (by omega)]
  simp
 | succ e ih =>
  intro i acc he hi ha k hk
  obtain ⟨k,rfl⟩ : ∃ m,k = m + 1:=⟨k - 1,by omega⟩
  have hw:=hr i (by omega)
  obtain ⟨h1,h2,h3,h4,h5,_⟩:=g4z hw
  have la:=wordT_len hw
  have lb:=g6z h1
  have lc:=g6z h2
  obtain ⟨ld,le⟩:=ports_len hw
  have e1:=word_spec hw (k:=k) (by omega)
  have e2:=l1Block_int h1 (k:=k) (by omega)
  have e3:=l1Block_int h2 (k:=k) (by omega)
  have e4:=l1Dec_int h3 (by omega) (k:=k) (by omega)
  have e5:=l1Dec_int (show 0 ≤ (l.getD i z39).f5 by omega) h5 (k:=k) (by omega)
  have x32 : (⟨#[32]⟩ : ByteArray) = bs [32]:=rfl
  have x45 : (⟨#[45]⟩ : ByteArray) = bs [45]:=rfl
  have x10 : (⟨#[10]⟩ : ByteArray) = bs [10]:=rfl
  have hi1:=ih (i + 1) (acc ++ lineT (l.getD i z39)) (by omega) (by omega) (by have:=lineT_len hw;rw [List.length_append];omega) k (by omega)
  simp only [spec_l4Put.l0,rdR]
  rw [if_pos (by omega),if_pos (by omega)]
  simp only [e1,e2,e3,e4,e5,Option.bind_some,x32,x45,x10,h0z,h3z]
  repeat rw [if_pos (by (try simp only [List.length_append,List.length_cons,List.length_nil]);omega)]
  rw [w64 (by omega) (by omega),show ((i : Int) + 1) = ((i + 1 : Nat) : Int) by omega,drop_rd l i (by omega),mC_,List.flatten_cons,← List.append_assoc,← hi1]
  congr 2
  unfold lineT
  simp only [List.append_assoc]
theorem put_loop {l : List S39} (hr : ∀ i,i < l.length → rok (l.getD i z39) = true) (h8 : l.length ≤ 8) : ∀ (e i : Nat) (acc : List UInt8),l.length - i = e → i ≤ l.length → acc.length + 100 * e ≤ 1000 → ∀ k,e + 50 < k → impl_RulesPut.l0 k (bs acc) l (l.length : Int) (i : Int) = some (bs (acc ++ ((l.drop i).map lineT).flatten)):=by
 intro e
 induction e with
 | zero =>
  intro i acc he hi ha k hk
  obtain ⟨k,rfl⟩ : ∃ m,k = m + 1:=⟨k - 1,by omega⟩
  simp only [impl_RulesPut.l0]
  rw [if_neg (by omega),List.drop_eq_nil_of_le (by omega)]
  simp
 | succ e ih =>
  intro i acc he hi ha k hk
  obtain ⟨k,rfl⟩ : ∃ m,k = m + 1:=⟨k - 1,by omega⟩
  have hw:=hr i (by omega)
  obtain ⟨h1,h2,h3,h4,h5,_⟩:=g4z hw
  have la:=wordT_len hw
  have lb:=g6z h1
  have lc:=g6z h2
  obtain ⟨ld,le⟩:=ports_len hw
  have e1:=word_impl hw
  have e2:=block_int h1 (k:=k) (by omega)
  have e3:=block_int h2 (k:=k) (by omega)
  have e4:=itoa_int h3 (by omega)
  have e5:=itoa_int (show 0 ≤ (l.getD i z39).f5 by omega) (by omega)
  have e6:=join_sp (wordT (l.getD i z39)) (blockT (l.getD i z39).f2.f0.toNat (l.getD i z39).f2.f1.toNat) (blockT (l.getD i z39).f3.f0.toNat (l.getD i z39).f3.f1.toNat) (dec (l.getD i z39).f4.toNat ++ [45] ++ dec (l.getD i z39).f5.toNat) (by simp only [List.length_append,List.length_cons,List.length_nil];omega)
  have x45 : (⟨#[45]⟩ : ByteArray) = bs [45]:=rfl
  have x10 : (⟨#[10]⟩ : ByteArray) = bs [10]:=rfl
  have hl:=lineT_len hw
  have hi1:=ih (i + 1) (acc ++ lineT (l.getD i z39)) (by omega) (by omega) (by rw [List.length_append];omega) k (by omega)
  simp only [impl_RulesPut.l0,rdR]
  rw [if_pos (by omega),if_pos (by omega),if_pos (by omega)]
  simp only [e1,e2,e3,e4,e5,Option.bind_some,x45,x10,h0z,h3z]
  rw [if_pos (by (try simp only [List.length_append,List.length_cons,List.length_nil]);omega),if_pos (by (try simp only [List.length_append,List.length_cons,List.length_nil]);omega)]
  simp only [e6,Option.bind_some,h0z,h3z]
  rw [if_pos (by (try simp only [List.length_append,List.length_cons,List.length_nil]);omega)]
  rw [show Bd.writeF (bs acc) _ = some (bs (acc ++ lineT (l.getD i z39))) from by
   unfold Bd.writeF
   rw [h0z,h3z,h3z,if_pos (by (try simp only [List.length_append,List.length_cons,List.length_nil]);omega)]
   rfl]
  rw [Option.bind_some,w64 (by omega) (by omega),show ((i : Int) + 1) = ((i + 1 : Nat) : Int) by omega,drop_rd l i (by omega),mC_,List.flatten_cons,← List.append_assoc,← hi1]
end Go.Proofs.YtgbdnbbfgcogjaaGreatDoor.Tx

namespace Go.Proofs.YtgbdnbbfgcogjaaGreatDoor.Tx
set_option linter.unusedSimpArgs false
set_option linter.unusedVariables false
open Go.RowKit Go.Proofs.YtgbdnbbfgcogjaaGreatDoor.Q Go.Proofs.YtgbdnbbfgcogjaaGreatDoor.Pure
open Go.Proofs.YtgbdnbbfgcogjaaGreatDoor.Sq (tx parts e9z f9z lns lns_none lns_some)
/-- A rule's line without its end. -/
def bodyT (r : S39) : List UInt8:=wordT r ++ 32 :: (blockT r.f2.f0.toNat r.f2.f1.toNat ++ 32 :: (blockT r.f3.f0.toNat r.f3.f1.toNat ++ 32 :: (dec r.f4.toNat ++ 45 :: dec r.f5.toNat)))
theorem lineT_eq (r : S39) : lineT r = bodyT r ++ [10]:=by
 unfold lineT bodyT
 simp
theorem word_no {c : UInt8} (hc : c < 48) (r : S39) (hd : ∀ n,c ∉ dec n) : c ∉ wordT r:=by
 unfold wordT
 have hn : ∀ d : UInt8,97 ≤ d → c ≠ d:=fun d h e => by subst e;exact absurd (Nat.lt_of_lt_of_le (UInt8.lt_iff_toNat_lt.1 hc) (Nat.le_trans (by decide) (UInt8.le_iff_toNat_le.1 h))) (Nat.lt_irrefl _)
 split
 ·simp only [List.mem_cons,List.not_mem_nil,or_false,not_or]
  exact ⟨hn _ (by decide),hn _ (by decide),hn _ (by decide),hn _ (by decide)⟩
 ·split
  ·simp only [List.mem_cons,List.not_mem_nil,or_false,not_or]
   exact ⟨hn _ (by decide),hn _ (by decide),hn _ (by decide),hn _ (by decide)⟩
  ·rw [List.mem_append,not_or]
   refine ⟨?_,hd _⟩
   simp only [List.mem_cons,List.not_mem_nil,or_false,not_or]
   exact ⟨hn _ (by decide),hn _ (by decide),hn _ (by decide),hn _ (by decide),hn _ (by decide)⟩
theorem block_no {c : UInt8} (h46 : c ≠ 46) (h47 : c ≠ 47) (hd : ∀ n,c ∉ dec n) (a b : Nat) : c ∉ blockT a b:=by
 unfold blockT addrT
 simp only [List.mem_append,List.mem_singleton,not_or]
 exact ⟨⟨⟨⟨⟨⟨⟨⟨hd _,h46⟩,hd _⟩,h46⟩,hd _⟩,h46⟩,hd _⟩,h47⟩,hd _⟩
theorem body_no10 (r : S39) : (10 : UInt8) ∉ bodyT r:=by
 have hd : ∀ n,(10 : UInt8) ∉ dec n:=fun n => dec_no (by decide) n
 unfold bodyT
 simp only [List.mem_append,List.mem_cons,not_or]
 exact ⟨word_no (by decide) r hd,by decide,block_no (by decide) (by decide) hd _ _,by decide,block_no (by decide) (by decide) hd _ _,by decide,hd _,by decide,hd _⟩
theorem body_words (r : S39) : parts 32 (bodyT r) = [wordT r,blockT r.f2.f0.toNat r.f2.f1.toNat,blockT r.f3.f0.toNat r.f3.f1.toNat,dec r.f4.toNat ++ 45 :: dec r.f5.toNat]:=by
 have hd : ∀ n,(32 : UInt8) ∉ dec n:=fun n => dec_no (by decide) n
 unfold bodyT
 rw [e9z _ (word_no (by decide) r hd),e9z _ (block_no (by decide) (by decide) hd _ _),e9z _ (block_no (by decide) (by decide) hd _ _),f9z]
 simp only [List.mem_append,List.mem_cons,not_or]
 exact ⟨hd _,by decide,hd _⟩
theorem lns_lines : ∀ l : List S39,lns 10 (l.map lineT).flatten = l.map lineT
 | [] => rfl
 | r :: l => by
  rw [List.map_cons,List.flatten_cons,lineT_eq,List.append_assoc,List.singleton_append,lns_some _ (body_no10 r),lns_lines l]
theorem parts_lines : ∀ l : List S39,parts 10 (l.map lineT).flatten = l.map bodyT ++ [[]]
 | [] => rfl
 | r :: l => by
  rw [List.map_cons,List.flatten_cons,lineT_eq,List.append_assoc,List.singleton_append,e9z _ (body_no10 r),parts_lines l]
  rfl
end Go.Proofs.YtgbdnbbfgcogjaaGreatDoor.Tx

namespace Go.Proofs.YtgbdnbbfgcogjaaGreatDoor.Tx
set_option linter.unusedSimpArgs false
set_option linter.unusedVariables false
open Go.RowKit Go.Proofs.YtgbdnbbfgcogjaaGreatDoor.Q Go.Proofs.YtgbdnbbfgcogjaaGreatDoor.Pure Go.Proofs.YtgbdnbbfgcogjaaGreatDoorW.PrintWords Go.Proofs.YtgbdnbbfgcogjaaGreatDoorW.PrintLast Go.Proofs.YtgbdnbbfgcogjaaGreatDoorW.PrintMore
open Go.Proofs.YtgbdnbbfgcogjaaGreatDoor.Sq (tx e4z f4z tx_of e6z cut1 cut_eval atoiF atoiV parts)
theorem tx_toList (l : List UInt8) : (tx l).toList = l:=by rw [ByteArray.toList_eq,f4z]
theorem atoiF_dec {n : Int} (h0 : 0 ≤ n) (h : n ≤ 65535) : atoiF (tx (dec n.toNat)) = some (n,true):=by
 have hl:=h1z 4 n.toNat (by show n.toNat < 100000;omega)
 unfold atoiF atoiV
 rw [e4z,if_pos (by omega),f4z,atoi_dec (by omega)]
 simp only [Option.some.injEq,Prod.mk.injEq,and_true]
 omega
theorem bimpl_int {a b : Int} (h : bok a b = true) {k : Nat} (hk : 300 ≤ k) : impl_BlockGet.f k (tx (blockT a.toNat b.toNat)) = some (a,b,true):=by
 obtain ⟨h0,h1,h2,h3,_⟩:=bok_iff.1 h
 obtain ⟨m,rfl⟩:=Int.eq_ofNat_of_zero_le h0
 obtain ⟨n,rfl⟩:=Int.eq_ofNat_of_zero_le h2
 exact bimpl_yes h hk
theorem ruleGet_tail {r : S39} (h : rok r = true) (w0 : ByteArray) (a b c d e f g i : Int) : impl_ruleGet.j0 400 [w0,tx (blockT r.f2.f0.toNat r.f2.f1.toNat),tx (blockT r.f3.f0.toNat r.f3.f1.toNat),tx (dec r.f4.toNat ++ 45 :: dec r.f5.toNat)] a b c d e f g i = some (a,b,r.f2.f0,r.f2.f1,r.f3.f0,r.f3.f1,r.f4,r.f5):=by
 obtain ⟨h1,h2,h3,h4,h5,_⟩:=g4z h
 obtain ⟨l4,l5⟩:=ports_len h
 have e1:=bimpl_int h1 (k:=399) (by omega)
 have e2:=bimpl_int h2 (k:=399) (by omega)
 have e3:=cut_eval 45 (tx (dec r.f4.toNat ++ 45 :: dec r.f5.toNat)) (by rw [e4z,List.length_append,List.length_cons];omega)
 rw [f4z,cut_of (dec_no (by decide) _)] at e3
 have e4:=atoiF_dec h3 (by omega)
 have e5:=atoiF_dec (show 0 ≤ r.f5 by omega) h5
 show impl_ruleGet.j0 (399 + 1) _ a b c d e f g i = _
 simp only [impl_ruleGet.j0]
 rw [if_pos (by simp),show ∀ w1 w2 w3 : ByteArray,rdOf ByteArray.empty [w0,w1,w2,w3] 1 = w1 from fun _ _ _ => rfl,e1,Option.bind_some,if_pos (by simp),show ∀ w1 w2 w3 : ByteArray,rdOf ByteArray.empty [w0,w1,w2,w3] 2 = w2 from fun _ _ _ => rfl,e2,Option.bind_some,if_pos (by simp),show ∀ w1 w2 w3 : ByteArray,rdOf ByteArray.empty [w0,w1,w2,w3] 3 = w3 from fun _ _ _ => rfl,e3,Option.bind_some]
 simp only
 rw [e4,Option.bind_some,e5,Option.bind_some]
theorem trim_guard (d : List UInt8) (hd : d.length ≤ 100) : strings_TrimPrefix.f (tx ([103,117,97,114,100] ++ d)) ⟨#[103,117,97,114,100]⟩ = some (tx d):=by
 have h5 : ((⟨#[103,117,97,114,100]⟩ : ByteArray).size : Int) = 5:=rfl
 have hl : (⟨#[103,117,97,114,100]⟩ : ByteArray).toList = [103,117,97,114,100]:=by rw [ByteArray.toList_eq]
 have hs : ([103,117,97,114,100] ++ d : List UInt8).length = 5 + d.length:=by rw [List.length_append];rfl
 unfold strings_TrimPrefix.f stringslite_TrimPrefix.f stringslite_HasPrefix.f
 rw [h5,e4z,hs,hl,if_pos (by omega),if_pos (by omega),if_pos (by omega),Option.bind_some]
 have hx : ((tx ([103,117,97,114,100] ++ d)).extract 0 ((5 : Int)).toNat).toList = [103,117,97,114,100]:=by
  rw [e6z,tx_toList]
  rfl
 rw [hx,if_pos (by simp),if_pos (by omega),if_pos (by omega),Option.bind_some,e6z,show (5 : Int).toNat = 5 from rfl,List.take_of_length_le (Nat.le_of_eq hs)]
 rfl
theorem ruleGet_words {r : S39} (h : rok r = true) : impl_ruleGet.f 400 ((parts 32 (bodyT r)).map tx) = some (r.f0,r.f1,r.f2.f0,r.f2.f1,r.f3.f0,r.f3.f1,r.f4,r.f5):=by
 obtain ⟨_,_,_,_,_,h6,h7,h8⟩:=g4z h
 have hd:=h1z 0 r.f1.toNat (by show r.f1.toNat < 10;omega)
 rw [body_words]
 simp only [mC_,mN_]
 unfold impl_ruleGet.f
 rw [if_pos (by simp),show ∀ w0 w1 w2 w3 : ByteArray,rdOf ByteArray.empty [w0,w1,w2,w3] 0 = w0 from fun _ _ _ _ => rfl,tx_toList]
 by_cases h0 : r.f0 = 0
 ·have hw : wordT r = [100,114,111,112]:=by unfold wordT;rw [if_pos h0]
  rw [if_pos hw,ruleGet_tail h,h0,show r.f1 = 0 by omega]
 ·by_cases h1 : r.f0 = 1
  ·have hw : wordT r = [112,97,115,115]:=by unfold wordT;rw [if_neg h0,if_pos h1]
   rw [if_neg (by rw [hw];decide),if_pos hw,ruleGet_tail h,h1,show r.f1 = 0 by omega]
  ·have hw : wordT r = [103,117,97,114,100] ++ dec r.f1.toNat:=by unfold wordT;rw [if_neg h0,if_neg h1]
   rw [if_neg (by rw [hw];simp),if_neg (by rw [hw];simp),hw,trim_guard _ (by omega),Option.bind_some,atoiF_dec (by omega) (by omega),Option.bind_some,ruleGet_tail h,show r.f0 = 2 by omega]
end Go.Proofs.YtgbdnbbfgcogjaaGreatDoor.Tx

namespace Go.Proofs.YtgbdnbbfgcogjaaGreatDoor.Tx
set_option linter.unusedSimpArgs false
set_option linter.unusedVariables false
open Go.RowKit Go.Proofs.YtgbdnbbfgcogjaaGreatDoor.Q Go.Proofs.YtgbdnbbfgcogjaaGreatDoor.Pure Go.Proofs.YtgbdnbbfgcogjaaGreatDoorW.PrintWords Go.Proofs.YtgbdnbbfgcogjaaGreatDoorW.PrintLast Go.Proofs.YtgbdnbbfgcogjaaGreatDoorW.PrintMore
open Go.Proofs.YtgbdnbbfgcogjaaGreatDoor.Sq (tx e4z f4z tx_of e6z parts e9z f9z)
theorem bspec_int {a b : Int} (h : bok a b = true) {k : Nat} (hk : 300 ≤ k) : spec_BlockGet.f k (tx (blockT a.toNat b.toNat)) = some (a,b,true):=by
 obtain ⟨h0,h1,h2,h3,_⟩:=bok_iff.1 h
 obtain ⟨m,rfl⟩:=Int.eq_ofNat_of_zero_le h0
 obtain ⟨n,rfl⟩:=Int.eq_ofNat_of_zero_le h2
 exact bspec_yes h hk
theorem num_int {n : Int} (h0 : 0 ≤ n) (h : n ≤ 65535) {k : Nat} (hk : 20 ≤ k) : spec_l1Num.f k (tx (dec n.toNat)) = some n:=by
 rw [num_ev _ hk,num_dec (by omega)]
 congr 1
 omega
theorem body_len {r : S39} (h : rok r = true) : (bodyT r).length ≤ 100:=by
 have e:=lineT_len h
 rw [lineT_eq,List.length_append] at e
 omega
theorem len4 (w0 w1 w2 w3 : ByteArray) : ((([w0,w1,w2,w3] : List ByteArray).length : Nat) : Int) = 4:=rfl
theorem len2 (w0 w1 : ByteArray) : ((([w0,w1] : List ByteArray).length : Nat) : Int) = 2:=rfl
theorem at0 (w0 w1 w2 w3 : ByteArray) : rdOf ByteArray.empty [w0,w1,w2,w3] 0 = w0:=rfl
theorem at1 (w0 w1 w2 w3 : ByteArray) : rdOf ByteArray.empty [w0,w1,w2,w3] 1 = w1:=rfl
theorem at2 (w0 w1 w2 w3 : ByteArray) : rdOf ByteArray.empty [w0,w1,w2,w3] 2 = w2:=rfl
theorem at3 (w0 w1 w2 w3 : ByteArray) : rdOf ByteArray.empty [w0,w1,w2,w3] 3 = w3:=rfl
theorem pat0 (w0 w1 : ByteArray) : rdOf ByteArray.empty [w0,w1] 0 = w0:=rfl
theorem pat1 (w0 w1 : ByteArray) : rdOf ByteArray.empty [w0,w1] 1 = w1:=rfl
/-- A line of four words. -/
theorem line_four {k : Nat} {x w0 w1 w2 w3 : ByteArray} {a1 b1 a2 b2 : Int} {c1 c2 : Bool} {ps : List ByteArray} (hc : spec_l1Cut.f k x 32 = some [w0,w1,w2,w3]) (h1 : spec_BlockGet.f k w1 = some (a1,b1,c1)) (h2 : spec_BlockGet.f k w2 = some (a2,b2,c2)) (hp : spec_l1Cut.f k w3 45 = some ps) :
  spec_l4Line.f k x = if c1 = true then (if c2 = true then spec_l4Line.j0 k [w0,w1,w2,w3] ps ((ps.length : Int) != 2) a1 b1 a2 b2 else spec_l4Line.j0 k [w0,w1,w2,w3] ps true a1 b1 a2 b2) else spec_l4Line.j0 k [w0,w1,w2,w3] ps true a1 b1 a2 b2:=by
 unfold spec_l4Line.f
 rw [hc,Option.bind_some,len4,at1,at2,at3,if_pos rfl,if_pos (by omega),h1,Option.bind_some,if_pos (by omega),h2,Option.bind_some,if_pos (by omega),hp,Option.bind_some]
/-- What it makes of the first word and two numbers. -/
def lineV (w0 : ByteArray) (n : Int) (a1 b1 a2 b2 p q : Int) : Int × Int × Int × Int × Int × Int × Int × Int × Bool :=
 if w0.toList = [112,97,115,115] then (1,0,a1,b1,a2,b2,p,q,true) else if (w0.size : Int) > 5 then (if (w0.extract 0 5).toList = [103,117,97,114,100] then (2,n,a1,b1,a2,b2,p,q,true) else (0,0,a1,b1,a2,b2,p,q,true)) else (0,0,a1,b1,a2,b2,p,q,true)
theorem line_j0 {k : Nat} {w0 w1 w2 w3 u v : ByteArray} {p q n : Int} (a1 b1 a2 b2 : Int) (hp : spec_l1Num.f k u = some p) (hq : spec_l1Num.f k v = some q) (hn : spec_l1Num.f k (w0.extract 5 w0.size) = some n) :
  spec_l4Line.j0 (k + 1) [w0,w1,w2,w3] [u,v] false a1 b1 a2 b2 = some (lineV w0 n a1 b1 a2 b2 p q):=by
 simp only [spec_l4Line.j0]
 rw [if_neg (by simp),len2,len4,at0,pat0,pat1,if_pos (by omega),hp,Option.bind_some,if_pos (by omega),hq,Option.bind_some,if_pos (by omega),hn,Option.bind_some]
 unfold lineV
 by_cases h1 : w0.toList = [112,97,115,115]
 ·rw [if_pos h1,if_pos h1]
 ·rw [if_neg h1,if_neg h1]
  by_cases h2 : (w0.size : Int) > 5
  ·rw [if_pos h2,if_pos h2,if_pos (by omega),if_pos (by omega)]
   by_cases h3 : (w0.extract 0 5).toList = [103,117,97,114,100]
   ·rw [if_pos h3,if_pos h3]
   ·rw [if_neg h3,if_neg h3]
  ·rw [if_neg h2,if_neg h2]
theorem line_off {k : Nat} (ws ps : List ByteArray) (a1 b1 a2 b2 : Int) : spec_l4Line.j0 (k + 1) ws ps true a1 b1 a2 b2 = some (0,0,0,0,0,0,0,0,false):=by
 simp only [spec_l4Line.j0]
 rw [if_pos trivial]
theorem lineV_ok {r : S39} (h : rok r = true) {n : Int} (hn : r.f0 = 2 → n = r.f1) : lineV (tx (wordT r)) n r.f2.f0 r.f2.f1 r.f3.f0 r.f3.f1 r.f4 r.f5 = (r.f0,r.f1,r.f2.f0,r.f2.f1,r.f3.f0,r.f3.f1,r.f4,r.f5,true):=by
 obtain ⟨h1,h2,h3,h4,h5,h6,h7,h8⟩:=g4z h
 have hdp:=dec_pos r.f1.toNat
 unfold lineV
 rw [tx_toList,e4z]
 by_cases h0 : r.f0 = 0
 ·have hw : wordT r = [100,114,111,112]:=by unfold wordT;rw [if_pos h0]
  rw [hw,if_neg (by decide),if_neg (by decide),h0,show r.f1 = 0 by omega]
 ·by_cases hf1 : r.f0 = 1
  ·have hw : wordT r = [112,97,115,115]:=by unfold wordT;rw [if_neg h0,if_pos hf1]
   rw [hw,if_pos rfl,hf1,show r.f1 = 0 by omega]
  ·have hw : wordT r = [103,117,97,114,100] ++ dec r.f1.toNat:=by unfold wordT;rw [if_neg h0,if_neg hf1]
   have hs : (wordT r).length = 5 + (dec r.f1.toNat).length:=by rw [hw,List.length_append];rfl
   have hx : ((tx (wordT r)).extract 0 5).toList = [103,117,97,114,100]:=by
    rw [e6z,tx_toList,hw]
    rfl
   rw [hx,if_neg (by rw [hw];simp),if_pos (by omega),if_pos rfl,hn (by omega),show r.f0 = 2 by omega]
theorem guard_cut (r : S39) (h2 : r.f0 = 2) : (tx (wordT r)).extract 5 (tx (wordT r)).size = tx (dec r.f1.toNat):=by
 have hw : wordT r = [103,117,97,114,100] ++ dec r.f1.toNat:=by unfold wordT;rw [if_neg (by omega),if_neg (by omega)]
 rw [e4z,e6z,List.take_length,hw]
 rfl
theorem line_ok {r : S39} (h : rok r = true) {k : Nat} (hk : 400 ≤ k) : spec_l4Line.f k (tx (bodyT r)) = some (r.f0,r.f1,r.f2.f0,r.f2.f1,r.f3.f0,r.f3.f1,r.f4,r.f5,true):=by
 obtain ⟨k,rfl⟩ : ∃ j,k = j + 1:=⟨k - 1,by omega⟩
 obtain ⟨h1,h2,h3,h4,h5,h6,h7,h8⟩:=g4z h
 obtain ⟨l4,l5⟩:=ports_len h
 have hl:=body_len h
 have hc : spec_l1Cut.f (k + 1) (tx (bodyT r)) 32 = some ((parts 32 (bodyT r)).map tx):=cut_ev 32 _ (by omega) (by omega)
 have hp : spec_l1Cut.f (k + 1) (tx (dec r.f4.toNat ++ 45 :: dec r.f5.toNat)) 45 = some ((parts 45 (dec r.f4.toNat ++ 45 :: dec r.f5.toNat)).map tx):=cut_ev 45 _ (by rw [List.length_append,List.length_cons];omega) (by rw [List.length_append,List.length_cons];omega)
 rw [e9z _ (dec_no (by decide) _),f9z (dec_no (by decide) _)] at hp
 rw [body_words] at hc
 obtain ⟨n,hn⟩ : ∃ n,spec_l1Num.f k ((tx (wordT r)).extract 5 (tx (wordT r)).size) = some n:=by
  rw [e4z,e6z]
  exact ⟨_,num_ev _ (by omega)⟩
 have hn2 : r.f0 = 2 → n = r.f1:=fun h0 => by
  rw [guard_cut r h0,num_int (by omega) (by omega) (by omega)] at hn
  exact (Option.some.inj hn).symm
 rw [line_four hc (bspec_int h1 (by omega)) (bspec_int h2 (by omega)) hp,if_pos rfl,if_pos rfl]
 exact (line_j0 _ _ _ _ (num_int h3 (by omega) (by omega)) (num_int (by omega) h5 (by omega)) hn).trans (congrArg some (lineV_ok h hn2))
/-- Every line gives something. -/
theorem bspec_total (l : List UInt8) (hl : l.length ≤ 1048576) {k : Nat} (hk : 2000000 ≤ k) : ∃ a b c,spec_BlockGet.f k (tx l) = some (a,b,c):=by
 rcases block_or l with ⟨a,b,hab,rfl⟩|hn
 ·exact ⟨_,_,_,bspec_yes hab (by omega)⟩
 ·exact ⟨_,_,_,bspec_no hl hn hk⟩
theorem parts_len_le (c : UInt8) : ∀ (l : List UInt8),∀ p ∈ parts c l,p.length ≤ l.length
 | [],p,h => by
  simp [parts] at h
  simp [h]
 | b :: r,p,h => by
  have ih:=parts_len_le c r
  unfold parts at h
  split at h
  ·rcases List.mem_cons.1 h with rfl|h
   ·simp
   ·have:=ih p h;simp;omega
  ·cases hp : parts c r with
   | nil => rw [hp] at h;simp at h;subst h;simp
   | cons q qs =>
    rw [hp] at h ih
    rcases List.mem_cons.1 h with rfl|h
    ·have:=ih q List.mem_cons_self;simp;omega
    ·have:=ih p (List.mem_cons_of_mem _ h);simp;omega
theorem line_total (l : List UInt8) (hl : l.length ≤ 1048576) {k : Nat} (hk : 2000002 ≤ k) : ∃ a b c d e f g h o,spec_l4Line.f k (tx l) = some (a,b,c,d,e,f,g,h,o):=by
 obtain ⟨k,rfl⟩ : ∃ j,k = j + 1:=⟨k - 1,by omega⟩
 have hc : spec_l1Cut.f (k + 1) (tx l) 32 = some ((parts 32 l).map tx):=cut_ev 32 _ (by omega) (by omega)
 have hle:=parts_len_le 32 l
 generalize parts 32 l = ws at hc hle
 by_cases h4 : ws.length = 4
 ·obtain ⟨w0,w1,w2,w3,rfl⟩ : ∃ w0 w1 w2 w3,ws = [w0,w1,w2,w3]:=by
   match ws,h4 with
   | [w0,w1,w2,w3],_ => exact ⟨w0,w1,w2,w3,rfl⟩
  have e0:=hle w0 (by simp)
  have e1:=hle w1 (by simp)
  have e2:=hle w2 (by simp)
  have e3:=hle w3 (by simp)
  obtain ⟨a1,b1,c1,h1⟩:=bspec_total w1 (by omega) (k:=k + 1) (by omega)
  obtain ⟨a2,b2,c2,h2⟩:=bspec_total w2 (by omega) (k:=k + 1) (by omega)
  have hp : spec_l1Cut.f (k + 1) (tx w3) 45 = some ((parts 45 w3).map tx):=cut_ev 45 _ (by omega) (by omega)
  generalize parts 45 w3 = ps at hp
  have hf:=line_four hc h1 h2 hp
  rw [hf]
  cases c1
  ·rw [if_neg (by simp),line_off]
   exact ⟨_,_,_,_,_,_,_,_,_,rfl⟩
  ·cases c2
   ·rw [if_pos rfl,if_neg (by simp),line_off]
    exact ⟨_,_,_,_,_,_,_,_,_,rfl⟩
   ·rw [if_pos rfl,if_pos rfl,List.length_map]
    by_cases h2 : ps.length = 2
    ·obtain ⟨u,v,rfl⟩ : ∃ u v,ps = [u,v]:=by
      match ps,h2 with
      | [u,v],_ => exact ⟨u,v,rfl⟩
     obtain ⟨n,hn⟩ : ∃ n,spec_l1Num.f k ((tx w0).extract 5 (tx w0).size) = some n:=by
      rw [e4z,e6z]
      exact ⟨_,num_ev _ (by omega)⟩
     exact ⟨_,_,_,_,_,_,_,_,_,line_j0 (w1:=tx w1) (w2:=tx w2) (w3:=tx w3) a1 b1 a2 b2 (num_ev u (by omega)) (num_ev v (by omega)) hn⟩
    ·rw [show ((ps.length : Int) != 2) = true from bne_iff_ne.2 (by omega),line_off]
     exact ⟨_,_,_,_,_,_,_,_,_,rfl⟩
 ·unfold spec_l4Line.f
  rw [hc,Option.bind_some,List.length_map,if_neg (by omega)]
  exact ⟨_,_,_,_,_,_,_,_,_,rfl⟩
end Go.Proofs.YtgbdnbbfgcogjaaGreatDoor.Tx

namespace Go.Proofs.YtgbdnbbfgcogjaaGreatDoor.Tx
set_option linter.unusedSimpArgs false
set_option linter.unusedVariables false
open Go.RowKit Go.Proofs.YtgbdnbbfgcogjaaGreatDoor.Q Go.Proofs.YtgbdnbbfgcogjaaGreatDoor.Pure Go.Proofs.YtgbdnbbfgcogjaaGreatDoorW.PrintWords Go.Proofs.YtgbdnbbfgcogjaaGreatDoorW.PrintLast Go.Proofs.YtgbdnbbfgcogjaaGreatDoorW.PrintMore
open Go.Proofs.YtgbdnbbfgcogjaaGreatDoor.Sq (tx e4z f4z tx_of e6z parts e9z f9z parts_len lns trimL wordsL ruleV foldG foldG_len rulesGetF)
/-- The text of some rules. -/
def outT (l : List S39) : List UInt8:=(l.map lineT).flatten
theorem h2z {l : List S39} (h : rsok l = true) : (∀ i,i < l.length → rok (l.getD i z39) = true) ∧ l.length ≤ 8:=by
 unfold rsok at h
 split at h
 ·rename_i ha
  rw [List.all_eq_true] at ha
  exact ⟨fun i hi => ha i (List.mem_range.2 hi),by have:=of_decide_eq_true h;omega⟩
 ·cases h
theorem rsok_all {l : List S39} (h : rsok l = true) : ∀ r ∈ l,rok r = true:=by
 intro r hr
 obtain ⟨i,hi,e⟩:=List.mem_iff_getElem.1 hr
 have:=(h2z h).1 i hi
 rwa [List.getD_eq_getElem?_getD,List.getElem?_eq_getElem hi,Option.getD_some,e] at this
theorem outT_len {l : List S39} (h : rsok l = true) : (outT l).length ≤ 100 * l.length:=by
 have ha:=rsok_all h
 clear h
 induction l with
 | nil => simp [outT]
 | cons r l ih =>
  have h1:=lineT_len (ha r List.mem_cons_self)
  have h2:=ih fun q hq => ha q (List.mem_cons_of_mem _ hq)
  unfold outT at h2 ⊢
  rw [mC_,List.flatten_cons,List.length_append,List.length_cons]
  omega
theorem l4Put_ev {l : List S39} (h : rsok l = true) {k : Nat} (hk : l.length + 100 < k) : spec_l4Put.f k l = some (tx (outT l)):=by
 obtain ⟨hr,h8⟩:=h2z h
 have e:=l4Put_loop hr h8 l.length 0 [] rfl (by omega) (by simp;omega) k (by omega)
 rw [List.nil_append,List.drop_zero] at e
 exact e
theorem rulesPut_impl {l : List S39} {k : Nat} (hl : l.length ≤ 1048577) (hk : l.length + 100 < k) : impl_RulesPut.f k l = some (if rsok l = true then tx (outT l) else tx []):=by
 unfold impl_RulesPut.f
 rw [rulesOk_impl hl (by omega),Option.bind_some]
 by_cases h : rsok l = true
 ·obtain ⟨hr,h8⟩:=h2z h
  have e:=put_loop hr h8 l.length 0 [] rfl (by omega) (by simp;omega) k (by omega)
  rw [List.nil_append,List.drop_zero] at e
  rw [if_pos h,if_pos h]
  exact e
 ·rw [if_neg h,if_neg h]
  rfl
theorem rsok_nil : rsok ([] : List S39) = true:=by decide
theorem trim_line (x : List UInt8) : trimL (tx (x ++ [10])) = x:=by
 unfold trimL Lib.trimSuffix Lib.hasSuffix
 rw [f4z,if_pos (by simp)]
 simp
theorem step_line {r : S39} (h : rok r = true) (acc : List S39) : Sq.stepG acc (tx (lineT r)) = some (acc ++ [r]):=by
 have hw : wordsL (tx (lineT r)) = (parts 32 (bodyT r)).map tx:=by
  unfold wordsL
  rw [lineT_eq,trim_line]
 have hv : ruleV ((parts 32 (bodyT r)).map tx) = r:=by
  unfold ruleV
  rw [ruleGet_words h]
 unfold Sq.stepG
 rw [hw,hv,if_pos (by rw [body_words];rfl)]
theorem fold_lines : ∀ (l acc : List S39),(∀ r ∈ l,rok r = true) → foldG acc ((l.map lineT).map tx) = some (acc ++ l)
 | [],acc,_ => by rw [List.append_nil];rfl
 | r :: l,acc,h => by
  show ((Sq.stepG acc (tx (lineT r))).bind fun m => foldG m ((l.map lineT).map tx)) = _
  rw [step_line (h r List.mem_cons_self),Option.bind_some,fold_lines l _ fun q hq => h q (List.mem_cons_of_mem _ hq),List.append_assoc]
  rfl
theorem lns_le (c : UInt8) : ∀ l : List UInt8,(lns c l).length ≤ l.length
 | [] => Nat.le_refl _
 | b :: r => by
  have ih:=lns_le c r
  unfold lns
  split
  ·simp;omega
  ·cases hp : lns c r with
   | nil => simp
   | cons p ps => rw [hp] at ih;simp at ih ⊢;omega
theorem h8z {l : List S39} (h : rsok l = true) {k : Nat} (hk : 200 ≤ k) : impl_RulesGet.f k (tx (outT l)) = some (l,true):=by
 have hl:=outT_len h
 have h8:=(h2z h).2
 unfold impl_RulesGet.f rulesGetF
 rw [e4z,if_pos (by omega),f4z]
 unfold outT
 rw [lns_lines,fold_lines l [] (rsok_all h),List.nil_append]
 simp only
 rw [rulesPut_impl (by omega) (by omega),if_pos h,Option.bind_some]
 exact if_pos rfl
theorem rulesGet_impl_no {x : List UInt8} (hx : x.length ≤ 1048576) (hn : ∀ l,rsok l = true → x ≠ outT l) {k : Nat} (hk : 1100000 ≤ k) : impl_RulesGet.f k (tx x) = some ([],false):=by
 unfold impl_RulesGet.f rulesGetF
 rw [e4z,if_pos hx,f4z]
 rcases hf : foldG [] ((lns 10 x).map tx) with _|l
 ·rfl
 ·simp only
  have hl:=foldG_len _ _ _ hf
  have hle:=lns_le 10 x
  rw [List.length_nil,List.length_map] at hl
  rw [rulesPut_impl (by omega) (by omega),Option.bind_some]
  apply if_neg
  by_cases hr : rsok l = true
  ·rw [if_pos hr]
   intro e
   exact hn l hr (tx_inj e).symm
  ·rw [if_neg hr]
   intro e
   exact hn [] rsok_nil (tx_inj e).symm
theorem wnat2 {i : Nat} (h : i ≤ 10000000) : wrap64 ((i : Int) + 1) = ((i + 1 : Nat) : Int):=by rw [w64 (by omega) (by omega)];rfl
theorem rd_tx (ls : List (List UInt8)) (i : Nat) (p : List UInt8) (h : ls[i]? = some p) : rdOf ByteArray.empty (ls.map tx) (i : Int) = tx p:=by
 show (ls.map tx).getD ((i : Int)).toNat _ = tx p
 rw [Int.toNat_natCast,List.getD_eq_getElem?_getD,List.getElem?_map,h]
 rfl
theorem specGet_yes {l : List S39} (h : rsok l = true) : ∀ (e i : Nat),l.length - i = e → i ≤ l.length → ∀ k,e + 500 < k → spec_RulesGet.l0 k (tx (outT l)) ((l.map bodyT ++ [[]]).map tx) (l.take i) (i : Int) = some (l,true):=by
 have h8:=(h2z h).2
 have hlen : (((l.map bodyT ++ [[]]).map tx).length : Int) = ((l.length + 1 : Nat) : Int):=by simp
 intro e
 induction e with
 | zero =>
  intro i he hi k hk
  obtain ⟨k,rfl⟩ : ∃ m,k = m + 1:=⟨k - 1,by omega⟩
  obtain rfl : i = l.length:=by omega
  simp only [spec_RulesGet.l0]
  rw [hlen,wnat2 (by omega),if_neg (by omega),List.take_length,h7z (by omega) (by omega),Option.bind_some,h,if_pos rfl,l4Put_ev h (by omega),Option.bind_some,if_pos rfl]
 | succ e ih =>
  intro i he hi k hk
  obtain ⟨k,rfl⟩ : ∃ m,k = m + 1:=⟨k - 1,by omega⟩
  have hlt : i < l.length:=by omega
  have hr : rok l[i] = true:=rsok_all h _ (List.getElem_mem hlt)
  have hp : (l.map bodyT ++ [[]])[i]? = some (bodyT l[i]):=by
   rw [List.getElem?_append_left (by rw [List.length_map];exact hlt),List.getElem?_map,List.getElem?_eq_getElem hlt]
   rfl
  simp only [spec_RulesGet.l0]
  rw [hlen,wnat2 (by omega),if_pos (by omega),if_pos (by omega),if_pos (by omega),rd_tx _ _ _ hp,line_ok hr (by omega),Option.bind_some]
  simp only
  rw [if_pos trivial,if_pos (by rw [lT_];omega)]
  have ht : l.take i ++ [l[i]] = l.take (i + 1):=by rw [List.take_succ_eq_append_getElem hlt]
  refine Eq.trans ?_ (ih (i + 1) (by omega) (by omega) k (by omega))
  rw [← ht]
theorem specGet_no {x : List UInt8} (hn : ∀ l,rsok l = true → x ≠ outT l) (ls : List (List UInt8)) (hls : ∀ p ∈ ls,p.length ≤ 1048576) (hll : ls.length ≤ 1048577) : ∀ (e i : Nat) (acc : List S39),ls.length - i = e → acc.length + e ≤ 1048577 → i ≤ 1048577 → ∀ k,e + 2000100 < k → spec_RulesGet.l0 k (tx x) (ls.map tx) acc (i : Int) = some ([],false):=by
 have fin : ∀ (k : Nat) (acc : List S39),acc.length ≤ 1048577 → 2000050 < k → ((spec_RulesOk.f k acc).bind fun t124 => (if t124 = true then ((spec_l4Put.f k acc).bind fun t125 => (if t125.toList = (tx x).toList then (some (acc,true)) else (some ((([] : List (S39))),false)))) else (some ((([] : List (S39))),false)))) = some ([],false):=by
  intro k acc ha hk
  rw [h7z ha (by omega),Option.bind_some]
  by_cases hr : rsok acc = true
  ·have h8:=(h2z hr).2
   rw [if_pos hr,l4Put_ev hr (by omega),Option.bind_some,if_neg]
   rw [tx_toList,tx_toList]
   exact fun e => hn acc hr e.symm
  ·rw [if_neg hr]
 intro e
 induction e with
 | zero =>
  intro i acc he ha hi k hk
  obtain ⟨k,rfl⟩ : ∃ m,k = m + 1:=⟨k - 1,by omega⟩
  simp only [spec_RulesGet.l0]
  rw [List.length_map,wnat2 (by omega),if_neg (by omega)]
  exact fin k acc (by omega) (by omega)
 | succ e ih =>
  intro i acc he ha hi k hk
  obtain ⟨k,rfl⟩ : ∃ m,k = m + 1:=⟨k - 1,by omega⟩
  simp only [spec_RulesGet.l0]
  rw [List.length_map,wnat2 (by omega)]
  by_cases hc : ((i + 1 : Nat) : Int) < (ls.length : Int)
  ·have hlt : i < ls.length:=by omega
   have hp : ls[i]? = some ls[i]:=List.getElem?_eq_getElem hlt
   obtain ⟨a,b,c,d,f,g,p,q,o,hline⟩:=line_total ls[i] (hls _ (List.getElem_mem hlt)) (k:=k) (by omega)
   rw [if_pos hc,if_pos (by omega),if_pos (by omega),rd_tx _ _ _ hp,hline,Option.bind_some]
   simp only
   cases o
   ·rw [if_neg (by simp)]
   ·rw [if_pos rfl,if_pos (by omega)]
    exact ih (i + 1) _ (by omega) (by rw [List.length_append,List.length_singleton];omega) (by omega) k (by omega)
  ·rw [if_neg hc]
   exact fin k acc (by omega) (by omega)
theorem rulesGet_spec_yes {l : List S39} (h : rsok l = true) {k : Nat} (hk : 2000 ≤ k) : spec_RulesGet.f k (tx (outT l)) = some (l,true):=by
 have hl:=outT_len h
 have h8:=(h2z h).2
 have hc : spec_l1Cut.f k (tx (outT l)) 10 = some ((parts 10 (outT l)).map tx):=cut_ev 10 _ (by omega) (by omega)
 have hp : parts 10 (outT l) = l.map bodyT ++ [[]]:=parts_lines l
 have e:=specGet_yes h l.length 0 (by omega) (by omega) k (by omega)
 unfold spec_RulesGet.f
 rw [hc,Option.bind_some,hp]
 exact e
theorem rulesGet_spec_no {x : List UInt8} (hx : x.length ≤ 1048576) (hn : ∀ l,rsok l = true → x ≠ outT l) {k : Nat} (hk : 4000000 ≤ k) : spec_RulesGet.f k (tx x) = some ([],false):=by
 have hc : spec_l1Cut.f k (tx x) 10 = some ((parts 10 x).map tx):=cut_ev 10 _ (by omega) (by omega)
 have hpl:=(parts_len 10 x).2
 have e:=specGet_no hn (parts 10 x) (fun p hp => Nat.le_trans (parts_len_le 10 x p hp) hx) (by omega) (parts 10 x).length 0 [] (by omega) (by rw [List.length_nil];omega) (by omega) k (by omega)
 unfold spec_RulesGet.f
 rw [hc,Option.bind_some]
 exact e
/-- A text is some valid rules', or it is none. -/
theorem rules_or (x : List UInt8) : (∃ l,rsok l = true ∧ x = outT l) ∨ ∀ l,rsok l = true → x ≠ outT l:=by
 by_cases h : ∃ l,rsok l = true ∧ x = outT l
 ·exact .inl h
 ·exact .inr fun l hl e => h ⟨l,hl,e⟩
/-- Both read the same. -/
theorem rulesGet_both (x : List UInt8) (hx : x.length ≤ 1048576) : ∃ (l : List S39) (b : Bool),(rsok l = true) ∧ (b = true → x = outT l) ∧ ∀ k,4000000 ≤ k → impl_RulesGet.f k (tx x) = some (l,b) ∧ spec_RulesGet.f k (tx x) = some (l,b):=by
 rcases rules_or x with ⟨l,hl,rfl⟩|hn
 ·exact ⟨l,true,hl,fun _ => rfl,fun k hk => ⟨h8z hl (by omega),rulesGet_spec_yes hl (by omega)⟩⟩
 ·exact ⟨[],false,rsok_nil,(fun h => nomatch h),fun k hk => ⟨rulesGet_impl_no hx hn (by omega),rulesGet_spec_no hx hn (by omega)⟩⟩
end Go.Proofs.YtgbdnbbfgcogjaaGreatDoor.Tx

namespace Go.Proofs.YtgbdnbbfgcogjaaGreatDoor.Tx
set_option linter.unusedSimpArgs false
set_option linter.unusedVariables false
open Go.RowKit Go.Proofs.YtgbdnbbfgcogjaaGreatDoor.Q Go.Proofs.YtgbdnbbfgcogjaaGreatDoor.Pure Go.Proofs.YtgbdnbbfgcogjaaGreatDoorW.PrintWords Go.Proofs.YtgbdnbbfgcogjaaGreatDoorW.PrintLast Go.Proofs.YtgbdnbbfgcogjaaGreatDoorW.PrintMore
theorem ovR_same (l : List S39) (hl : l.length ≤ 1000000) {k : Nat} (hk : l.length < k) : laws_ovRules.f k l l = some true:=by
 unfold laws_ovRules.f
 rw [if_pos rfl]
 refine true_loop (fun k i => laws_ovRules.l0 k l l i) l.length 0 true (fun k i hi _ => ?_) (fun k _ => ?_) k (by omega)
 ·simp only [laws_ovRules.l0]
  rw [if_pos (by omega),if_pos (by omega),if_pos (by omega),if_neg (by simp),w64 (by omega) (by omega)]
  rfl
 ·simp only [laws_ovRules.l0]
  rw [if_neg (by omega)]
end Go.Proofs.YtgbdnbbfgcogjaaGreatDoor.Tx

namespace Go.Proofs.YtgbdnbbfgcogjaaGreatDoor.Pure
set_option linter.unusedSimpArgs false
open Go.RowKit Go.Proofs.YtgbdnbbfgcogjaaGreatDoor.Q Go.Proofs.YtgbdnbbfgcogjaaGreatDoor.Open Go.Proofs.YtgbdnbbfgcogjaaGreatDoorW.PrintWords Go.Proofs.YtgbdnbbfgcogjaaGreatDoorW.PrintLast Go.Proofs.YtgbdnbbfgcogjaaGreatDoorW.PrintMore
/-- Bytes, at most two thousand of them. -/
def rdOk (xs : List Int) : Prop:=(∀ y ∈ xs,0 ≤ y ∧ y ≤ 255) ∧ xs.length ≤ 2000
theorem fits_u8 {y : Int} (h : Fits .u8 y) : 0 ≤ y ∧ y ≤ 255:=by
 have g : (decide (IntKind.u8.min ≤ y) && decide (y ≤ IntKind.u8.max)) = true:=h
 rw [Bool.and_eq_true,decide_eq_true_eq,decide_eq_true_eq] at g
 exact g
theorem xor_nn {a b : Int} (ha : 0 ≤ a) (ha' : a < 4611686018427387904) (hb : 0 ≤ b) (hb' : b < 4611686018427387904) : 0 ≤ Go.bits .xor .i64 a b:=by
 obtain ⟨m,rfl⟩:=Int.eq_ofNat_of_zero_le ha
 obtain ⟨n,rfl⟩:=Int.eq_ofNat_of_zero_le hb
 have hm : m < 2 ^ 62:=by omega
 have hn : n < 2 ^ 62:=by omega
 have hx : m ^^^ n < 2 ^ 62:=Nat.xor_lt_two_pow hm hn
 simp only [Go.bits,BitVec.ofInt_natCast,BitVec.toNat_xor,BitVec.toNat_ofNat]
 rw [Nat.mod_eq_of_lt (show m < 2 ^ IntKind.i64.bits by show m < 2 ^ 64;omega),Nat.mod_eq_of_lt (show n < 2 ^ IntKind.i64.bits by show n < 2 ^ 64;omega),IntKind.wrap_i64]
 generalize m ^^^ n = z at hx
 omega
theorem rd_byte {xs : List Int} (hx : rdOk xs) (i : Int) : 0 ≤ rd xs i ∧ rd xs i ≤ 255:=by
 show 0 ≤ xs.getD i.toNat 0 ∧ xs.getD i.toNat 0 ≤ 255
 rw [List.getD_eq_getElem?_getD]
 by_cases h : i.toNat < xs.length
 ·rw [List.getElem?_eq_getElem h]
  exact hx.1 _ (List.getElem_mem h)
 ·rw [List.getElem?_eq_none (by omega)]
  decide
theorem tmod_in {a n : Int} (ha : 0 ≤ a) (hn : 1 ≤ n) : 0 ≤ Int.tmod a n ∧ Int.tmod a n < n:=⟨Int.tmod_nonneg _ ha,Int.tmod_lt_of_pos _ (by omega)⟩
theorem g1z {xs : List Int} (hx : rdOk xs) {s n : Int} (hs : 0 ≤ s) (hs' : s ≤ 1000000000) (hn : 1 ≤ n) {k : Nat} (hk : 1 ≤ k) : ∃ v,spec_l1Rd_pick.f k xs s n = some (v,s + 1) ∧ 0 ≤ v ∧ v < n:=by
 obtain ⟨k,rfl⟩ : ∃ m,k = m + 1:=⟨k - 1,by omega⟩
 have hl:=hx.2
 unfold spec_l1Rd_pick.f
 rw [if_neg (by omega),w64 (x:=s + 1) (by omega) (by omega)]
 simp only [spec_l1Rd_pick.j0]
 rw [w64 (x:=s + 1 - 1) (by omega) (by omega),show s + 1 - 1 = s by omega]
 by_cases h0 : xs.length = 0
 ·rw [if_pos (by simp [h0])]
  exact ⟨0,rfl,by omega,by omega⟩
 ·rw [if_neg (by simp;intro h;exact h0 (by rw [h];rfl))]
  by_cases h1 : s < (xs.length : Int)
  ·obtain ⟨g0,g1⟩:=rd_byte hx s
   rw [if_pos h1,if_pos hs,if_neg (by omega),w64 (by omega) (by omega)]
   obtain ⟨t0,t1⟩:=tmod_in g0 hn
   exact ⟨_,rfl,t0,t1⟩
  ·rw [if_neg h1,if_neg (by omega)]
   obtain ⟨i0,i1⟩:=tmod_in (n:=(xs.length : Int)) hs (by omega)
   rw [if_pos i0,if_pos i1,w64 (x:=s * 7) (by omega) (by omega),w64 (x:=s * 7 + 3) (by omega) (by omega)]
   obtain ⟨j0,j1⟩:=tmod_in (a:=s * 7 + 3) (n:=(xs.length : Int)) (by omega) (by omega)
   rw [if_pos j0,if_pos j1,if_neg (by omega)]
   obtain ⟨g0,g1⟩:=rd_byte hx (Int.tmod s (xs.length : Int))
   obtain ⟨f0,f1⟩:=rd_byte hx (Int.tmod (s * 7 + 3) (xs.length : Int))
   have q0 : 0 ≤ Int.tdiv s (xs.length : Int):=Int.tdiv_nonneg hs (by omega)
   have q1 : Int.tdiv s (xs.length : Int) ≤ s:=by
    rw [Int.tdiv_eq_ediv_of_nonneg hs]
    exact Int.ediv_le_self _ hs
   generalize rd xs (Int.tmod s (xs.length : Int)) = g at *
   generalize rd xs (Int.tmod (s * 7 + 3) (xs.length : Int)) = f at *
   generalize Int.tdiv s (xs.length : Int) = q at *
   rw [w64 (x:=g) (by omega) (by omega),w64 (x:=f) (by omega) (by omega),w64 (x:=q) (by omega) (by omega),w64 (x:=g * 131) (by omega) (by omega),w64 (x:=f * 1117) (by omega) (by omega),w64 (x:=s * 29) (by omega) (by omega),w64 (x:=q * 53) (by omega) (by omega),w64 (x:=g * 131 + f * 1117) (by omega) (by omega),w64 (x:=g * 131 + f * 1117 + s * 29) (by omega) (by omega),w64 (x:=g * 131 + f * 1117 + s * 29 + q * 53) (by omega) (by omega)]
   have hA : 0 ≤ g * 131 + f * 1117 + s * 29 + q * 53:=by omega
   have hA' : g * 131 + f * 1117 + s * 29 + q * 53 < 4611686018427387904:=by omega
   generalize g * 131 + f * 1117 + s * 29 + q * 53 = A at hA hA'
   rw [Int.tdiv_eq_ediv_of_nonneg hA,w64 (x:=A / 64) (by omega) (by omega)]
   obtain ⟨t0,t1⟩:=tmod_in (xor_nn hA hA' (b:=A / 64) (by omega) (by omega)) hn
   exact ⟨_,rfl,t0,t1⟩
theorem one_ev {xs : List Int} (hx : rdOk xs) {s : Int} (hs : 0 ≤ s) (hs' : s ≤ 1000000000) (l : List Int) (hl : 1 ≤ l.length) {k : Nat} (hk : 1 ≤ k) : ∃ v,spec_l1Rd_one.f k xs s l = some (v,s + 1) ∧ v ∈ l:=by
 unfold spec_l1Rd_one.f
 obtain ⟨v,e,v0,v1⟩:=g1z hx hs hs' (n:=(l.length : Int)) (by omega) hk
 rw [e,Option.bind_some]
 dsimp only
 rw [if_pos v0,if_pos v1]
 refine ⟨_,rfl,?_⟩
 show l.getD v.toNat 0 ∈ l
 rw [List.getD_eq_getElem?_getD,List.getElem?_eq_getElem (by omega)]
 exact List.getElem_mem _
theorem rdof_ev {xs : List Int} (hx : rdOk xs) {s : Int} (hs : 0 ≤ s) (hs' : s ≤ 1000000000) (l : List ByteArray) (hl : 1 ≤ l.length) {k : Nat} (hk : 1 ≤ k) : ∃ v,spec_l1Rd_of.f k xs s l = some (v,s + 1) ∧ v ∈ l:=by
 unfold spec_l1Rd_of.f
 obtain ⟨v,e,v0,v1⟩:=g1z hx hs hs' (n:=(l.length : Int)) (by omega) hk
 rw [e,Option.bind_some]
 dsimp only
 rw [if_pos v0,if_pos v1]
 refine ⟨_,rfl,?_⟩
 show l.getD v.toNat ByteArray.empty ∈ l
 rw [List.getD_eq_getElem?_getD,List.getElem?_eq_getElem (by omega)]
 exact List.getElem_mem _
theorem drAddr_ev {xs : List Int} (hx : rdOk xs) {s : Int} (hs : 0 ≤ s) (hs' : s ≤ 999999990) {k : Nat} (hk : 1 ≤ k) : ∃ a,spec_l12Addr.f k xs s = some (a,s + 6) ∧ 0 ≤ a ∧ a ≤ 4294967295:=by
 unfold spec_l12Addr.f
 obtain ⟨v0,e0,l0,u0⟩:=g1z hx (s:=s) (n:=256) (by omega) (by omega) (by omega) hk
 obtain ⟨v1,e1,l1,u1⟩:=g1z hx (s:=s + 1) (n:=8) (by omega) (by omega) (by omega) hk
 obtain ⟨v2,e2,l2,u2⟩:=g1z hx (s:=s + 1 + 1) (n:=16) (by omega) (by omega) (by omega) hk
 obtain ⟨v3,e3,l3,u3⟩:=g1z hx (s:=s + 1 + 1 + 1) (n:=256) (by omega) (by omega) (by omega) hk
 obtain ⟨v4,e4,l4,u4⟩:=g1z hx (s:=s + 1 + 1 + 1 + 1) (n:=64) (by omega) (by omega) (by omega) hk
 simp only [e0,e1,e2,e3,e4,Option.bind_some]
 rw [w64 (x:=167772160 + v0) (by omega) (by omega),w64 (x:=167772160 + v1) (by omega) (by omega),w64 (x:=167772416 + v2) (by omega) (by omega),w64 (x:=3232235520 + v3) (by omega) (by omega),w64 (x:=v4 * 256) (by omega) (by omega),w64 (x:=2886729728 + v4 * 256) (by omega) (by omega)]
 obtain ⟨v,e,hv⟩:=one_ev hx (s:=s + 1 + 1 + 1 + 1 + 1) (by omega) (by omega) [167772160 + v0,167772160 + v1,167772416 + v2,3232235520 + v3,0,4294967295,184549375,2886729728 + v4 * 256] (by simp) hk
 rw [e,Option.bind_some]
 refine ⟨v,by show some (v,s + 1 + 1 + 1 + 1 + 1 + 1) = _;congr 2;omega,?_⟩
 simp only [List.mem_cons,List.not_mem_nil,or_false] at hv
 omega
theorem over_ev {a b : Int} (h0 : 0 ≤ a) (h1 : a ≤ 4294967295) (h2 : 0 ≤ b) (h3 : b ≤ 32) {k : Nat} (hk : 40 ≤ k) : spec_l1Over.f k a b = some (a / sz b * sz b,b) ∧ bok (a / sz b * sz b) b = true:=by
 have hp:=sz_pos b
 have hd : sz b * (a / sz b) + a % sz b = a:=Int.mul_ediv_add_emod a (sz b)
 have hr:=Int.emod_nonneg a (show sz b ≠ 0 by omega)
 have hq : 0 ≤ a / sz b:=Int.ediv_nonneg h0 (by omega)
 have hq' : a / sz b ≤ a:=Int.ediv_le_self _ h0
 have hm : 0 ≤ a / sz b * sz b:=Int.mul_nonneg hq (by omega)
 rw [Int.mul_comm] at hd
 constructor
 ·unfold spec_l1Over.f
  rw [size_spec h2 h3 hk,Option.bind_some,if_neg (by omega),Option.bind_some,Int.tdiv_eq_ediv_of_nonneg h0,w64 (x:=a / sz b) (by omega) (by omega),w64 (by omega) (by omega)]
 ·rw [bok_iff]
  exact ⟨hm,by omega,h2,h3,Int.mul_emod_left _ _⟩
theorem drBlock_ev {xs : List Int} (hx : rdOk xs) {s : Int} (hs : 0 ≤ s) (hs' : s ≤ 999999980) {k : Nat} (hk : 40 ≤ k) : ∃ a b,spec_l12Block.f k xs s = some (a,b,s + 7) ∧ bok a b = true:=by
 unfold spec_l12Block.f
 obtain ⟨a,ea,a0,a1⟩:=drAddr_ev hx hs (by omega) (show 1 ≤ k by omega)
 obtain ⟨b,eb,hb⟩:=one_ev hx (s:=s + 6) (by omega) (by omega) [32,31,30,28,24,24,25,16,8,1,0,29] (by simp) (show 1 ≤ k by omega)
 simp only [List.mem_cons,List.not_mem_nil,or_false] at hb
 obtain ⟨eo,ho⟩:=over_ev (b:=b) a0 a1 (by omega) (by omega) hk
 rw [ea,Option.bind_some]
 dsimp only
 rw [eb,Option.bind_some]
 dsimp only
 rw [eo,Option.bind_some]
 exact ⟨_,_,by show some (_,_,s + 6 + 1) = _;congr 3;omega,ho⟩
theorem drAnyBlock_ev {xs : List Int} (hx : rdOk xs) {s : Int} (hs : 0 ≤ s) (hs' : s ≤ 999999970) {k : Nat} (hk : 40 ≤ k) : ∃ a b t,spec_l12AnyBlock.f k xs s = some (a,b,t) ∧ s ≤ t ∧ t ≤ s + 10 ∧ -1 ≤ a ∧ a ≤ 8589934592 ∧ -1 ≤ b ∧ b ≤ 33:=by
 unfold spec_l12AnyBlock.f
 obtain ⟨a,b,eb,hb⟩:=drBlock_ev hx hs (by omega) hk
 obtain ⟨h0,h1,h2,h3,_⟩:=bok_iff.1 hb
 obtain ⟨v,ev,v0,v1⟩:=g1z hx (s:=s + 7) (n:=16) (by omega) (by omega) (by omega) (show 1 ≤ k by omega)
 rw [eb,Option.bind_some]
 dsimp only
 rw [ev,Option.bind_some]
 dsimp only
 by_cases g0 : v = 0
 ·obtain ⟨c,ec,hc⟩:=one_ev hx (s:=s + 7 + 1) (by omega) (by omega) [1,-1,256] (by simp) (show 1 ≤ k by omega)
  simp only [List.mem_cons,List.not_mem_nil,or_false] at hc
  rw [if_pos g0,ec,Option.bind_some]
  exact ⟨_,_,_,rfl,by omega,by omega,by rw [w64 (by dsimp only;omega) (by dsimp only;omega)];dsimp only;omega,by rw [w64 (by dsimp only;omega) (by dsimp only;omega)];dsimp only;omega,by omega,by omega⟩
 ·rw [if_neg g0]
  by_cases g1 : v = 1
  ·obtain ⟨c,ec,hc⟩:=one_ev hx (s:=s + 7 + 1) (by omega) (by omega) [-1,33,0,32] (by simp) (show 1 ≤ k by omega)
   simp only [List.mem_cons,List.not_mem_nil,or_false] at hc
   rw [if_pos g1,ec,Option.bind_some]
   exact ⟨_,_,_,rfl,by omega,by omega,by omega,by omega,by dsimp only;omega,by dsimp only;omega⟩
  ·rw [if_neg g1]
   exact ⟨_,_,_,rfl,by omega,by omega,by omega,by omega,by omega,by omega⟩
theorem drCut_ev {xs : List Int} (hx : rdOk xs) {s : Int} (hs : 0 ≤ s) (hs' : s ≤ 999999900) (a : ByteArray) (ha : a.size ≤ 100000) {k : Nat} (hk : 1 ≤ k) : ∃ v t,spec_l12Cut.f k xs s a = some (v,t) ∧ v.size ≤ a.size + 3:=by
 unfold spec_l12Cut.f
 obtain ⟨p,ep,p0,p1⟩:=g1z hx hs (by omega) (n:=(a.size : Int) + 1) (by omega) hk
 obtain ⟨q,eq,q0,q1⟩:=g1z hx (s:=s + 1) (n:=5) (by omega) (by omega) (by omega) hk
 rw [w64 (x:=(a.size : Int) + 1) (by omega) (by omega),ep,Option.bind_some]
 dsimp only
 rw [eq,Option.bind_some]
 dsimp only
 have z1 : (a.extract 0 p.toNat).size = p.toNat:=by rw [ByteArray.size_extract];omega
 have z2 : (a.extract p.toNat a.size).size = a.size - p.toNat:=by rw [ByteArray.size_extract];omega
 by_cases h0 : q = 0
 ·rw [if_pos h0,if_pos p0,if_pos (by omega)]
  obtain ⟨v,ev,hv⟩:=rdof_ev hx (s:=s + 1 + 1) (by omega) (by omega) [⟨#[48]⟩,⟨#[46]⟩,⟨#[47]⟩,⟨#[32]⟩,⟨#[49]⟩,⟨#[50,53,54]⟩,⟨#[10]⟩,⟨#[45]⟩,⟨#[120]⟩] (by simp) hk
  have hv3 : v.size ≤ 3:=by
   simp only [List.mem_cons,List.not_mem_nil,or_false] at hv
   rcases hv with h|h|h|h|h|h|h|h|h <;> (subst h;decide)
  rw [ev,Option.bind_some]
  dsimp only
  rw [if_pos (by omega),if_pos (by rw [ByteArray.size_append];omega)]
  exact ⟨_,_,rfl,by rw [ByteArray.size_append,ByteArray.size_append];omega⟩
 ·rw [if_neg h0]
  by_cases h1 : q = 1
  ·rw [if_pos h1,if_pos p0,if_pos (by omega)]
   exact ⟨_,_,rfl,by omega⟩
  ·rw [if_neg h1]
   exact ⟨_,_,rfl,by omega⟩
theorem open_ev {xs : List Int} (hx : ∀ y ∈ xs,0 ≤ y ∧ y ≤ 255) : ∃ ys,spec_l1Open.f xs = some (ys,0) ∧ rdOk ys:=by
 unfold spec_l1Open.f
 by_cases h : (xs.length : Int) > 2000
 ·rw [if_pos h,if_pos (by omega)]
  exact ⟨_,rfl,fun y hy => hx y (List.mem_of_mem_take hy),by rw [lT_];omega⟩
 ·rw [if_neg h]
  exact ⟨_,rfl,hx,by omega⟩
end Go.Proofs.YtgbdnbbfgcogjaaGreatDoor.Pure

namespace Go.Proofs.YtgbdnbbfgcogjaaGreatDoor.Tx
set_option linter.unusedSimpArgs false
set_option linter.unusedVariables false
open Go.RowKit Go.Proofs.YtgbdnbbfgcogjaaGreatDoor.Q Go.Proofs.YtgbdnbbfgcogjaaGreatDoor.Pure Go.Proofs.YtgbdnbbfgcogjaaGreatDoor.Open Go.Proofs.YtgbdnbbfgcogjaaGreatDoorW.PrintWords Go.Proofs.YtgbdnbbfgcogjaaGreatDoorW.PrintLast Go.Proofs.YtgbdnbbfgcogjaaGreatDoorW.PrintMore
theorem rok_mk {r : S39} (h1 : bok r.f2.f0 r.f2.f1 = true) (h2 : bok r.f3.f0 r.f3.f1 = true) (h3 : 0 ≤ r.f4) (h4 : r.f4 ≤ r.f5) (h5 : r.f5 ≤ 65535) (h6 : 0 ≤ r.f0) (h7 : r.f0 ≤ 2) (h8 : r.f1 = 0 ∨ (r.f0 = 2 ∧ 0 ≤ r.f1 ∧ r.f1 ≤ 3)) : rok r = true:=by
 unfold rok
 simp only [Bool.and_eq_true,Bool.or_eq_true,decide_eq_true_eq]
 exact ⟨h1,h2,⟨h3,h4⟩,h5,⟨h6,h7⟩,h8⟩
theorem rsok_mk {l : List S39} (h : ∀ r ∈ l,rok r = true) (h8 : l.length ≤ 8) : rsok l = true:=by
 unfold rsok
 rw [if_pos]
 ·exact decide_eq_true (by omega)
 ·rw [List.all_eq_true]
  intro i hi
  have hl:=List.mem_range.1 hi
  rw [List.getD_eq_getElem?_getD,List.getElem?_eq_getElem hl]
  exact h _ (List.getElem_mem hl)
theorem drRule_ok {xs : List Int} (hx : rdOk xs) {s : Int} (hs : 0 ≤ s) (hs' : s ≤ 999999900) {k : Nat} (hk : 50 ≤ k) : ∃ (r : S39) (t : Int),spec_l12Rule.f k xs s = some (r.f0,r.f1,r.f2.f0,r.f2.f1,r.f3.f0,r.f3.f1,r.f4,r.f5,t) ∧ s ≤ t ∧ t ≤ s + 18 ∧ rok r = true:=by
 unfold spec_l12Rule.f
 obtain ⟨a,ea,ha⟩:=one_ev hx (s:=s) (by omega) (by omega) [0,1,2,2,2] (by simp) (show 1 ≤ k by omega)
 obtain ⟨b0,b1,eb,hb⟩:=drBlock_ev hx (s:=s + 1) (by omega) (by omega) (show 40 ≤ k by omega)
 obtain ⟨c0,c1,ec,hc⟩:=drBlock_ev hx (s:=s + 1 + 7) (by omega) (by omega) (show 40 ≤ k by omega)
 obtain ⟨d,ed,hd⟩:=one_ev hx (s:=s + 1 + 7 + 7) (by omega) (by omega) [0,0,80,100] (by simp) (show 1 ≤ k by omega)
 obtain ⟨f,ef,hf⟩:=one_ev hx (s:=s + 1 + 7 + 7 + 1) (by omega) (by omega) [65535,80,100,443] (by simp) (show 1 ≤ k by omega)
 obtain ⟨v,ev,v0,v1⟩:=g1z hx (s:=s + 1 + 7 + 7 + 1 + 1) (n:=2) (by omega) (by omega) (by omega) (show 1 ≤ k by omega)
 simp only [ea,eb,ec,ed,ef,ev,Option.bind_some]
 simp only [List.mem_cons,List.not_mem_nil,or_false] at ha hd hf
 by_cases h1 : f < d
 ·rw [if_pos h1]
  by_cases h2 : a = 2
  ·rw [if_pos h2]
   exact ⟨⟨a,v,⟨b0,b1⟩,⟨c0,c1⟩,d,d⟩,_,rfl,by omega,by omega,rok_mk hb hc (show 0 ≤ d by omega) (Int.le_refl _) (show d ≤ 65535 by omega) (show 0 ≤ a by omega) (show a ≤ 2 by omega) (.inr ⟨h2,v0,show v ≤ 3 by omega⟩)⟩
  ·rw [if_neg h2]
   exact ⟨⟨a,0,⟨b0,b1⟩,⟨c0,c1⟩,d,d⟩,_,rfl,by omega,by omega,rok_mk hb hc (show 0 ≤ d by omega) (Int.le_refl _) (show d ≤ 65535 by omega) (show 0 ≤ a by omega) (show a ≤ 2 by omega) (.inl rfl)⟩
 ·rw [if_neg h1]
  by_cases h2 : a = 2
  ·rw [if_pos h2]
   exact ⟨⟨a,v,⟨b0,b1⟩,⟨c0,c1⟩,d,f⟩,_,rfl,by omega,by omega,rok_mk hb hc (show 0 ≤ d by omega) (show d ≤ f by omega) (show f ≤ 65535 by omega) (show 0 ≤ a by omega) (show a ≤ 2 by omega) (.inr ⟨h2,v0,show v ≤ 3 by omega⟩)⟩
  ·rw [if_neg h2]
   exact ⟨⟨a,0,⟨b0,b1⟩,⟨c0,c1⟩,d,f⟩,_,rfl,by omega,by omega,rok_mk hb hc (show 0 ≤ d by omega) (show d ≤ f by omega) (show f ≤ 65535 by omega) (show 0 ≤ a by omega) (show a ≤ 2 by omega) (.inl rfl)⟩
theorem drRules_ok {xs : List Int} (hx : rdOk xs) {s : Int} (hs : 0 ≤ s) (hs' : s ≤ 999990000) {k : Nat} (hk : 70 ≤ k) : ∃ l t,spec_l12Rules.f k xs s = some (l,t) ∧ s ≤ t ∧ t ≤ s + 200 ∧ l.length ≤ 6 ∧ ∀ r ∈ l,rok r = true:=by
 have key : ∀ (n : Nat) (l : List S39) (u : Int) (k : Nat),0 ≤ u → u + 18 * (n : Int) ≤ 999999000 → l.length + n ≤ 100 → n ≤ 10 → 60 + n ≤ k → (∀ r ∈ l,rok r = true) → ∃ l' t,spec_l12Rules.l0 k l (n : Int) xs u = some (l',t) ∧ u ≤ t ∧ t ≤ u + 18 * (n : Int) + 2 ∧ l'.length ≤ l.length + n + 1 ∧ ∀ r ∈ l',rok r = true:=by
  intro n
  induction n with
  | zero =>
   intro l u k hu hu' hl hn hk hr
   obtain ⟨k,rfl⟩ : ∃ m,k = m + 1:=⟨k - 1,by omega⟩
   simp only [spec_l12Rules.l0]
   obtain ⟨v,ev,_⟩:=g1z hx (s:=u) (n:=2) (by omega) (by omega) (by omega) (show 1 ≤ k by omega)
   obtain ⟨a,ea,ha⟩:=one_ev hx (s:=u + 1) (by omega) (by omega) [1,2,2] (by simp) (show 1 ≤ k by omega)
   obtain ⟨eo,ho⟩:=over_ev (a:=0) (b:=0) (by omega) (by omega) (by omega) (by omega) (show 40 ≤ k by omega)
   simp only [List.mem_cons,List.not_mem_nil,or_false] at ha
   rw [if_neg (by omega)]
   simp only [ev,ea,eo,Option.bind_some]
   by_cases h : v = 0
   ·rw [if_pos h,if_pos (by omega)]
    refine ⟨_,_,rfl,by omega,by omega,by simp,fun r hm => ?_⟩
    rcases List.mem_append.1 hm with hm|hm
    ·exact hr r hm
    ·rw [List.mem_singleton.1 hm]
     exact rok_mk ho ho (Int.le_refl _) (show (0 : Int) ≤ 65535 by omega) (Int.le_refl _) (show 0 ≤ a by omega) (show a ≤ 2 by omega) (.inl rfl)
   ·rw [if_neg h]
    exact ⟨_,_,rfl,by omega,by omega,by omega,hr⟩
  | succ n ih =>
   intro l u k hu hu' hl hn hk hr
   obtain ⟨k,rfl⟩ : ∃ m,k = m + 1:=⟨k - 1,by omega⟩
   simp only [spec_l12Rules.l0]
   obtain ⟨q,t,et,t0,t1,hq⟩:=drRule_ok hx (s:=u) (by omega) (by omega) (show 50 ≤ k by omega)
   rw [if_pos (by omega),et,Option.bind_some]
   dsimp only
   rw [if_pos (by omega),w64 (by omega) (by omega),show ((n + 1 : Nat) : Int) - 1 = (n : Int) by omega]
   obtain ⟨l',t',e',g0,g1,g2,g3⟩:=ih (l ++ [q]) t k (by omega) (by omega) (by rw [List.length_append,List.length_singleton];omega) (by omega) (by omega) (fun r hm => by
    rcases List.mem_append.1 hm with hm|hm
    ·exact hr r hm
    ·rw [List.mem_singleton.1 hm];exact hq)
   rw [List.length_append,List.length_singleton] at g2
   exact ⟨l',t',e',by omega,by omega,by omega,g3⟩
 unfold spec_l12Rules.f
 obtain ⟨v,ev,v0,v1⟩:=g1z hx (s:=s) (n:=5) (by omega) (by omega) (by omega) (show 1 ≤ k by omega)
 obtain ⟨n,rfl⟩:=Int.eq_ofNat_of_zero_le v0
 obtain ⟨l,t,e,t0,t1,h,hr⟩:=key n [] (s + 1) k (by omega) (by omega) (by rw [List.length_nil];omega) (by omega) (by omega) (fun r hm => by cases hm)
 rw [ev,Option.bind_some]
 exact ⟨l,t,e,by omega,by omega,by rw [List.length_nil] at h;omega,hr⟩
theorem drAnyRules_ev {xs : List Int} (hx : rdOk xs) {s : Int} (hs : 0 ≤ s) (hs' : s ≤ 999980000) {k : Nat} (hk : 100 ≤ k) : ∃ l t,spec_l12AnyRules.f k xs s = some (l,t) ∧ l.length ≤ 10:=by
 have key : ∀ (n : Nat) (l : List S39) (u : Int) (k : Nat),9 ≤ l.length + n → l.length ≤ 9 → 0 ≤ u → u + 20 * (n : Int) ≤ 999999000 → n ≤ 9 → 60 + n ≤ k → ∃ l' t,spec_l12AnyRules.l0 k l xs u = some (l',t) ∧ l'.length ≤ 10:=by
  intro n
  induction n with
  | zero =>
   intro l u k hl hl9 hu hu' hn hk
   obtain ⟨k,rfl⟩ : ∃ m,k = m + 1:=⟨k - 1,by omega⟩
   simp only [spec_l12AnyRules.l0]
   obtain ⟨v,ev,v0,v1⟩:=g1z hx (s:=u) (n:=2) (by omega) (by omega) (by omega) (show 1 ≤ k by omega)
   rw [ev,Option.bind_some]
   dsimp only
   rw [w64 (by omega) (by omega),if_neg (by omega)]
   exact ⟨_,_,rfl,by omega⟩
  | succ n ih =>
   intro l u k hl hl9 hu hu' hn hk
   obtain ⟨k,rfl⟩ : ∃ m,k = m + 1:=⟨k - 1,by omega⟩
   simp only [spec_l12AnyRules.l0]
   obtain ⟨v,ev,v0,v1⟩:=g1z hx (s:=u) (n:=2) (by omega) (by omega) (by omega) (show 1 ≤ k by omega)
   rw [ev,Option.bind_some]
   dsimp only
   rw [w64 (by omega) (by omega)]
   by_cases h : (l.length : Int) < 8 + v
   ·obtain ⟨q,t,et,t0,t1,hq⟩:=drRule_ok hx (s:=u + 1) (by omega) (by omega) (show 50 ≤ k by omega)
    rw [if_pos h,et,Option.bind_some]
    dsimp only
    rw [if_pos (by omega)]
    obtain ⟨l',t',e',g⟩:=ih (l ++ [q]) t k (by rw [List.length_append,List.length_singleton];omega) (by rw [List.length_append,List.length_singleton];omega) (by omega) (by omega) (by omega) (by omega)
    exact ⟨l',t',e',g⟩
   ·rw [if_neg h]
    exact ⟨_,_,rfl,by omega⟩
 unfold spec_l12AnyRules.f
 obtain ⟨l,t,e,t0,t1,hl,_⟩:=drRules_ok hx hs (by omega) (show 70 ≤ k by omega)
 rw [e,Option.bind_some]
 dsimp only
 by_cases h0 : (l.length : Int) = 0
 ·rw [if_pos h0]
  exact ⟨_,_,rfl,by omega⟩
 ·obtain ⟨v,ev,v0,v1⟩:=g1z hx (s:=t) (n:=(l.length : Int)) (by omega) (by omega) (by omega) (show 1 ≤ k by omega)
  obtain ⟨c,ec,c0,c1⟩:=g1z hx (s:=t + 1) (n:=20) (by omega) (by omega) (by omega) (show 1 ≤ k by omega)
  rw [if_neg h0,ev,Option.bind_some]
  dsimp only
  rw [ec,Option.bind_some]
  dsimp only
  by_cases g0 : c = 0
  ·obtain ⟨d,ed,_⟩:=one_ev hx (s:=t + 1 + 1) (by omega) (by omega) [-1,3,0] (by simp) (show 1 ≤ k by omega)
   rw [if_pos g0,ed,Option.bind_some,if_pos v0,if_pos v1]
   exact ⟨_,_,rfl,by rw [List.length_set];omega⟩
  ·rw [if_neg g0]
   by_cases g1 : c = 1
   ·obtain ⟨d,ed,_⟩:=one_ev hx (s:=t + 1 + 1) (by omega) (by omega) [-1,4,1] (by simp) (show 1 ≤ k by omega)
    rw [if_pos g1,ed,Option.bind_some,if_pos v0,if_pos v1]
    exact ⟨_,_,rfl,by rw [List.length_set];omega⟩
   ·rw [if_neg g1]
    by_cases g2 : c = 2
    ·obtain ⟨d,ed,_⟩:=one_ev hx (s:=t + 1 + 1) (by omega) (by omega) [-1,65536] (by simp) (show 1 ≤ k by omega)
     rw [if_pos g2,ed,Option.bind_some,if_pos v0,if_pos v1]
     exact ⟨_,_,rfl,by rw [List.length_set];omega⟩
    ·rw [if_neg g2]
     by_cases g3 : c = 3
     ·obtain ⟨b0,b1,u,eb,_⟩:=drAnyBlock_ev hx (s:=t + 1 + 1) (by omega) (by omega) (show 40 ≤ k by omega)
      rw [if_pos g3,eb,Option.bind_some,if_pos v0,if_pos v1]
      exact ⟨_,_,rfl,by rw [List.length_set];omega⟩
     ·rw [if_neg g3]
      by_cases g4 : c = 4
      ·rw [if_pos g4]
       exact key 9 l (t + 1 + 1) k (by omega) (by omega) (by omega) (by omega) (by omega) (by omega)
      ·rw [if_neg g4]
       exact ⟨_,_,rfl,by omega⟩
end Go.Proofs.YtgbdnbbfgcogjaaGreatDoor.Tx

namespace Go.Proofs.YtgbdnbbfgcogjaaGreatDoor.Tx
set_option linter.unusedSimpArgs false
set_option linter.unusedVariables false
open Go.RowKit Go.Proofs.YtgbdnbbfgcogjaaGreatDoor.Q Go.Proofs.YtgbdnbbfgcogjaaGreatDoor.Pure Go.Proofs.YtgbdnbbfgcogjaaGreatDoor.Open Go.Proofs.YtgbdnbbfgcogjaaGreatDoorW.PrintWords Go.Proofs.YtgbdnbbfgcogjaaGreatDoorW.PrintLast Go.Proofs.YtgbdnbbfgcogjaaGreatDoorW.PrintMore
open Go.Proofs.YtgbdnbbfgcogjaaGreatDoor.Sq (tx e4z tx_of)
theorem rulesPut_spec {l : List S39} {k : Nat} (hl : l.length ≤ 1048577) (hk : l.length + 100 < k) : spec_RulesPut.f k l = some (if rsok l = true then tx (outT l) else tx []):=by
 unfold spec_RulesPut.f
 rw [h7z hl (by omega),Option.bind_some]
 by_cases h : rsok l = true
 ·rw [if_pos h,if_pos h,l4Put_ev h hk,Option.bind_some]
 ·rw [if_neg h,if_neg h]
  rfl
theorem drawRulesPut_ev {ys : List Int} (hf : ∀ y ∈ ys,Fits .u8 y) {k : Nat} (hk : 100 ≤ k) : ∃ l : List S39,spec_DrawRulesPut.f k ys = some l ∧ l.length ≤ 10:=by
 obtain ⟨xs,eo,hx⟩:=open_ev (fun y hy => fits_u8 (hf y hy))
 obtain ⟨l,t,e,hl⟩:=drAnyRules_ev hx (s:=0) (by omega) (by omega) hk
 unfold spec_DrawRulesPut.f
 simp only [eo,e,Option.bind_some]
 exact ⟨l,rfl,hl⟩
theorem drawRulesGet_ev {ys : List Int} (hf : ∀ y ∈ ys,Fits .u8 y) {k : Nat} (hk : 200 ≤ k) : ∃ s : ByteArray,spec_DrawRulesGet.f k ys = some s ∧ s.size ≤ 1000:=by
 obtain ⟨xs,eo,hx⟩:=open_ev (fun y hy => fits_u8 (hf y hy))
 obtain ⟨l,t,e,t0,t1,hl,hr⟩:=drRules_ok hx (s:=0) (by omega) (by omega) (show 70 ≤ k by omega)
 have hok:=rsok_mk hr (by omega)
 have ho:=outT_len hok
 obtain ⟨v,u,ev,hv⟩:=drCut_ev hx (s:=t) (by omega) (by omega) (tx (outT l)) (by rw [e4z];omega) (show 1 ≤ k by omega)
 rw [e4z] at hv
 unfold spec_DrawRulesGet.f
 simp only [eo,e,Option.bind_some]
 rw [l4Put_ev hok (by omega),Option.bind_some,ev,Option.bind_some]
 exact ⟨v,rfl,by omega⟩
theorem FnRulesText_j1 {ys : List Int} (hf : ∀ y ∈ ys,Fits .u8 y) {k : Nat} (hk : 4000001 ≤ k) : laws_FnRulesText.j1 k ys false = some true:=by
 obtain ⟨k,rfl⟩ : ∃ j,k = j + 1:=⟨k - 1,by omega⟩
 obtain ⟨s,es,hsz⟩:=drawRulesGet_ev hf (k:=k) (by omega)
 have hs:=tx_of s
 have hl : s.data.toList.length = s.size:=Array.length_toList
 obtain ⟨l,b,hr,hb,hall⟩:=rulesGet_both s.data.toList (by omega)
 obtain ⟨hi,hp⟩:=hall k (by omega)
 have h8:=(h2z hr).2
 rw [hs] at hi hp
 simp only [laws_FnRulesText.j1]
 rw [if_neg (by simp),es,Option.bind_some,hi,Option.bind_some,hp,Option.bind_some]
 simp only [beq_self_eq_true]
 rw [if_pos trivial,ovR_same l (by omega) (by omega),Option.bind_some,if_pos rfl]
 cases b
 ·rw [if_neg (by simp)]
 ·rw [if_pos rfl,rulesPut_impl (by omega) (by omega),Option.bind_some,if_pos hr,← hb rfl,hs,beq_self_eq_true]
theorem FnRulesText_law : laws_FnRulesText.Pure:=by
 intro xs ys ⟨_,hx⟩ ⟨_,hy⟩
 refine ⟨5000000,?_⟩
 have hj : ∀ {k : Nat},4500000 ≤ k → laws_FnRulesText.j0 (k + 1) xs ys false = some true:=fun {k} hk => by
  obtain ⟨l,el,h10⟩:=drawRulesPut_ev hx (k:=k) (by omega)
  simp only [laws_FnRulesText.j0]
  rw [if_neg (by simp),el,Option.bind_some,rulesPut_impl (by omega) (by omega),Option.bind_some]
  by_cases h : rsok l = true
  ·rw [if_pos h,h8z h (by omega),Option.bind_some,rulesPut_spec (by omega) (by omega),Option.bind_some,if_pos h,if_pos rfl]
   simp only
   rw [if_pos trivial,h7z (by omega) (by omega),Option.bind_some,h,if_pos rfl,ovR_same l (by omega) (by omega),Option.bind_some]
   exact FnRulesText_j1 hy (by omega)
  ·have e : impl_RulesGet.f k (tx []) = some ([],true):=h8z rsok_nil (by omega)
   rw [if_neg h,e,Option.bind_some,rulesPut_spec (by omega) (by omega),Option.bind_some,if_neg h,if_pos rfl]
   simp only
   rw [if_pos trivial,h7z (by omega) (by omega),Option.bind_some,if_neg h]
   exact FnRulesText_j1 hy (by omega)
 have ht : ∀ {k : Nat},laws_FnRulesText.j0 (k + 1) xs ys true = some true:=fun {k} => by
  simp only [laws_FnRulesText.j0]
  rw [if_pos trivial]
 unfold laws_FnRulesText.f
 by_cases h : (xs.length : Int) > 1048576
 ·rw [if_pos h]
  exact ht (k:=4999999)
 ·rw [if_neg h]
  by_cases h2 : (ys.length : Int) > 1048576
  ·rw [decide_eq_true h2]
   exact ht (k:=4999999)
  ·rw [decide_eq_false h2]
   exact hj (k:=4999999) (by omega)
end Go.Proofs.YtgbdnbbfgcogjaaGreatDoor.Tx
namespace Go.Proofs.YtgbdnbbfgcogjaaGreatDoor.Pure
open Go.Proofs.YtgbdnbbfgcogjaaGreatDoor.Q
theorem FnRulesText : laws_FnRulesText.Pure:=Tx.FnRulesText_law
end Go.Proofs.YtgbdnbbfgcogjaaGreatDoor.Pure
