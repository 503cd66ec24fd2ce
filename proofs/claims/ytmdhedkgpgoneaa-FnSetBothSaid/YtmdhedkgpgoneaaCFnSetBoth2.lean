/- The law FnSetBoth (part 2 of 8): for every input the call answers true and its arguments read afterwards as before. No condition beyond the row's own. -/
import Derived.Test.YtmdhedkgpgoneaaProg
import Derived.Below
import Derived.Deep.Draws
import Derived.Deep.AppendLies
import Derived.Maps.AppendAt
import Derived.OwnWalk
import Derived.Laws.BytesArg
import Derived.Laws.MakeOwn
import Derived.Laws.OwnMore
import Derived.Deep.OwnRows
import Derived.Tactics
import Derived.Lib.ConvBytes
import Derived.Laws.Slices
import Derived.WalkKit
import Derived.KernelRfl
import Derived.RowKit3
import Derived.Deep.LoopGhost
import Derived.Deep.QuietTactic
import Derived.BigQuiet
import Derived.WideLaws
import Derived.Deep.DeepCutAuto
import Derived.Deep.CutBlock
import Derived.Deep.RegionHeld3
import Derived.Laws.Rows
import Derived.Lib.AppendStr
import Derived.ArgAppend
import Derived.Laws.IdiomCopy
import Derived.OrdersHeld
import Derived.Laws.BitsLemmas
import Derived.RowKit
import Derived.Lib.SliceRun
import Derived.RangeFuncNested
import Derived.RangeFuncLeaves
import Derived.Shelf.Abstract
import Derived.OwnWalkIn
import Derived.TacticsInMore
import Derived.LoopNIn
import Derived.LoopIn
import Derived.RangeFuncBox
import Derived.Ground.SlsfProg
import Derived.Shelf.SlSortCmp.WholeK
import Derived.Shelf.SlSortCmp.NoneTotal
import Derived.Sort.OwnSorted
import Derived.Test.YtmdhedkgpgoneaaCFnSetBoth1
namespace Go.Proofs.Ytmdhedkgpgoneaa.Q
open Go.RowKit Go.Proofs.YtmdhedkgpgoneaaW.PrintWords Go.Proofs.YtmdhedkgpgoneaaW.PrintLast Go.Proofs.YtmdhedkgpgoneaaW.PrintMore
attribute [local go_sem] e4z e2z e7z e6z d8z d7z e3z e1z
set_option linter.unusedVariables false
set_option linter.unusedSimpArgs false
def errW : Option Int → Value
 | none => .nilIface
 | some c => .iface 0 (.int .i64 c)
theorem c2z : errW none = .nilIface:=rfl
theorem c1z (c : Int) : errW (some c) = .iface 0 (.int .i64 c):=rfl
theorem info5 : (Try.prog.info? 5).map (fun i => (i.zero,i.size,i.bytes)) = some (some (.int .u8 0),1,1):=by kernel_rfl
theorem info44 : (Try.prog.info? 44).map (fun i => (i.zero,i.size,i.bytes)) = some (some (.agg #[(.int .i64 0),(.int .i64 0)]),2,16):=by kernel_rfl
theorem info55 : (Try.prog.info? 55).map (fun i => (i.zero,i.size,i.bytes)) = some (some (.agg #[(.int .i64 0),(.int .i64 0)]),2,16):=by kernel_rfl
theorem info63 : (Try.prog.info? 63).map (fun i => (i.zero,i.size,i.bytes)) = some (some (.agg #[(.int .i64 0),(.int .i64 0)]),2,16):=by kernel_rfl
-- the values' own types
structure S44 where
 f0 : Int
 f1 : Int
def z44 : S44:=⟨(0 : Int),(0 : Int)⟩
def k44 : Kd S44:=Kd.iso (Kd.pair (Kd.int .i64) (Kd.int .i64)) (fun x : S44 => (x.f0,x.f1))
theorem k44_open {w : World} {x : S44} {cs : List Value} (h : k44.K w x cs) : cs = [.int .i64 x.f0,.int .i64 x.f1]:=by
 obtain ⟨_,_,rfl,rfl,rfl⟩:=h
 exact rfl
theorem k44_mkM (w : World) (base : Nat) (ok : Nat → Prop) (x : S44)  : k44.M w base ok x [.int .i64 x.f0,.int .i64 x.f1]:=⟨[.int .i64 x.f0],[.int .i64 x.f1],rfl,rfl,rfl⟩
def b6z (xs : List S44) (i : Int) : S44:=xs.getD i.toNat z44
theorem h2z {w : World} {A : Option Addr} {n : Nat} {xs : List S44} (h : Kd.C k44 w A n xs) (i : Int) (h0 : 0 ≤ i) (h1 : i < n) : ∃ ad , A = some ad ∧ w.cell? (ad.add (i.toNat * 2)) = some (.int .i64 (b6z xs i).f0) ∧ w.cell? ⟨(ad.add (i.toNat * 2)).block,(ad.add (i.toNat * 2)).off + 1,none⟩ = some (.int .i64 (b6z xs i).f1):=by
 obtain ⟨ad,c,e,_,hK,hc0⟩:=Kd.C_get h z44 i h0 h1
 have hc : ∀ j u,c[j]? = some u → w.cell? (ad.add (i.toNat * 2 + j)) = some u:=hc0
 obtain rfl:=k44_open hK
 exact ⟨ad,e,hc 0 _ rfl,by rw [← add_field _ _ 1 (by omega)];exact hc 1 _ rfl⟩
structure S63 where
 f0 : Int
 f1 : Int
def z63 : S63:=⟨(0 : Int),(0 : Int)⟩
def k63 : Kd S63:=Kd.iso (Kd.pair (Kd.int .i64) (Kd.int .i64)) (fun x : S63 => (x.f0,x.f1))
theorem k63_open {w : World} {x : S63} {cs : List Value} (h : k63.K w x cs) : cs = [.int .i64 x.f0,.int .i64 x.f1]:=by
 obtain ⟨_,_,rfl,rfl,rfl⟩:=h
 exact rfl
theorem k63_openM {w : World} {base : Nat} {ok : Nat → Prop} {x : S63} {cs : List Value} (h : k63.M w base ok x cs) : cs = [.int .i64 x.f0,.int .i64 x.f1]:=by
 obtain ⟨_,_,rfl,rfl,rfl⟩:=h
 exact rfl
theorem h9z (w : World) (base : Nat) (ok : Nat → Prop) (x : S63)  : k63.M w base ok x [.int .i64 x.f0,.int .i64 x.f1]:=⟨[.int .i64 x.f0],[.int .i64 x.f1],rfl,rfl,rfl⟩
def c6z (xs : List S63) (i : Int) : S63:=xs.getD i.toNat z63
theorem h0z {w : World} {A : Option Addr} {n : Nat} {xs : List S63} (h : Kd.C k63 w A n xs) (i : Int) (h0 : 0 ≤ i) (h1 : i < n) : ∃ ad , A = some ad ∧ w.cell? (ad.add (i.toNat * 2)) = some (.int .i64 (c6z xs i).f0) ∧ w.cell? ⟨(ad.add (i.toNat * 2)).block,(ad.add (i.toNat * 2)).off + 1,none⟩ = some (.int .i64 (c6z xs i).f1):=by
 obtain ⟨ad,c,e,_,hK,hc0⟩:=Kd.C_get h z63 i h0 h1
 have hc : ∀ j u,c[j]? = some u → w.cell? (ad.add (i.toNat * 2 + j)) = some u:=hc0
 obtain rfl:=k63_open hK
 exact ⟨ad,e,hc 0 _ rfl,by rw [← add_field _ _ 1 (by omega)];exact hc 1 _ rfl⟩
structure S55 where
 f0 : Int
 f1 : Int
def z55 : S55:=⟨(0 : Int),(0 : Int)⟩
def k55 : Kd S55:=Kd.iso (Kd.pair (Kd.int .i64) (Kd.int .i64)) (fun x : S55 => (x.f0,x.f1))
theorem k55_open {w : World} {x : S55} {cs : List Value} (h : k55.K w x cs) : cs = [.int .i64 x.f0,.int .i64 x.f1]:=by
 obtain ⟨_,_,rfl,rfl,rfl⟩:=h
 exact rfl
theorem k55_openM {w : World} {base : Nat} {ok : Nat → Prop} {x : S55} {cs : List Value} (h : k55.M w base ok x cs) : cs = [.int .i64 x.f0,.int .i64 x.f1]:=by
 obtain ⟨_,_,rfl,rfl,rfl⟩:=h
 exact rfl
theorem k55_mkM (w : World) (base : Nat) (ok : Nat → Prop) (x : S55)  : k55.M w base ok x [.int .i64 x.f0,.int .i64 x.f1]:=⟨[.int .i64 x.f0],[.int .i64 x.f1],rfl,rfl,rfl⟩
def b0z (xs : List S55) (i : Int) : S55:=xs.getD i.toNat z55
theorem i8z {w : World} {A : Option Addr} {n : Nat} {xs : List S55} (h : Kd.C k55 w A n xs) (i : Int) (h0 : 0 ≤ i) (h1 : i < n) : ∃ ad , A = some ad ∧ w.cell? (ad.add (i.toNat * 2)) = some (.int .i64 (b0z xs i).f0) ∧ w.cell? ⟨(ad.add (i.toNat * 2)).block,(ad.add (i.toNat * 2)).off + 1,none⟩ = some (.int .i64 (b0z xs i).f1):=by
 obtain ⟨ad,c,e,_,hK,hc0⟩:=Kd.C_get h z55 i h0 h1
 have hc : ∀ j u,c[j]? = some u → w.cell? (ad.add (i.toNat * 2 + j)) = some u:=hc0
 obtain rfl:=k55_open hK
 exact ⟨ad,e,hc 0 _ rfl,by rw [← add_field _ _ 1 (by omega)];exact hc 1 _ rfl⟩
end Go.Proofs.Ytmdhedkgpgoneaa.Q

namespace Go.Proofs.Ytmdhedkgpgoneaa.Q
open Go.RowKit Go.Proofs.YtmdhedkgpgoneaaW.PrintWords Go.Proofs.YtmdhedkgpgoneaaW.PrintLast Go.Proofs.YtmdhedkgpgoneaaW.PrintMore
attribute [local go_sem] e4z e2z e7z e6z d8z d7z e3z e1z
set_option linter.unusedVariables false
set_option linter.unusedSimpArgs false
def impl_Block_size.f (a0_0 : Int) (a0_1 : Int) : Option (Int):=if 0 ≤ (wrap64 (32 - a0_1)) then (some (shl .i64 1 (wrap64 (32 - a0_1)))) else (none)
set_option maxHeartbeats 8000000 in
set_option maxRecDepth 100000 in
theorem impl_Block_size.calls (a0_0 : Int) (a0_1 : Int) (r : Int) (w : World) (h : impl_Block_size.f a0_0 a0_1 = some r) :
  Calls Try.prog 45 #[.agg #[.int .i64 a0_0,.int .i64 a0_1]] w fun e w' => e = .returned (.int .i64 r) ∧ Below w.heap.size w w':=by
 have hu44:=Try.underlying44
 have HB:=a0z.mk (Below.refl w.heap.size w)
 have H : (if 0 ≤ (wrap64 (32 - a0_1)) then (some (shl .i64 1 (wrap64 (32 - a0_1)))) else (none)) = some r:=h
 clear h
 obtain ⟨ji2,hji2⟩ : ∃ j_ : Int,(wrap64 (32 - a0_1)) = j_:=⟨_,rfl⟩
 replace H : (if 0 ≤ (ji2) then (some (shl .i64 1 (ji2))) else (none)) = some r:=by first|(rw [hji2] at H;exact H)|(simp only [hji2] at H ⊢;exact H)
 have hji2w : (IntKind.i64.wrap (32 - a0_1)) = ji2:=(i64_w _).trans hji2
 by_cases c3 : 0 ≤ (ji2)
 ·rw [if_pos c3] at H
  have c3b0:=eq_true c3
  have c3b1 : decide (0 ≤ (ji2)) = true:=decide_eq_true c3
  clear c3
  obtain ⟨ji4,hji4⟩ : ∃ j_ : Int,(shl .i64 1 (ji2)) = j_:=⟨_,rfl⟩
  replace H : (some ji4) = some r:=by first|(rw [hji4] at H;exact H)|(simp only [hji4] at H ⊢;exact H)
  have hji4_ : (IntKind.i64.wrap (1 * 2 ^ min (ji2).toNat 64)) = ji4:=hji4
  have hji4z : (ji2) ≤ 64 → (IntKind.i64.wrap (1 * 2 ^ (ji2).toNat)) = ji4:=shl_small hji4
  have hji4u : (IntKind.i64.wrap (2 ^ min (ji2).toNat 64)) = ji4:=by have h_:=hji4_;rw [Int.one_mul] at h_;exact h_
  have hji4v : (ji2) ≤ 64 → (IntKind.i64.wrap (2 ^ (ji2).toNat)) = ji4:=fun hle_ => by have h_:=hji4z hle_;rw [Int.one_mul] at h_;exact h_
  have hji4y : (wrap64 (1 * 2 ^ min (ji2).toNat 64)) = ji4:=(i64_w _).symm.trans hji4_
  have hji4x : (ji2) ≤ 64 → (wrap64 (1 * 2 ^ (ji2).toNat)) = ji4:=fun h_ => (i64_w _).symm.trans (hji4z h_)
  obtain rfl:=Option.some.inj H
  go_enter Try.func45,Try.ntmps45
  go_wp2_with (first|((with_reducible refine d4z (N:=1) rfl ?_);refine e0z ?hg (N:=1) ?hd (cs:=#[.int .i64 a0_0,.int .i64 a0_1]) (t:=44) ?hr ?_;(case hd => rfl);(case hg => rfl);(case hr => first|(go_simp;done)|(go_simp;rfl));intro gb101 hg w5 hbox hb;have n0_:=a0z.mk (b3z (by repeat (first|(with_reducible first|exact HB.1|apply a3z|apply a1z|apply a2z)|exact HB.1)) hb);have n1_:=a0z.mk (hbox);have n2_:=a0z.mk ((by rw [hg];exact (b1z (by repeat (first|(with_reducible first|exact HB.1|apply a3z|apply a1z|apply a2z)|exact HB.1))) : w.heap.size ≤ gb101));have n3_:=a0z.mk ((by rw [hg];exact (b1z (by repeat (first|(with_reducible first|exact HB.1|apply a3z|apply a1z|apply a2z)|exact HB.1))) : w.heap.size ≤ gb101));clear HB;have HB:=n0_;have BK101:=n1_;have GW101:=n2_;have GE101:=n3_;clear n0_ n1_ n2_ n3_;clear hb hbox hg;have hcz6_0 : w5.cell? ⟨gb101,0,none⟩ = some (.int .i64 a0_0):=(b2z BK101.1 0).trans rfl;have hcz6_1 : w5.cell? ⟨gb101,1,none⟩ = some (.int .i64 a0_1):=(b2z BK101.1 1).trans rfl;have hfz6_0:=b7z BK101.1 0;have hfz6_1:=b7z BK101.1 1))
  go_ret
  exact ⟨by first|rfl|(simp [c2z,c1z] <;> rfl)|(simp only [← hji2,← hji4];first|rfl|(simp [c2z,c1z] <;> rfl))|(simp [*,c2z,c1z] <;> rfl),by repeat (first|(with_reducible first|exact HB.1|apply a3z|apply a1z|apply a2z|refine a6z ?_ GE101.1)|exact HB.1)⟩
 ·rw [if_neg c3] at H
  exact absurd H (by simp)
end Go.Proofs.Ytmdhedkgpgoneaa.Q

namespace Go.Proofs.Ytmdhedkgpgoneaa.Q
open Go.RowKit Go.Proofs.YtmdhedkgpgoneaaW.PrintWords Go.Proofs.YtmdhedkgpgoneaaW.PrintLast Go.Proofs.YtmdhedkgpgoneaaW.PrintMore
attribute [local go_sem] e4z e2z e7z e6z d8z d7z e3z e1z
set_option linter.unusedVariables false
set_option linter.unusedSimpArgs false
def impl_in.f (a0 : Int) (a1 : Int) (a2 : Int) : Option (Bool):=if a0 ≥ a1 then (some (decide (a0 ≤ a2))) else (some false)
set_option maxHeartbeats 8000000 in
set_option maxRecDepth 100000 in
theorem impl_in.calls (a0 : Int) (a1 : Int) (a2 : Int) (r : Bool) (w : World) (h : impl_in.f a0 a1 a2 = some r) :
  Calls Try.prog 72 #[.int .i64 a0,.int .i64 a1,.int .i64 a2] w fun e w' => e = .returned (.bool r) ∧ Drawn0 w w':=by
 have H : (if a0 ≥ a1 then (some (decide (a0 ≤ a2))) else (some false)) = some r:=h
 clear h
 by_cases c4 : a0 ≥ a1
 ·rw [if_pos c4] at H
  have c4b0 : decide (a1 ≤ a0) = true:=decide_eq_true c4
  clear c4
  obtain rfl:=Option.some.inj H
  go_enter Try.func72,Try.ntmps72
  go_wp2
  go_ret
  exact ⟨by first|rfl|(simp;done)|(simp [*];done),by repeat (first|exact Drawn0.refl _|apply Drawn0.step)⟩
 ·rw [if_neg c4] at H
  have c4b0 : decide (a1 ≤ a0) = false:=decide_eq_false c4
  clear c4
  obtain rfl:=Option.some.inj H
  go_enter Try.func72,Try.ntmps72
  go_wp2
  go_ret
  exact ⟨by first|rfl|(simp;done)|(simp [*];done),by repeat (first|exact Drawn0.refl _|apply Drawn0.step)⟩
end Go.Proofs.Ytmdhedkgpgoneaa.Q

namespace Go.Proofs.Ytmdhedkgpgoneaa.Q
open Go.RowKit Go.Proofs.YtmdhedkgpgoneaaW.PrintWords Go.Proofs.YtmdhedkgpgoneaaW.PrintLast Go.Proofs.YtmdhedkgpgoneaaW.PrintMore
attribute [local go_sem] e4z e2z e7z e6z d8z d7z e3z e1z
set_option linter.unusedVariables false
set_option linter.unusedSimpArgs false
def impl_isAddr.f (a0 : Int) : Option (Bool):=(impl_in.f a0 0 4294967295).bind fun t101 => (some t101)
set_option maxHeartbeats 8000000 in
set_option maxRecDepth 100000 in
theorem impl_isAddr.calls (a0 : Int) (r : Bool) (w : World) (h : impl_isAddr.f a0 = some r) :
  Calls Try.prog 71 #[.int .i64 a0] w fun e w' => e = .returned (.bool r) ∧ Drawn0 w w':=by
 have H : ((impl_in.f a0 0 4294967295).bind fun t101 => (some t101)) = some r:=h
 clear h
 replace H:=Option.bind_eq_some_iff.mp H
 obtain ⟨t101,A20,H⟩:=H
 replace H : (some t101) = some r:=H
 have A2:=a0z.mk A20
 clear A20
 obtain rfl:=Option.some.inj H
 go_enter Try.func71,Try.ntmps71
 go_wp2_with (first|((with_reducible refine b8z (f:=72) rfl ?_);refine d2z (some 4) rfl rfl Try.func72 (by kernel_rfl) rfl #[.int .i64 a0,.int .i64 0,.int .i64 4294967295] rfl (by (try simp only [List.map_toArray,List.map_cons,List.map_nil]);first|done|rfl|(simp only [List.length_drop,List.length_take];rfl)) ?_;(with_reducible refine (impl_in.calls a0 0 4294967295 t101 _ A2.1).mono ?_);rintro e w' ⟨rfl,⟨nd,rfl⟩⟩;refine ⟨_,rfl,?_⟩))
 go_ret
 exact ⟨by first|rfl|(simp;done)|(simp [*];done),by repeat (first|exact Drawn0.refl _|apply Drawn0.step)⟩
end Go.Proofs.Ytmdhedkgpgoneaa.Q

namespace Go.Proofs.Ytmdhedkgpgoneaa.Q
open Go.RowKit Go.Proofs.YtmdhedkgpgoneaaW.PrintWords Go.Proofs.YtmdhedkgpgoneaaW.PrintLast Go.Proofs.YtmdhedkgpgoneaaW.PrintMore
attribute [local go_sem] e4z e2z e7z e6z d8z d7z e3z e1z
set_option linter.unusedVariables false
set_option linter.unusedSimpArgs false
def impl_BlockOk.f (a0_0 : Int) (a0_1 : Int) : Option (Bool):=(impl_isAddr.f a0_0).bind fun t102 => (if t102 = true then ((impl_in.f a0_1 0 32).bind fun t103 => (if t103 = true then ((impl_Block_size.f a0_0 a0_1).bind fun t104 => (if t104 = 0 then (none) else (some ((Int.tmod a0_0 t104) == 0)))) else (some false))) else (some false))
def impl_BlockOk.T1 : Bool × List (List Nat × List Nat):=(true,[([],[]),([0],[0]),([1],[1]),([2,2],[2]),([3],[3]),([4,3],[3,4]),([5,3,3],[3,5]),([3,6],[3,6]),([7,6],[7]),([8],[8]),([9,8],[8,9]),([8],[8]),([11,8,8],[8,11]),([10,12,8],[8,10,12]),([13,8],[8,13]),([8,14],[8,14]),([15,12,0,1,2,3,4,5,6,7,8,9,10,11,12,13,14,15],[15])])
def impl_BlockOk.B1 : List Nat:=[0,1,3,7,15,31,63,127,255,511,1023,511,2559,8191,16383,32767,65535]
theorem impl_BlockOk.tab1 : rtab .any (opsOf Try.f56 1) = impl_BlockOk.T1:=by kernel_rfl
theorem impl_BlockOk.bits1 : waitsOk impl_BlockOk.T1.2 impl_BlockOk.B1 = true:=by kernel_rfl
set_option maxHeartbeats 8000000 in
set_option maxRecDepth 100000 in
theorem impl_BlockOk.calls (a0_0 : Int) (a0_1 : Int) (r : Bool) (w : World) (h : impl_BlockOk.f a0_0 a0_1 = some r) :
  Calls Try.prog 56 #[.agg #[.int .i64 a0_0,.int .i64 a0_1]] w fun e w' => e = .returned (.bool r) ∧ Below w.heap.size w w':=by
 have hu44:=Try.underlying44
 have HB:=a0z.mk (Below.refl w.heap.size w)
 have H : ((impl_isAddr.f a0_0).bind fun t102 => (if t102 = true then ((impl_in.f a0_1 0 32).bind fun t103 => (if t103 = true then ((impl_Block_size.f a0_0 a0_1).bind fun t104 => (if t104 = 0 then (none) else (some ((Int.tmod a0_0 t104) == 0)))) else (some false))) else (some false))) = some r:=h
 clear h
 replace H:=Option.bind_eq_some_iff.mp H
 obtain ⟨t102,A20,H⟩:=H
 replace H : (if t102 = true then ((impl_in.f a0_1 0 32).bind fun t103 => (if t103 = true then ((impl_Block_size.f a0_0 a0_1).bind fun t104 => (if t104 = 0 then (none) else (some ((Int.tmod a0_0 t104) == 0)))) else (some false))) else (some false)) = some r:=H
 have A2:=a0z.mk A20
 clear A20
 by_cases c3 : t102 = true
 ·subst c3
  have H1 : ((impl_in.f a0_1 0 32).bind fun t103 => (if t103 = true then ((impl_Block_size.f a0_0 a0_1).bind fun t104 => (if t104 = 0 then (none) else (some ((Int.tmod a0_0 t104) == 0)))) else (some false))) = some r:=by rw [if_pos rfl] at H;exact H
  clear H
  have H:=H1
  clear H1
  replace H:=Option.bind_eq_some_iff.mp H
  obtain ⟨t103,A40,H⟩:=H
  replace H : (if t103 = true then ((impl_Block_size.f a0_0 a0_1).bind fun t104 => (if t104 = 0 then (none) else (some ((Int.tmod a0_0 t104) == 0)))) else (some false)) = some r:=H
  have A4:=a0z.mk A40
  clear A40
  by_cases c5 : t103 = true
  ·subst c5
   have H1 : ((impl_Block_size.f a0_0 a0_1).bind fun t104 => (if t104 = 0 then (none) else (some ((Int.tmod a0_0 t104) == 0)))) = some r:=by rw [if_pos rfl] at H;exact H
   clear H
   have H:=H1
   clear H1
   replace H:=Option.bind_eq_some_iff.mp H
   obtain ⟨t104,A60,H⟩:=H
   replace H : (if t104 = 0 then (none) else (some ((Int.tmod a0_0 t104) == 0))) = some r:=H
   have A6:=a0z.mk A60
   clear A60
   by_cases c7 : t104 = 0
   ·rw [if_pos c7] at H
    exact absurd H (by simp)
   ·rw [if_neg c7] at H
    have c7b0 : (t104 == 0) = false:=beq_eq_false_iff_ne.mpr c7
    have c7b1 : (t104 != 0) = true:=bne_iff_ne.mpr c7
    obtain rfl:=Option.some.inj H
    go_enter Try.func56,Try.ntmps56
    try go_wp2_with (first|((with_reducible refine d4z (N:=1) rfl ?_);refine e0z ?hg (N:=1) ?hd (cs:=#[.int .i64 a0_0,.int .i64 a0_1]) (t:=44) ?hr ?_;(case hd => rfl);(case hg => rfl);(case hr => first|(go_simp;done)|(go_simp;rfl));intro gb101 hg w8 hbox hb;have n0_:=a0z.mk (b3z (by repeat (first|(with_reducible first|exact HB.1|apply a3z|apply a1z|apply a2z)|exact HB.1)) hb);have n1_:=a0z.mk (hbox);have n2_:=a0z.mk ((by rw [hg];exact (b1z (by repeat (first|(with_reducible first|exact HB.1|apply a3z|apply a1z|apply a2z)|exact HB.1))) : w.heap.size ≤ gb101));have n3_:=a0z.mk ((by rw [hg];exact (b1z (by repeat (first|(with_reducible first|exact HB.1|apply a3z|apply a1z|apply a2z)|exact HB.1))) : w.heap.size ≤ gb101));clear HB;have HB:=n0_;have BK101:=n1_;have GW101:=n2_;have GE101:=n3_;clear n0_ n1_ n2_ n3_;clear hb hbox hg))
    have n0_:=a0z.mk (a9z BK101.1)
    have n1_:=a0z.mk (a2z HB.1)
    clear BK101
    clear HB
    have BK101:=n0_
    have HB:=n1_
    clear n0_ n1_
    refine g9z (n:=17) (S:=fun w' => w'.cell? ⟨gb101,0,none⟩ = some (.int .i64 a0_0) ∧ w'.cell? ⟨gb101,1,none⟩ = some (.int .i64 a0_1)) (ds:=[]) #[false,false,false,false,false,false,false,false,false,false,false,false,false,false,false,false,false] (by kernel_rfl) rfl rfl ⟨(b2z BK101.1 0).trans rfl,(b2z BK101.1 1).trans rfl⟩ (fun hHeld => ?_);refine f8z impl_BlockOk.tab1 impl_BlockOk.bits1 (fun HT_ HW_ => ?_)
    generalize w8.drew = w9 at BK101 HB hHeld ⊢
    refine pure_ (i:=0) (N:=some 3) (v:=?_) (a':=?_) #[true,false,false,false,false,false,false,false,false,false,false,false,false,false,false,false,false] rfl rfl (c0z HT_.1 (by kernel_rfl)) (fun _ _ _ h => h) (Or.inl ⟨by rfl,?_⟩) ?_ ?_
    rotate_left
    ·intro w'
     go_simp
     with_reducible rfl
    rotate_left
    ·simp only [Act.put,sA_,sZ_,sS_,i64_w,i32_w]
     rfl
    refine take_ (i:=1) (N:=some 4) (v:=?_) (a':=?_) #[true,true,false,false,false,false,false,false,false,false,false,false,false,false,false,false,false] rfl rfl (f3z HT_.1 HW_.1 (by kernel_rfl)) (fun _ _ _ h => h) (Or.inl ⟨by rfl,?_⟩) hHeld ?_ ?_
    rotate_left
    ·rintro w' ⟨s0,s1⟩
     go_simp
     with_reducible rfl
    rotate_left
    ·simp only [Act.put,sA_,sZ_,sS_,i64_w,i32_w]
     rfl
    refine one_ (i:=2) (N:=some 5) #[true,true,true,false,false,false,false,false,false,false,false,false,false,false,false,false,false] rfl rfl (f9z HT_.1 (by kernel_rfl)) (by decide) (fun K hK => ?_)
    refine goes_ Try.func71 (by kernel_rfl) rfl #[.int .i64 a0_0] (by rfl) rfl rfl (by (try simp only [List.map_toArray,List.map_cons,List.map_nil]);first|done|rfl|(simp only [List.length_drop,List.length_take];rfl)) ?_
    with_reducible refine (impl_isAddr.calls a0_0 true _ A2.1).mono ?_
    rintro e w' ⟨rfl,⟨nd,rfl⟩⟩
    refine ⟨_,rfl,?_⟩
    refine hK.out _ _ ⟨(b2z BK101.1 0).trans rfl,(b2z BK101.1 1).trans rfl⟩ (fun hHeld => ?_)
    clear hK K
    refine norm_ (a':=?_) ?_ ?_
    rotate_left
    ·show Act.put _ (some 5) _ = _
     simp only [Act.put,sA_,sZ_,sS_,i64_w,i32_w]
     rfl
    refine pure_ (i:=3) (N:=some 6) (v:=?_) (a':=?_) #[true,true,true,true,false,false,false,false,false,false,false,false,false,false,false,false,false] rfl rfl (c0z HT_.1 (by kernel_rfl)) (fun _ _ _ h => h) (Or.inl ⟨by rfl,?_⟩) ?_ ?_
    rotate_left
    ·intro w'
     go_simp
     with_reducible rfl
    rotate_left
    ·simp only [Act.put,sA_,sZ_,sS_,i64_w,i32_w]
     rfl
    refine pure_ (i:=4) (N:=some 7) (v:=?_) (a':=?_) #[true,true,true,true,true,false,false,false,false,false,false,false,false,false,false,false,false] rfl rfl (c0z HT_.1 (by kernel_rfl)) (fun _ _ _ h => h) (Or.inl ⟨by rfl,?_⟩) ?_ ?_
    rotate_left
    ·intro w'
     go_simp
     with_reducible rfl
    rotate_left
    ·simp only [Act.put,sA_,sZ_,sS_,i64_w,i32_w]
     rfl
    refine take_ (i:=5) (N:=some 8) (v:=?_) (a':=?_) #[true,true,true,true,true,true,false,false,false,false,false,false,false,false,false,false,false] rfl rfl (f3z HT_.1 HW_.1 (by kernel_rfl)) (fun _ _ _ h => h) (Or.inl ⟨by rfl,?_⟩) hHeld ?_ ?_
    rotate_left
    ·rintro w' ⟨s0,s1⟩
     go_simp
     with_reducible rfl
    rotate_left
    ·simp only [Act.put,sA_,sZ_,sS_,i64_w,i32_w]
     rfl
    refine one_ (i:=6) (N:=some 9) #[true,true,true,true,true,true,true,false,false,false,false,false,false,false,false,false,false] rfl rfl (f9z HT_.1 (by kernel_rfl)) (by decide) (fun K hK => ?_)
    refine goes_ Try.func72 (by kernel_rfl) rfl #[.int .i64 a0_1,.int .i64 0,.int .i64 32] (by rfl) rfl rfl (by (try simp only [List.map_toArray,List.map_cons,List.map_nil]);first|done|rfl|(simp only [List.length_drop,List.length_take];rfl)) ?_
    with_reducible refine (impl_in.calls a0_1 0 32 true _ A4.1).mono ?_
    rintro e w' ⟨rfl,⟨nd,rfl⟩⟩
    refine ⟨_,rfl,?_⟩
    refine hK.out _ _ ⟨(b2z BK101.1 0).trans rfl,(b2z BK101.1 1).trans rfl⟩ (fun hHeld => ?_)
    clear hK K
    refine norm_ (a':=?_) ?_ ?_
    rotate_left
    ·show Act.put _ (some 9) _ = _
     simp only [Act.put,sA_,sZ_,sS_,i64_w,i32_w]
     rfl
    refine pure_ (i:=7) (N:=some 10) (v:=?_) (a':=?_) #[true,true,true,true,true,true,true,true,false,false,false,false,false,false,false,false,false] rfl rfl (c0z HT_.1 (by kernel_rfl)) (fun _ _ _ h => h) (Or.inl ⟨by rfl,?_⟩) ?_ ?_
    rotate_left
    ·intro w'
     go_simp
     with_reducible rfl
    rotate_left
    ·simp only [Act.put,sA_,sZ_,sS_,i64_w,i32_w]
     rfl
    refine pure_ (i:=8) (N:=some 11) (v:=?_) (a':=?_) #[true,true,true,true,true,true,true,true,true,false,false,false,false,false,false,false,false] rfl rfl (c0z HT_.1 (by kernel_rfl)) (fun _ _ _ h => h) (Or.inl ⟨by rfl,?_⟩) ?_ ?_
    rotate_left
    ·intro w'
     go_simp
     with_reducible rfl
    rotate_left
    ·simp only [Act.put,sA_,sZ_,sS_,i64_w,i32_w]
     rfl
    refine pure_ (i:=9) (N:=some 12) (v:=?_) (a':=?_) #[true,true,true,true,true,true,true,true,true,true,false,false,false,false,false,false,false] rfl rfl (c0z HT_.1 (by kernel_rfl)) (fun _ _ _ h => h) (Or.inl ⟨by rfl,?_⟩) ?_ ?_
    rotate_left
    ·intro w'
     go_simp
     with_reducible rfl
    rotate_left
    ·simp only [Act.put,sA_,sZ_,sS_,i64_w,i32_w]
     rfl
    refine take_ (i:=10) (N:=some 13) (v:=?_) (a':=?_) #[true,true,true,true,true,true,true,true,true,true,true,false,false,false,false,false,false] rfl rfl (f3z HT_.1 HW_.1 (by kernel_rfl)) (fun _ _ _ h => h) (Or.inl ⟨by rfl,?_⟩) hHeld ?_ ?_
    rotate_left
    ·rintro w' ⟨s0,s1⟩
     go_simp
     with_reducible rfl
    rotate_left
    ·simp only [Act.put,sA_,sZ_,sS_,i64_w,i32_w]
     rfl
    refine take_ (i:=11) (N:=some 14) (v:=?_) (a':=?_) #[true,true,true,true,true,true,true,true,true,true,true,true,false,false,false,false,false] rfl rfl (f3z HT_.1 HW_.1 (by kernel_rfl)) (fun _ _ _ h => h) (Or.inl ⟨by rfl,?_⟩) hHeld ?_ ?_
    rotate_left
    ·rintro w' ⟨s0,s1⟩
     go_simp
     with_reducible rfl
    rotate_left
    ·simp only [Act.put,sA_,sZ_,sS_,i64_w,i32_w]
     rfl
    refine one_ (i:=12) (N:=some 15) #[true,true,true,true,true,true,true,true,true,true,true,true,true,false,false,false,false] rfl rfl (f9z HT_.1 (by kernel_rfl)) (by decide) (fun K hK => ?_)
    refine goes_ Try.func45 (by kernel_rfl) rfl #[.agg #[.int .i64 a0_0,.int .i64 a0_1]] (by rfl) rfl rfl (by (try simp only [List.map_toArray,List.map_cons,List.map_nil]);first|done|rfl|(simp only [List.length_drop,List.length_take];rfl)) ?_
    with_reducible refine (impl_Block_size.calls a0_0 a0_1 t104 _ A6.1).mono ?_
    rintro e w10 ⟨rfl,hb⟩
    refine ⟨_,rfl,?_⟩
    have n0_:=a0z.mk (d9z (g:=gb101) (o:=.cells #[.int .i64 a0_0,.int .i64 a0_1] 44 (0,0)) (by (with_reducible repeat (first|refine a8z ?_ _|refine a9z ?_|refine a7z ?_ _));exact BK101.1) hb)
    have n1_:=a0z.mk (b3z (by repeat (first|(with_reducible first|exact HB.1|apply a3z|apply a1z|apply a2z|refine a6z ?_ GE101.1)|exact HB.1)) hb)
    clear BK101
    clear HB
    have BK101:=n0_
    have HB:=n1_
    clear n0_ n1_
    (try clear hb)
    (try clear hb2)
    (try clear hk)
    (try clear hi)
    refine hK.out _ _ ⟨(b2z BK101.1 0).trans rfl,(b2z BK101.1 1).trans rfl⟩ (fun hHeld => ?_)
    clear hK K
    refine norm_ (a':=?_) ?_ ?_
    rotate_left
    ·show Act.put _ (some 15) _ = _
     simp only [Act.put,sA_,sZ_,sS_,i64_w,i32_w]
     rfl
    refine pure_ (i:=13) (N:=some 16) (v:=?_) (a':=?_) #[true,true,true,true,true,true,true,true,true,true,true,true,true,true,false,false,false] rfl rfl (c0z HT_.1 (by kernel_rfl)) (fun _ _ _ h => h) (Or.inl ⟨by rfl,?_⟩) ?_ ?_
    rotate_left
    ·intro w'
     go_simp
     with_reducible rfl
    rotate_left
    ·simp only [Act.put,sA_,sZ_,sS_,i64_w,i32_w]
     rfl
    refine pure_ (i:=14) (N:=some 17) (v:=?_) (a':=?_) #[true,true,true,true,true,true,true,true,true,true,true,true,true,true,true,false,false] rfl rfl (c0z HT_.1 (by kernel_rfl)) (fun _ _ _ h => h) (Or.inl ⟨by rfl,?_⟩) ?_ ?_
    rotate_left
    ·intro w'
     go_simp
     with_reducible rfl
    rotate_left
    ·simp only [Act.put,sA_,sZ_,sS_,i64_w,i32_w]
     rfl
    refine pure_ (i:=15) (N:=some 18) (v:=?_) (a':=?_) #[true,true,true,true,true,true,true,true,true,true,true,true,true,true,true,true,false] rfl rfl (c0z HT_.1 (by kernel_rfl)) (fun _ _ _ h => h) (Or.inl ⟨by rfl,?_⟩) ?_ ?_
    rotate_left
    ·intro w'
     go_simp
     with_reducible rfl
    rotate_left
    ·simp only [Act.put,sA_,sZ_,sS_,i64_w,i32_w]
     rfl
    refine pure_ (i:=16) (N:=some 2) (v:=?_) (a':=?_) #[true,true,true,true,true,true,true,true,true,true,true,true,true,true,true,true,true] rfl rfl (c0z HT_.1 (by kernel_rfl)) (fun _ _ _ h => h) (Or.inl ⟨by rfl,?_⟩) ?_ ?_
    rotate_left
    ·intro w'
     go_simp
     with_reducible rfl
    rotate_left
    ·simp only [Act.put,sA_,sZ_,sS_,i64_w,i32_w]
     rfl
    refine done_ (g5z HT_.1 (by kernel_rfl)) ?_
    try go_wp2
    go_ret
    exact ⟨by first|rfl|(simp [c2z,c1z] <;> rfl)|(simp [*,c2z,c1z] <;> rfl),by repeat (first|(with_reducible first|exact HB.1|apply a3z|apply a1z|apply a2z|refine a6z ?_ GE101.1)|exact HB.1)⟩
  ·replace c5:=Bool.eq_false_iff.mpr c5
   subst c5
   have H1 : (some false) = some r:=by rw [if_neg (show ¬ (false = true) by decide)] at H;exact H
   clear H
   have H:=H1
   clear H1
   obtain rfl:=Option.some.inj H
   go_enter Try.func56,Try.ntmps56
   try go_wp2_with (first|((with_reducible refine d4z (N:=1) rfl ?_);refine e0z ?hg (N:=1) ?hd (cs:=#[.int .i64 a0_0,.int .i64 a0_1]) (t:=44) ?hr ?_;(case hd => rfl);(case hg => rfl);(case hr => first|(go_simp;done)|(go_simp;rfl));intro gb101 hg w11 hbox hb;have n0_:=a0z.mk (b3z (by repeat (first|(with_reducible first|exact HB.1|apply a3z|apply a1z|apply a2z)|exact HB.1)) hb);have n1_:=a0z.mk (hbox);have n2_:=a0z.mk ((by rw [hg];exact (b1z (by repeat (first|(with_reducible first|exact HB.1|apply a3z|apply a1z|apply a2z)|exact HB.1))) : w.heap.size ≤ gb101));have n3_:=a0z.mk ((by rw [hg];exact (b1z (by repeat (first|(with_reducible first|exact HB.1|apply a3z|apply a1z|apply a2z)|exact HB.1))) : w.heap.size ≤ gb101));clear HB;have HB:=n0_;have BK101:=n1_;have GW101:=n2_;have GE101:=n3_;clear n0_ n1_ n2_ n3_;clear hb hbox hg))
   have n0_:=a0z.mk (a9z BK101.1)
   have n1_:=a0z.mk (a2z HB.1)
   clear BK101
   clear HB
   have BK101:=n0_
   have HB:=n1_
   clear n0_ n1_
   refine g9z (n:=17) (S:=fun w' => w'.cell? ⟨gb101,0,none⟩ = some (.int .i64 a0_0) ∧ w'.cell? ⟨gb101,1,none⟩ = some (.int .i64 a0_1)) (ds:=[]) #[false,false,false,false,false,false,false,false,false,false,false,false,false,false,false,false,false] (by kernel_rfl) rfl rfl ⟨(b2z BK101.1 0).trans rfl,(b2z BK101.1 1).trans rfl⟩ (fun hHeld => ?_);refine f8z impl_BlockOk.tab1 impl_BlockOk.bits1 (fun HT_ HW_ => ?_)
   generalize w11.drew = w12 at BK101 HB hHeld ⊢
   refine pure_ (i:=0) (N:=some 3) (v:=?_) (a':=?_) #[true,false,false,false,false,false,false,false,false,false,false,false,false,false,false,false,false] rfl rfl (c0z HT_.1 (by kernel_rfl)) (fun _ _ _ h => h) (Or.inl ⟨by rfl,?_⟩) ?_ ?_
   rotate_left
   ·intro w'
    go_simp
    with_reducible rfl
   rotate_left
   ·simp only [Act.put,sA_,sZ_,sS_,i64_w,i32_w]
    rfl
   refine take_ (i:=1) (N:=some 4) (v:=?_) (a':=?_) #[true,true,false,false,false,false,false,false,false,false,false,false,false,false,false,false,false] rfl rfl (f3z HT_.1 HW_.1 (by kernel_rfl)) (fun _ _ _ h => h) (Or.inl ⟨by rfl,?_⟩) hHeld ?_ ?_
   rotate_left
   ·rintro w' ⟨s0,s1⟩
    go_simp
    with_reducible rfl
   rotate_left
   ·simp only [Act.put,sA_,sZ_,sS_,i64_w,i32_w]
    rfl
   refine one_ (i:=2) (N:=some 5) #[true,true,true,false,false,false,false,false,false,false,false,false,false,false,false,false,false] rfl rfl (f9z HT_.1 (by kernel_rfl)) (by decide) (fun K hK => ?_)
   refine goes_ Try.func71 (by kernel_rfl) rfl #[.int .i64 a0_0] (by rfl) rfl rfl (by (try simp only [List.map_toArray,List.map_cons,List.map_nil]);first|done|rfl|(simp only [List.length_drop,List.length_take];rfl)) ?_
   with_reducible refine (impl_isAddr.calls a0_0 true _ A2.1).mono ?_
   rintro e w' ⟨rfl,⟨nd,rfl⟩⟩
   refine ⟨_,rfl,?_⟩
   refine hK.out _ _ ⟨(b2z BK101.1 0).trans rfl,(b2z BK101.1 1).trans rfl⟩ (fun hHeld => ?_)
   clear hK K
   refine norm_ (a':=?_) ?_ ?_
   rotate_left
   ·show Act.put _ (some 5) _ = _
    simp only [Act.put,sA_,sZ_,sS_,i64_w,i32_w]
    rfl
   refine pure_ (i:=3) (N:=some 6) (v:=?_) (a':=?_) #[true,true,true,true,false,false,false,false,false,false,false,false,false,false,false,false,false] rfl rfl (c0z HT_.1 (by kernel_rfl)) (fun _ _ _ h => h) (Or.inl ⟨by rfl,?_⟩) ?_ ?_
   rotate_left
   ·intro w'
    go_simp
    with_reducible rfl
   rotate_left
   ·simp only [Act.put,sA_,sZ_,sS_,i64_w,i32_w]
    rfl
   refine pure_ (i:=4) (N:=some 7) (v:=?_) (a':=?_) #[true,true,true,true,true,false,false,false,false,false,false,false,false,false,false,false,false] rfl rfl (c0z HT_.1 (by kernel_rfl)) (fun _ _ _ h => h) (Or.inl ⟨by rfl,?_⟩) ?_ ?_
   rotate_left
   ·intro w'
    go_simp
    with_reducible rfl
   rotate_left
   ·simp only [Act.put,sA_,sZ_,sS_,i64_w,i32_w]
    rfl
   refine take_ (i:=5) (N:=some 8) (v:=?_) (a':=?_) #[true,true,true,true,true,true,false,false,false,false,false,false,false,false,false,false,false] rfl rfl (f3z HT_.1 HW_.1 (by kernel_rfl)) (fun _ _ _ h => h) (Or.inl ⟨by rfl,?_⟩) hHeld ?_ ?_
   rotate_left
   ·rintro w' ⟨s0,s1⟩
    go_simp
    with_reducible rfl
   rotate_left
   ·simp only [Act.put,sA_,sZ_,sS_,i64_w,i32_w]
    rfl
   refine one_ (i:=6) (N:=some 9) #[true,true,true,true,true,true,true,false,false,false,false,false,false,false,false,false,false] rfl rfl (f9z HT_.1 (by kernel_rfl)) (by decide) (fun K hK => ?_)
   refine goes_ Try.func72 (by kernel_rfl) rfl #[.int .i64 a0_1,.int .i64 0,.int .i64 32] (by rfl) rfl rfl (by (try simp only [List.map_toArray,List.map_cons,List.map_nil]);first|done|rfl|(simp only [List.length_drop,List.length_take];rfl)) ?_
   with_reducible refine (impl_in.calls a0_1 0 32 false _ A4.1).mono ?_
   rintro e w' ⟨rfl,⟨nd,rfl⟩⟩
   refine ⟨_,rfl,?_⟩
   refine hK.out _ _ ⟨(b2z BK101.1 0).trans rfl,(b2z BK101.1 1).trans rfl⟩ (fun hHeld => ?_)
   clear hK K
   refine norm_ (a':=?_) ?_ ?_
   rotate_left
   ·show Act.put _ (some 9) _ = _
    simp only [Act.put,sA_,sZ_,sS_,i64_w,i32_w]
    rfl
   refine pure_ (i:=7) (N:=some 10) (v:=?_) (a':=?_) #[true,true,true,true,true,true,true,true,false,false,false,false,false,false,false,false,false] rfl rfl (c0z HT_.1 (by kernel_rfl)) (fun _ _ _ h => h) (Or.inl ⟨by rfl,?_⟩) ?_ ?_
   rotate_left
   ·intro w'
    go_simp
    with_reducible rfl
   rotate_left
   ·simp only [Act.put,sA_,sZ_,sS_,i64_w,i32_w]
    rfl
   refine pure_ (i:=8) (N:=some 11) (v:=?_) (a':=?_) #[true,true,true,true,true,true,true,true,true,false,false,false,false,false,false,false,false] rfl rfl (c0z HT_.1 (by kernel_rfl)) (fun _ _ _ h => h) (Or.inl ⟨by rfl,?_⟩) ?_ ?_
   rotate_left
   ·intro w'
    go_simp
    with_reducible rfl
   rotate_left
   ·simp only [Act.put,sA_,sZ_,sS_,i64_w,i32_w]
    rfl
   refine pure_ (i:=9) (N:=some 12) (v:=undef) (a':=?_) #[true,true,true,true,true,true,true,true,true,true,false,false,false,false,false,false,false] rfl rfl (c0z HT_.1 (by kernel_rfl)) (fun _ _ _ h => h) (Or.inr ⟨by rfl,rfl⟩) ?_ ?_
   rotate_left
   ·simp only [Act.put,sA_,sZ_,sS_,i64_w,i32_w]
    rfl
   refine pure_ (i:=10) (N:=some 13) (v:=undef) (a':=?_) #[true,true,true,true,true,true,true,true,true,true,true,false,false,false,false,false,false] rfl rfl (c0z HT_.1 (by kernel_rfl)) (fun _ _ _ h => h) (Or.inr ⟨by rfl,rfl⟩) ?_ ?_
   rotate_left
   ·simp only [Act.put,sA_,sZ_,sS_,i64_w,i32_w]
    rfl
   refine pure_ (i:=11) (N:=some 14) (v:=undef) (a':=?_) #[true,true,true,true,true,true,true,true,true,true,true,true,false,false,false,false,false] rfl rfl (c0z HT_.1 (by kernel_rfl)) (fun _ _ _ h => h) (Or.inr ⟨by rfl,rfl⟩) ?_ ?_
   rotate_left
   ·simp only [Act.put,sA_,sZ_,sS_,i64_w,i32_w]
    rfl
   refine pure_ (i:=12) (N:=some 15) (v:=undef) (a':=?_) #[true,true,true,true,true,true,true,true,true,true,true,true,true,false,false,false,false] rfl rfl (c0z HT_.1 (by kernel_rfl)) (fun _ _ _ h => h) (Or.inr ⟨by rfl,rfl⟩) ?_ ?_
   rotate_left
   ·simp only [Act.put,sA_,sZ_,sS_,i64_w,i32_w]
    rfl
   refine pure_ (i:=13) (N:=some 16) (v:=undef) (a':=?_) #[true,true,true,true,true,true,true,true,true,true,true,true,true,true,false,false,false] rfl rfl (c0z HT_.1 (by kernel_rfl)) (fun _ _ _ h => h) (Or.inr ⟨by rfl,rfl⟩) ?_ ?_
   rotate_left
   ·simp only [Act.put,sA_,sZ_,sS_,i64_w,i32_w]
    rfl
   refine pure_ (i:=14) (N:=some 17) (v:=undef) (a':=?_) #[true,true,true,true,true,true,true,true,true,true,true,true,true,true,true,false,false] rfl rfl (c0z HT_.1 (by kernel_rfl)) (fun _ _ _ h => h) (Or.inr ⟨by rfl,rfl⟩) ?_ ?_
   rotate_left
   ·simp only [Act.put,sA_,sZ_,sS_,i64_w,i32_w]
    rfl
   refine pure_ (i:=15) (N:=some 18) (v:=?_) (a':=?_) #[true,true,true,true,true,true,true,true,true,true,true,true,true,true,true,true,false] rfl rfl (c0z HT_.1 (by kernel_rfl)) (fun _ _ _ h => h) (Or.inl ⟨by rfl,?_⟩) ?_ ?_
   rotate_left
   ·intro w'
    go_simp
    with_reducible rfl
   rotate_left
   ·simp only [Act.put,sA_,sZ_,sS_,i64_w,i32_w]
    rfl
   refine pure_ (i:=16) (N:=some 2) (v:=?_) (a':=?_) #[true,true,true,true,true,true,true,true,true,true,true,true,true,true,true,true,true] rfl rfl (c0z HT_.1 (by kernel_rfl)) (fun _ _ _ h => h) (Or.inl ⟨by rfl,?_⟩) ?_ ?_
   rotate_left
   ·intro w'
    go_simp
    with_reducible rfl
   rotate_left
   ·simp only [Act.put,sA_,sZ_,sS_,i64_w,i32_w]
    rfl
   refine done_ (g5z HT_.1 (by kernel_rfl)) ?_
   try go_wp2
   go_ret
   exact ⟨by first|rfl|(simp [c2z,c1z] <;> rfl)|(simp [*,c2z,c1z] <;> rfl),by repeat (first|(with_reducible first|exact HB.1|apply a3z|apply a1z|apply a2z|refine a6z ?_ GE101.1)|exact HB.1)⟩
 ·replace c3:=Bool.eq_false_iff.mpr c3
  subst c3
  have H1 : (some false) = some r:=by rw [if_neg (show ¬ (false = true) by decide)] at H;exact H
  clear H
  have H:=H1
  clear H1
  obtain rfl:=Option.some.inj H
  go_enter Try.func56,Try.ntmps56
  try go_wp2_with (first|((with_reducible refine d4z (N:=1) rfl ?_);refine e0z ?hg (N:=1) ?hd (cs:=#[.int .i64 a0_0,.int .i64 a0_1]) (t:=44) ?hr ?_;(case hd => rfl);(case hg => rfl);(case hr => first|(go_simp;done)|(go_simp;rfl));intro gb101 hg w13 hbox hb;have n0_:=a0z.mk (b3z (by repeat (first|(with_reducible first|exact HB.1|apply a3z|apply a1z|apply a2z)|exact HB.1)) hb);have n1_:=a0z.mk (hbox);have n2_:=a0z.mk ((by rw [hg];exact (b1z (by repeat (first|(with_reducible first|exact HB.1|apply a3z|apply a1z|apply a2z)|exact HB.1))) : w.heap.size ≤ gb101));have n3_:=a0z.mk ((by rw [hg];exact (b1z (by repeat (first|(with_reducible first|exact HB.1|apply a3z|apply a1z|apply a2z)|exact HB.1))) : w.heap.size ≤ gb101));clear HB;have HB:=n0_;have BK101:=n1_;have GW101:=n2_;have GE101:=n3_;clear n0_ n1_ n2_ n3_;clear hb hbox hg))
  have n0_:=a0z.mk (a9z BK101.1)
  have n1_:=a0z.mk (a2z HB.1)
  clear BK101
  clear HB
  have BK101:=n0_
  have HB:=n1_
  clear n0_ n1_
  refine g9z (n:=17) (S:=fun w' => w'.cell? ⟨gb101,0,none⟩ = some (.int .i64 a0_0) ∧ w'.cell? ⟨gb101,1,none⟩ = some (.int .i64 a0_1)) (ds:=[]) #[false,false,false,false,false,false,false,false,false,false,false,false,false,false,false,false,false] (by kernel_rfl) rfl rfl ⟨(b2z BK101.1 0).trans rfl,(b2z BK101.1 1).trans rfl⟩ (fun hHeld => ?_);refine f8z impl_BlockOk.tab1 impl_BlockOk.bits1 (fun HT_ HW_ => ?_)
  generalize w13.drew = w14 at BK101 HB hHeld ⊢
  refine pure_ (i:=0) (N:=some 3) (v:=?_) (a':=?_) #[true,false,false,false,false,false,false,false,false,false,false,false,false,false,false,false,false] rfl rfl (c0z HT_.1 (by kernel_rfl)) (fun _ _ _ h => h) (Or.inl ⟨by rfl,?_⟩) ?_ ?_
  rotate_left
  ·intro w'
   go_simp
   with_reducible rfl
  rotate_left
  ·simp only [Act.put,sA_,sZ_,sS_,i64_w,i32_w]
   rfl
  refine take_ (i:=1) (N:=some 4) (v:=?_) (a':=?_) #[true,true,false,false,false,false,false,false,false,false,false,false,false,false,false,false,false] rfl rfl (f3z HT_.1 HW_.1 (by kernel_rfl)) (fun _ _ _ h => h) (Or.inl ⟨by rfl,?_⟩) hHeld ?_ ?_
  rotate_left
  ·rintro w' ⟨s0,s1⟩
   go_simp
   with_reducible rfl
  rotate_left
  ·simp only [Act.put,sA_,sZ_,sS_,i64_w,i32_w]
   rfl
  refine one_ (i:=2) (N:=some 5) #[true,true,true,false,false,false,false,false,false,false,false,false,false,false,false,false,false] rfl rfl (f9z HT_.1 (by kernel_rfl)) (by decide) (fun K hK => ?_)
  refine goes_ Try.func71 (by kernel_rfl) rfl #[.int .i64 a0_0] (by rfl) rfl rfl (by (try simp only [List.map_toArray,List.map_cons,List.map_nil]);first|done|rfl|(simp only [List.length_drop,List.length_take];rfl)) ?_
  with_reducible refine (impl_isAddr.calls a0_0 false _ A2.1).mono ?_
  rintro e w' ⟨rfl,⟨nd,rfl⟩⟩
  refine ⟨_,rfl,?_⟩
  refine hK.out _ _ ⟨(b2z BK101.1 0).trans rfl,(b2z BK101.1 1).trans rfl⟩ (fun hHeld => ?_)
  clear hK K
  refine norm_ (a':=?_) ?_ ?_
  rotate_left
  ·show Act.put _ (some 5) _ = _
   simp only [Act.put,sA_,sZ_,sS_,i64_w,i32_w]
   rfl
  refine pure_ (i:=3) (N:=some 6) (v:=?_) (a':=?_) #[true,true,true,true,false,false,false,false,false,false,false,false,false,false,false,false,false] rfl rfl (c0z HT_.1 (by kernel_rfl)) (fun _ _ _ h => h) (Or.inl ⟨by rfl,?_⟩) ?_ ?_
  rotate_left
  ·intro w'
   go_simp
   with_reducible rfl
  rotate_left
  ·simp only [Act.put,sA_,sZ_,sS_,i64_w,i32_w]
   rfl
  refine pure_ (i:=4) (N:=some 7) (v:=undef) (a':=?_) #[true,true,true,true,true,false,false,false,false,false,false,false,false,false,false,false,false] rfl rfl (c0z HT_.1 (by kernel_rfl)) (fun _ _ _ h => h) (Or.inr ⟨by rfl,rfl⟩) ?_ ?_
  rotate_left
  ·simp only [Act.put,sA_,sZ_,sS_,i64_w,i32_w]
   rfl
  refine pure_ (i:=5) (N:=some 8) (v:=undef) (a':=?_) #[true,true,true,true,true,true,false,false,false,false,false,false,false,false,false,false,false] rfl rfl (c0z HT_.1 (by kernel_rfl)) (fun _ _ _ h => h) (Or.inr ⟨by rfl,rfl⟩) ?_ ?_
  rotate_left
  ·simp only [Act.put,sA_,sZ_,sS_,i64_w,i32_w]
   rfl
  refine pure_ (i:=6) (N:=some 9) (v:=undef) (a':=?_) #[true,true,true,true,true,true,true,false,false,false,false,false,false,false,false,false,false] rfl rfl (c0z HT_.1 (by kernel_rfl)) (fun _ _ _ h => h) (Or.inr ⟨by rfl,rfl⟩) ?_ ?_
  rotate_left
  ·simp only [Act.put,sA_,sZ_,sS_,i64_w,i32_w]
   rfl
  refine pure_ (i:=7) (N:=some 10) (v:=?_) (a':=?_) #[true,true,true,true,true,true,true,true,false,false,false,false,false,false,false,false,false] rfl rfl (c0z HT_.1 (by kernel_rfl)) (fun _ _ _ h => h) (Or.inl ⟨by rfl,?_⟩) ?_ ?_
  rotate_left
  ·intro w'
   go_simp
   with_reducible rfl
  rotate_left
  ·simp only [Act.put,sA_,sZ_,sS_,i64_w,i32_w]
   rfl
  refine pure_ (i:=8) (N:=some 11) (v:=?_) (a':=?_) #[true,true,true,true,true,true,true,true,true,false,false,false,false,false,false,false,false] rfl rfl (c0z HT_.1 (by kernel_rfl)) (fun _ _ _ h => h) (Or.inl ⟨by rfl,?_⟩) ?_ ?_
  rotate_left
  ·intro w'
   go_simp
   with_reducible rfl
  rotate_left
  ·simp only [Act.put,sA_,sZ_,sS_,i64_w,i32_w]
   rfl
  refine pure_ (i:=9) (N:=some 12) (v:=undef) (a':=?_) #[true,true,true,true,true,true,true,true,true,true,false,false,false,false,false,false,false] rfl rfl (c0z HT_.1 (by kernel_rfl)) (fun _ _ _ h => h) (Or.inr ⟨by rfl,rfl⟩) ?_ ?_
  rotate_left
  ·simp only [Act.put,sA_,sZ_,sS_,i64_w,i32_w]
   rfl
  refine pure_ (i:=10) (N:=some 13) (v:=undef) (a':=?_) #[true,true,true,true,true,true,true,true,true,true,true,false,false,false,false,false,false] rfl rfl (c0z HT_.1 (by kernel_rfl)) (fun _ _ _ h => h) (Or.inr ⟨by rfl,rfl⟩) ?_ ?_
  rotate_left
  ·simp only [Act.put,sA_,sZ_,sS_,i64_w,i32_w]
   rfl
  refine pure_ (i:=11) (N:=some 14) (v:=undef) (a':=?_) #[true,true,true,true,true,true,true,true,true,true,true,true,false,false,false,false,false] rfl rfl (c0z HT_.1 (by kernel_rfl)) (fun _ _ _ h => h) (Or.inr ⟨by rfl,rfl⟩) ?_ ?_
  rotate_left
  ·simp only [Act.put,sA_,sZ_,sS_,i64_w,i32_w]
   rfl
  refine pure_ (i:=12) (N:=some 15) (v:=undef) (a':=?_) #[true,true,true,true,true,true,true,true,true,true,true,true,true,false,false,false,false] rfl rfl (c0z HT_.1 (by kernel_rfl)) (fun _ _ _ h => h) (Or.inr ⟨by rfl,rfl⟩) ?_ ?_
  rotate_left
  ·simp only [Act.put,sA_,sZ_,sS_,i64_w,i32_w]
   rfl
  refine pure_ (i:=13) (N:=some 16) (v:=undef) (a':=?_) #[true,true,true,true,true,true,true,true,true,true,true,true,true,true,false,false,false] rfl rfl (c0z HT_.1 (by kernel_rfl)) (fun _ _ _ h => h) (Or.inr ⟨by rfl,rfl⟩) ?_ ?_
  rotate_left
  ·simp only [Act.put,sA_,sZ_,sS_,i64_w,i32_w]
   rfl
  refine pure_ (i:=14) (N:=some 17) (v:=undef) (a':=?_) #[true,true,true,true,true,true,true,true,true,true,true,true,true,true,true,false,false] rfl rfl (c0z HT_.1 (by kernel_rfl)) (fun _ _ _ h => h) (Or.inr ⟨by rfl,rfl⟩) ?_ ?_
  rotate_left
  ·simp only [Act.put,sA_,sZ_,sS_,i64_w,i32_w]
   rfl
  refine pure_ (i:=15) (N:=some 18) (v:=?_) (a':=?_) #[true,true,true,true,true,true,true,true,true,true,true,true,true,true,true,true,false] rfl rfl (c0z HT_.1 (by kernel_rfl)) (fun _ _ _ h => h) (Or.inl ⟨by rfl,?_⟩) ?_ ?_
  rotate_left
  ·intro w'
   go_simp
   with_reducible rfl
  rotate_left
  ·simp only [Act.put,sA_,sZ_,sS_,i64_w,i32_w]
   rfl
  refine pure_ (i:=16) (N:=some 2) (v:=?_) (a':=?_) #[true,true,true,true,true,true,true,true,true,true,true,true,true,true,true,true,true] rfl rfl (c0z HT_.1 (by kernel_rfl)) (fun _ _ _ h => h) (Or.inl ⟨by rfl,?_⟩) ?_ ?_
  rotate_left
  ·intro w'
   go_simp
   with_reducible rfl
  rotate_left
  ·simp only [Act.put,sA_,sZ_,sS_,i64_w,i32_w]
   rfl
  refine done_ (g5z HT_.1 (by kernel_rfl)) ?_
  try go_wp2
  go_ret
  exact ⟨by first|rfl|(simp [c2z,c1z] <;> rfl)|(simp [*,c2z,c1z] <;> rfl),by repeat (first|(with_reducible first|exact HB.1|apply a3z|apply a1z|apply a2z|refine a6z ?_ GE101.1)|exact HB.1)⟩
end Go.Proofs.Ytmdhedkgpgoneaa.Q

namespace Go.Proofs.Ytmdhedkgpgoneaa.Q
open Go.RowKit Go.Proofs.YtmdhedkgpgoneaaW.PrintWords Go.Proofs.YtmdhedkgpgoneaaW.PrintLast Go.Proofs.YtmdhedkgpgoneaaW.PrintMore
attribute [local go_sem] e4z e2z e7z e6z d8z d7z e3z e1z
set_option linter.unusedVariables false
set_option linter.unusedSimpArgs false
def impl_blocksOk_1.f (a0_0 : Int) (a0_1 : Int) : Option (Bool):=(impl_BlockOk.f a0_0 a0_1).bind fun t102 => (some (!t102))
set_option maxHeartbeats 8000000 in
set_option maxRecDepth 100000 in
theorem impl_blocksOk_1.calls (a0_0 : Int) (a0_1 : Int) (r : Bool) (w : World) (h : impl_blocksOk_1.f a0_0 a0_1 = some r) :
  Calls Try.prog 55 #[.agg #[.int .i64 a0_0,.int .i64 a0_1]] w fun e w' => e = .returned (.bool r) ∧ Below w.heap.size w w':=by
 have hu44:=Try.underlying44
 have HB:=a0z.mk (Below.refl w.heap.size w)
 have H : ((impl_BlockOk.f a0_0 a0_1).bind fun t102 => (some (!t102))) = some r:=h
 clear h
 replace H:=Option.bind_eq_some_iff.mp H
 obtain ⟨t102,A20,H⟩:=H
 replace H : (some (!t102)) = some r:=H
 have A2:=a0z.mk A20
 clear A20
 obtain rfl:=Option.some.inj H
 go_enter Try.func55,Try.ntmps55
 go_wp2_with (first|((with_reducible refine d4z (N:=1) rfl ?_);refine e0z ?hg (N:=1) ?hd (cs:=#[.int .i64 a0_0,.int .i64 a0_1]) (t:=44) ?hr ?_;(case hd => rfl);(case hg => rfl);(case hr => first|(go_simp;done)|(go_simp;rfl));intro gb101 hg w3 hbox hb;have n0_:=a0z.mk (b3z (by repeat (first|(with_reducible first|exact HB.1|apply a3z|apply a1z|apply a2z)|exact HB.1)) hb);have n1_:=a0z.mk (hbox);have n2_:=a0z.mk ((by rw [hg];exact (b1z (by repeat (first|(with_reducible first|exact HB.1|apply a3z|apply a1z|apply a2z)|exact HB.1))) : w.heap.size ≤ gb101));have n3_:=a0z.mk ((by rw [hg];exact (b1z (by repeat (first|(with_reducible first|exact HB.1|apply a3z|apply a1z|apply a2z)|exact HB.1))) : w.heap.size ≤ gb101));clear HB;have HB:=n0_;have BK101:=n1_;have GW101:=n2_;have GE101:=n3_;clear n0_ n1_ n2_ n3_;clear hb hbox hg;have hcz4_0 : w3.cell? ⟨gb101,0,none⟩ = some (.int .i64 a0_0):=(b2z BK101.1 0).trans rfl;have hcz4_1 : w3.cell? ⟨gb101,1,none⟩ = some (.int .i64 a0_1):=(b2z BK101.1 1).trans rfl;have hfz4_0:=b7z BK101.1 0;have hfz4_1:=b7z BK101.1 1)|((with_reducible refine b8z (f:=56) rfl ?_);refine d2z (some 4) rfl rfl Try.func56 (by kernel_rfl) rfl #[.agg #[.int .i64 a0_0,.int .i64 a0_1]] rfl (by (try simp only [List.map_toArray,List.map_cons,List.map_nil]);first|done|rfl|(simp only [List.length_drop,List.length_take];rfl)) ?_;(with_reducible refine (impl_BlockOk.calls a0_0 a0_1 t102 _ A2.1).mono ?_);rintro e w5 ⟨rfl,hb⟩;refine ⟨_,rfl,?_⟩;have n0_:=a0z.mk (d9z (g:=gb101) (o:=.cells #[.int .i64 a0_0,.int .i64 a0_1] 44 (0,0)) (by (with_reducible repeat (first|refine a8z ?_ _|refine a9z ?_|refine a7z ?_ _));exact BK101.1) hb);have n1_:=a0z.mk (b3z (by repeat (first|(with_reducible first|exact HB.1|apply a3z|apply a1z|apply a2z|refine a6z ?_ GE101.1)|exact HB.1)) hb);clear BK101;clear HB;have BK101:=n0_;have HB:=n1_;clear n0_ n1_;(try clear hb);(try clear hb2);(try clear hk);(try clear hi)))
 go_ret
 exact ⟨by first|rfl|(simp [c2z,c1z] <;> rfl)|(simp [*,c2z,c1z] <;> rfl),by repeat (first|(with_reducible first|exact HB.1|apply a3z|apply a1z|apply a2z|refine a6z ?_ GE101.1)|exact HB.1)⟩
end Go.Proofs.Ytmdhedkgpgoneaa.Q

namespace Go.Proofs.Ytmdhedkgpgoneaa.Q
open Go.RowKit Go.Proofs.YtmdhedkgpgoneaaW.PrintWords Go.Proofs.YtmdhedkgpgoneaaW.PrintLast Go.Proofs.YtmdhedkgpgoneaaW.PrintMore
attribute [local go_sem] e4z e2z e7z e6z d8z d7z e3z e1z
set_option linter.unusedVariables false
set_option linter.unusedSimpArgs false
def slices_IndexFunc_Block.l0 : Nat → List (S44) → Int → Int → Option (Int)
 | 0,_,_,_ => none
 | k + 1,x0,x7,x8 => if x8 < x7 then (if 0 ≤ x8 then (if x8 < (x0.length : Int) then ((impl_blocksOk_1.f ((b6z x0 x8).f0) ((b6z x0 x8).f1)).bind fun t102 => (if t102 = true then (some x8) else (slices_IndexFunc_Block.l0 k x0 x7 (wrap64 (x8 + 1))))) else (none)) else (none)) else (some (-1))
def slices_IndexFunc_Block.f (k : Nat) (l0 : List (S44))  : Option (Int):=slices_IndexFunc_Block.l0 k l0 (l0.length : Int) 0
set_option maxHeartbeats 8000000 in
set_option maxRecDepth 100000 in
theorem slices_IndexFunc_Block.calls (k : Nat) (A0 : Option Addr) (c0 : Nat) (l0 : List (S44))  (r : Int) (w : World) (hr0 : Kd.C k44 w A0 l0.length l0) (hc0 : l0.length ≤ c0) (h : slices_IndexFunc_Block.f k l0 = some r) :
  Calls Try.prog 70 #[.slice A0 l0.length c0,.func (.func 55) #[] #[]] w fun e w' => e = .returned (.int .i64 r) ∧ Below w.heap.size w w':=by
 have hu44:=Try.underlying44
 have HR0:=a0z.mk hr0
 have HC0:=a0z.mk hc0
 clear hr0 hc0
 have HB:=a0z.mk (Below.refl w.heap.size w)
 have H : (slices_IndexFunc_Block.l0 k l0 (l0.length : Int) 0) = some r:=h
 clear h
 have H':=a0z.mk H
 clear H
 go_enter Try.func70,Try.ntmps70
 go_wp2
 go_loopg [8] k (fun kq v8 w' => ∃ (x8_1 : Int),v8 = .int .i64 x8_1 ∧ a0z (slices_IndexFunc_Block.l0 kq l0 (l0.length : Int) x8_1 = some r) ∧ a0z (kq ≤ k) ∧ a0z (Below w.heap.size w w'))
 case atStart => exact ⟨(0),(by first|rfl|(simp;done)|(simp [*];done)),H',⟨Nat.le_refl _⟩,⟨by repeat (first|(with_reducible first|exact HB.1|apply a3z|apply a1z|apply a2z)|exact HB.1)⟩⟩
 case round =>
  clear H'
  try clear p2
  obtain ⟨x8_1,rfl,HA,HK1,HB⟩:=hrel
  cases gk with
  | zero => exact absurd HA.1 (by simp [slices_IndexFunc_Block.l0])
  | succ k1 =>
   have H:=HA.1
   clear HA
   simp only [slices_IndexFunc_Block.l0] at H
   by_cases c3 : x8_1 < (l0.length : Int)
   ·rw [if_pos c3] at H
    have c3b0 : decide (x8_1 < (l0.length : Int)) = true:=decide_eq_true c3
    clear c3
    by_cases c4 : 0 ≤ x8_1
    ·rw [if_pos c4] at H
     have c4b0 : decide (0 ≤ x8_1) = true:=decide_eq_true c4
     clear c4
     by_cases c5 : x8_1 < (l0.length : Int)
     ·rw [if_pos c5] at H
      have c5b0 : decide (x8_1 < (l0.length : Int)) = true:=decide_eq_true c5
      clear c5
      replace H:=Option.bind_eq_some_iff.mp H
      obtain ⟨t102,A60,H⟩:=H
      replace H : (if t102 = true then (some x8_1) else (slices_IndexFunc_Block.l0 k1 l0 (l0.length : Int) (wrap64 (x8_1 + 1)))) = some r:=H
      have A6:=a0z.mk A60
      clear A60
      by_cases c7 : t102 = true
      ·subst c7
       have H1 : (some x8_1) = some r:=by rw [if_pos rfl] at H;exact H
       clear H
       have H:=H1
       clear H1
       obtain rfl:=Option.some.inj H
       have p101 : 0 ≤ (x8_1 : Int):=of_decide_eq_true (by first|(with_reducible assumption)|assumption)
       have q101 : x8_1 < (l0.length : Int):=of_decide_eq_true (by first|(with_reducible assumption)|assumption)
       obtain ⟨ad101,e101,hx101_0,hx101_1⟩:=h2z HR0.1 x8_1 p101 q101
       cases e101
       replace hx101_0:=(HB.1.cell (World.block_lt_of_cell? w _ hx101_0)).trans hx101_0
       replace hx101_1:=(HB.1.cell (World.block_lt_of_cell? w _ hx101_1)).trans hx101_1
       replace p101:=eq_true p101
       replace q101:=eq_true q101
       go_wp2_with (first|(go_at_call 55;(with_reducible refine (impl_blocksOk_1.calls ((b6z l0 x8_1).f0) ((b6z l0 x8_1).f1) true _ A6.1).mono ?_);rintro e w8 ⟨rfl,hb⟩;have n0_:=a0z.mk (b3z (by repeat (first|(with_reducible first|exact HB.1|apply a3z|apply a1z|apply a2z)|exact HB.1)) hb);clear HB;have HB:=n0_;clear n0_;(try clear hb);(try clear hb2);(try clear hk);(try clear hi)))
       go_ret
       exact ⟨by first|rfl|(simp [c2z,c1z] <;> rfl)|(simp [*,c2z,c1z] <;> rfl),by repeat (first|(with_reducible first|exact HB.1|apply a3z|apply a1z|apply a2z)|exact HB.1)⟩
      ·replace c7:=Bool.eq_false_iff.mpr c7
       subst c7
       have H1 : (slices_IndexFunc_Block.l0 k1 l0 (l0.length : Int) (wrap64 (x8_1 + 1))) = some r:=by rw [if_neg (show ¬ (false = true) by decide)] at H;exact H
       clear H
       have H:=H1
       clear H1
       have H':=a0z.mk H
       clear H
       have p101 : 0 ≤ (x8_1 : Int):=of_decide_eq_true (by first|(with_reducible assumption)|assumption)
       have q101 : x8_1 < (l0.length : Int):=of_decide_eq_true (by first|(with_reducible assumption)|assumption)
       obtain ⟨ad101,e101,hx101_0,hx101_1⟩:=h2z HR0.1 x8_1 p101 q101
       cases e101
       replace hx101_0:=(HB.1.cell (World.block_lt_of_cell? w _ hx101_0)).trans hx101_0
       replace hx101_1:=(HB.1.cell (World.block_lt_of_cell? w _ hx101_1)).trans hx101_1
       replace p101:=eq_true p101
       replace q101:=eq_true q101
       go_wp2_with (first|(go_at_call 55;(with_reducible refine (impl_blocksOk_1.calls ((b6z l0 x8_1).f0) ((b6z l0 x8_1).f1) false _ A6.1).mono ?_);rintro e w9 ⟨rfl,hb⟩;have n0_:=a0z.mk (b3z (by repeat (first|(with_reducible first|exact HB.1|apply a3z|apply a1z|apply a2z)|exact HB.1)) hb);clear HB;have HB:=n0_;clear n0_;(try clear hb);(try clear hb2);(try clear hk);(try clear hi)))
       go_roundg k1
       case measure => have:=HK1.1;omega
       case rel => exact ⟨(wrap64 (x8_1 + 1)),(by first|rfl|(simp;done)|(simp [*];done)),H',⟨by have:=HK1.1;omega⟩,⟨by repeat (first|(with_reducible first|exact HB.1|apply a3z|apply a1z|apply a2z)|exact HB.1)⟩⟩
     ·rw [if_neg c5] at H
      exact absurd H (by simp)
    ·rw [if_neg c4] at H
     exact absurd H (by simp)
   ·rw [if_neg c3] at H
    have c3b0 : decide (x8_1 < (l0.length : Int)) = false:=decide_eq_false c3
    clear c3
    obtain rfl:=Option.some.inj H
    go_wp2
    go_ret
    exact ⟨by first|rfl|(simp [c2z,c1z] <;> rfl)|(simp [*,c2z,c1z] <;> rfl),by repeat (first|(with_reducible first|exact HB.1|apply a3z|apply a1z|apply a2z)|exact HB.1)⟩
end Go.Proofs.Ytmdhedkgpgoneaa.Q

namespace Go.Proofs.Ytmdhedkgpgoneaa.Q
open Go.RowKit Go.Proofs.YtmdhedkgpgoneaaW.PrintWords Go.Proofs.YtmdhedkgpgoneaaW.PrintLast Go.Proofs.YtmdhedkgpgoneaaW.PrintMore
attribute [local go_sem] e4z e2z e7z e6z d8z d7z e3z e1z
set_option linter.unusedVariables false
set_option linter.unusedSimpArgs false
def slices_ContainsFunc_Block.f (k : Nat) (l0 : List (S44))  : Option (Bool):=(slices_IndexFunc_Block.f k l0).bind fun t101 => (some (decide (t101 ≥ 0)))
set_option maxHeartbeats 8000000 in
set_option maxRecDepth 100000 in
theorem slices_ContainsFunc_Block.calls (k : Nat) (A0 : Option Addr) (c0 : Nat) (l0 : List (S44))  (r : Bool) (w : World) (hr0 : Kd.C k44 w A0 l0.length l0) (hc0 : l0.length ≤ c0) (h : slices_ContainsFunc_Block.f k l0 = some r) :
  Calls Try.prog 54 #[.slice A0 l0.length c0,.func (.func 55) #[] #[]] w fun e w' => e = .returned (.bool r) ∧ Below w.heap.size w w':=by
 have HR0:=a0z.mk hr0
 have HC0:=a0z.mk hc0
 clear hr0 hc0
 have HB:=a0z.mk (Below.refl w.heap.size w)
 have H : ((slices_IndexFunc_Block.f k l0).bind fun t101 => (some (decide (t101 ≥ 0)))) = some r:=h
 clear h
 replace H:=Option.bind_eq_some_iff.mp H
 obtain ⟨t101,A30,H⟩:=H
 replace H : (some (decide (t101 ≥ 0))) = some r:=H
 have A3:=a0z.mk A30
 clear A30
 obtain rfl:=Option.some.inj H
 go_enter Try.func54,Try.ntmps54
 go_wp2_with (first|((with_reducible refine b8z (f:=70) rfl ?_);refine d2z (some 7) rfl rfl Try.func70 (by kernel_rfl) rfl #[.slice A0 l0.length c0,.func (.func 55) #[] #[]] rfl (by (try simp only [List.map_toArray,List.map_cons,List.map_nil]);first|done|rfl|(simp only [List.length_drop,List.length_take];rfl)) ?_;(with_reducible refine (slices_IndexFunc_Block.calls k _ _ l0  t101 _ ?side1 ?side2 A3.1).mono ?_);(case side1 => repeat (first|exact HR0.1|(with_reducible refine Kd.C_alloc ?_ _)|(with_reducible refine Kd.C_drewN ?_ _)|(with_reducible refine Kd.C_drew ?_)));(case side2 => exact HC0.1);rintro e w4 ⟨rfl,hb⟩;refine ⟨_,rfl,?_⟩;have n0_:=a0z.mk (b3z (by repeat (first|(with_reducible first|exact HB.1|apply a3z|apply a1z|apply a2z)|exact HB.1)) hb);clear HB;have HB:=n0_;clear n0_;(try clear hb);(try clear hb2);(try clear hk);(try clear hi)))
 go_ret
 exact ⟨by first|rfl|(simp [c2z,c1z] <;> rfl)|(simp [*,c2z,c1z] <;> rfl),by repeat (first|(with_reducible first|exact HB.1|apply a3z|apply a1z|apply a2z)|exact HB.1)⟩
end Go.Proofs.Ytmdhedkgpgoneaa.Q

namespace Go.Proofs.Ytmdhedkgpgoneaa.Q
open Go.RowKit Go.Proofs.YtmdhedkgpgoneaaW.PrintWords Go.Proofs.YtmdhedkgpgoneaaW.PrintLast Go.Proofs.YtmdhedkgpgoneaaW.PrintMore
attribute [local go_sem] e4z e2z e7z e6z d8z d7z e3z e1z
set_option linter.unusedVariables false
set_option linter.unusedSimpArgs false
def impl_blocksOk.f (k : Nat) (l0 : List (S44)) : Option (Bool):=if (l0.length : Int) ≤ 64 then ((slices_ContainsFunc_Block.f k l0).bind fun t101 => (some (!t101))) else (some false)
set_option maxHeartbeats 8000000 in
set_option maxRecDepth 100000 in
theorem impl_blocksOk.calls (k : Nat) (A0 : Option Addr) (c0 : Nat) (l0 : List (S44)) (r : Bool) (w : World) (hr0 : Kd.C k44 w A0 l0.length l0) (hc0 : l0.length ≤ c0) (h : impl_blocksOk.f k l0 = some r) :
  Calls Try.prog 37 #[.slice A0 l0.length c0] w fun e w' => e = .returned (.bool r) ∧ Below w.heap.size w w':=by
 have HR0:=a0z.mk hr0
 have HC0:=a0z.mk hc0
 clear hr0 hc0
 have HB:=a0z.mk (Below.refl w.heap.size w)
 have H : (if (l0.length : Int) ≤ 64 then ((slices_ContainsFunc_Block.f k l0).bind fun t101 => (some (!t101))) else (some false)) = some r:=h
 clear h
 by_cases c2 : (l0.length : Int) ≤ 64
 ·rw [if_pos c2] at H
  have c2b0 : decide ((l0.length : Int) ≤ 64) = true:=decide_eq_true c2
  have c2b1 : decide (l0.length ≤ 64) = true:=decide_eq_true (by omega)
  clear c2
  replace H:=Option.bind_eq_some_iff.mp H
  obtain ⟨t101,A30,H⟩:=H
  replace H : (some (!t101)) = some r:=H
  have A3:=a0z.mk A30
  clear A30
  obtain rfl:=Option.some.inj H
  go_enter Try.func37,Try.ntmps37
  go_wp2_with (first|(go_at_call 54;(with_reducible refine (slices_ContainsFunc_Block.calls k _ _ l0  t101 _ ?side1 ?side2 A3.1).mono ?_);(case side1 => repeat (first|exact HR0.1|(with_reducible refine Kd.C_alloc ?_ _)|(with_reducible refine Kd.C_drewN ?_ _)|(with_reducible refine Kd.C_drew ?_)));(case side2 => exact HC0.1);rintro e w4 ⟨rfl,hb⟩;have n0_:=a0z.mk (b3z (by repeat (first|(with_reducible first|exact HB.1|apply a3z|apply a1z|apply a2z)|exact HB.1)) hb);clear HB;have HB:=n0_;clear n0_;(try clear hb);(try clear hb2);(try clear hk);(try clear hi)))
  go_ret
  exact ⟨by first|rfl|(simp [c2z,c1z] <;> rfl)|(simp [*,c2z,c1z] <;> rfl),by repeat (first|(with_reducible first|exact HB.1|apply a3z|apply a1z|apply a2z)|exact HB.1)⟩
 ·rw [if_neg c2] at H
  have c2b0 : decide ((l0.length : Int) ≤ 64) = false:=decide_eq_false c2
  have c2b1 : decide (l0.length ≤ 64) = false:=decide_eq_false (by omega)
  clear c2
  obtain rfl:=Option.some.inj H
  go_enter Try.func37,Try.ntmps37
  go_wp2
  go_ret
  exact ⟨by first|rfl|(simp [c2z,c1z] <;> rfl)|(simp [*,c2z,c1z] <;> rfl),by repeat (first|(with_reducible first|exact HB.1|apply a3z|apply a1z|apply a2z)|exact HB.1)⟩
end Go.Proofs.Ytmdhedkgpgoneaa.Q

namespace Go.Proofs.Ytmdhedkgpgoneaa.Q
open Go.RowKit Go.Proofs.YtmdhedkgpgoneaaW.PrintWords Go.Proofs.YtmdhedkgpgoneaaW.PrintLast Go.Proofs.YtmdhedkgpgoneaaW.PrintMore
attribute [local go_sem] e4z e2z e7z e6z d8z d7z e3z e1z
set_option linter.unusedVariables false
set_option linter.unusedSimpArgs false
theorem eqA44 (d : Nat) (w : World) (x0 y0 : Int) (x1 y1 : Int) :
  (Op.equalIn (d + 2) 44 (.agg #[.int .i64 x0,.int .i64 x1]) (.agg #[.int .i64 y0,.int .i64 y1])).run Try.prog w = .ok (x0 == y0 && (x1 == y1)) w:=by
 refine eqA_of Try.underlying44 (by kernel_rfl) ?_
 refine eqf_cons (by rfl) (by go_simp;rfl) (by go_simp;rfl) (by go_simp) ?_
 exact eqf_last (by rfl) (by go_simp;rfl) (by go_simp;rfl) (by go_simp)
end Go.Proofs.Ytmdhedkgpgoneaa.Q

namespace Go.Proofs.Ytmdhedkgpgoneaa.Q
open Go.RowKit Go.Proofs.YtmdhedkgpgoneaaW.PrintWords Go.Proofs.YtmdhedkgpgoneaaW.PrintLast Go.Proofs.YtmdhedkgpgoneaaW.PrintMore
attribute [local go_sem] e4z e2z e7z e6z d8z d7z e3z e1z
set_option linter.unusedVariables false
set_option linter.unusedSimpArgs false
attribute [local go_sem high] eqA44
def slices_Equal_Block.l0 : Nat → List (S44) → List (S44) → Int → Int → Option (Bool)
 | 0,_,_,_,_ => none
 | k + 1,x0,x1,x12,x13 => if x13 < x12 then (if 0 ≤ x13 then (if x13 < (x0.length : Int) then (if x13 < (x1.length : Int) then (if (!(((b6z x0 x13).f0) == ((b6z x1 x13).f0)) || (!(((b6z x0 x13).f1) == ((b6z x1 x13).f1)))) = true then (some false) else (slices_Equal_Block.l0 k x0 x1 x12 (wrap64 (x13 + 1)))) else (none)) else (none)) else (none)) else (some true)
def slices_Equal_Block.f (k : Nat) (l0 : List (S44)) (l1 : List (S44)) : Option (Bool):=if (l0.length : Int) = (l1.length : Int) then (slices_Equal_Block.l0 k l0 l1 (l0.length : Int) 0) else (some false)
set_option maxHeartbeats 8000000 in
set_option maxRecDepth 100000 in
theorem slices_Equal_Block.calls (k : Nat) (A0 : Option Addr) (c0 : Nat) (l0 : List (S44)) (A1 : Option Addr) (c1 : Nat) (l1 : List (S44)) (r : Bool) (w : World) (hr0 : Kd.C k44 w A0 l0.length l0) (hc0 : l0.length ≤ c0) (hr1 : Kd.C k44 w A1 l1.length l1) (hc1 : l1.length ≤ c1) (h : slices_Equal_Block.f k l0 l1 = some r) :
  Calls Try.prog 38 #[.slice A0 l0.length c0,.slice A1 l1.length c1] w fun e w' => e = .returned (.bool r) ∧ Drawn0 w w':=by
 have hu44:=Try.underlying44
 have HR0:=a0z.mk hr0
 have HC0:=a0z.mk hc0
 clear hr0 hc0
 have HR1:=a0z.mk hr1
 have HC1:=a0z.mk hc1
 clear hr1 hc1
 have H : (if (l0.length : Int) = (l1.length : Int) then (slices_Equal_Block.l0 k l0 l1 (l0.length : Int) 0) else (some false)) = some r:=h
 clear h
 by_cases c3 : (l0.length : Int) = (l1.length : Int)
 ·rw [if_pos c3] at H
  have c3b0 : ((l0.length : Int) == (l1.length : Int)) = true:=beq_iff_eq.mpr c3
  have c3b1 : ((l0.length : Int) != (l1.length : Int)) = false:=bne_eq_false_iff_eq.mpr c3
  have c3b2 : (l0.length == l1.length) = true:=by first|simpa using c3|(simp at c3 ⊢;omega)
  clear c3
  have H':=a0z.mk H
  clear H
  go_enter Try.func38,Try.ntmps38
  go_wp2
  repeat (go_quiet (fail);try go_wp2)
  go_loopg [13] k (fun kq v13 w' => ∃ (x13_1 : Int),v13 = .int .i64 x13_1 ∧ a0z (slices_Equal_Block.l0 kq l0 l1 (l0.length : Int) x13_1 = some r) ∧ a0z (kq ≤ k) ∧ Drawn0 w w')
  case atStart => exact ⟨(0),(by first|rfl|(simp;done)|(simp [*];done)),H',⟨Nat.le_refl _⟩,by repeat (first|exact Drawn0.refl _|apply Drawn0.step)⟩
  case round =>
   clear H'
   try clear c1
   try clear p2
   try clear c3
   try clear c3b0
   try clear c3b1
   try clear c3b2
   obtain ⟨x13_1,rfl,HA,HK1,⟨m1,rfl⟩⟩:=hrel
   cases gk with
   | zero => exact absurd HA.1 (by simp [slices_Equal_Block.l0])
   | succ k1 =>
    have H:=HA.1
    clear HA
    simp only [slices_Equal_Block.l0] at H
    by_cases c4 : x13_1 < (l0.length : Int)
    ·rw [if_pos c4] at H
     have c4b0 : decide (x13_1 < (l0.length : Int)) = true:=decide_eq_true c4
     clear c4
     by_cases c5 : 0 ≤ x13_1
     ·rw [if_pos c5] at H
      have c5b0 : decide (0 ≤ x13_1) = true:=decide_eq_true c5
      clear c5
      by_cases c6 : x13_1 < (l0.length : Int)
      ·rw [if_pos c6] at H
       have c6b0 : decide (x13_1 < (l0.length : Int)) = true:=decide_eq_true c6
       clear c6
       by_cases c7 : x13_1 < (l1.length : Int)
       ·rw [if_pos c7] at H
        have c7b0 : decide (x13_1 < (l1.length : Int)) = true:=decide_eq_true c7
        clear c7
        by_cases c8 : (!(((b6z l0 x13_1).f0) == ((b6z l1 x13_1).f0)) || (!(((b6z l0 x13_1).f1) == ((b6z l1 x13_1).f1)))) = true
        ·rw [if_pos c8] at H
         have c8b0 : (!(((b6z l0 x13_1).f0) == ((b6z l1 x13_1).f0)) || (!(((b6z l0 x13_1).f1) == ((b6z l1 x13_1).f1)))) = true:=c8
         clear c8
         obtain rfl:=Option.some.inj H
         have p101 : 0 ≤ (x13_1 : Int):=of_decide_eq_true (by first|(with_reducible assumption)|assumption)
         have q101 : x13_1 < (l0.length : Int):=of_decide_eq_true (by first|(with_reducible assumption)|assumption)
         obtain ⟨ad101,e101,hx101_0,hx101_1⟩:=h2z HR0.1 x13_1 p101 q101
         cases e101
         replace p101:=eq_true p101
         replace q101:=eq_true q101
         have p102 : 0 ≤ (x13_1 : Int):=of_decide_eq_true (by first|(with_reducible assumption)|assumption)
         have q102 : x13_1 < (l1.length : Int):=of_decide_eq_true (by first|(with_reducible assumption)|assumption)
         obtain ⟨ad102,e102,hx102_0,hx102_1⟩:=h2z HR1.1 x13_1 p102 q102
         cases e102
         replace p102:=eq_true p102
         replace q102:=eq_true q102
         go_wp2
         repeat (go_quiet (fail);try go_wp2)
         go_ret
         exact ⟨by first|rfl|(simp;done)|(simp [*];done),by repeat (first|exact Drawn0.refl _|apply Drawn0.step)⟩
        ·rw [if_neg c8] at H
         have c8b0 : (!(((b6z l0 x13_1).f0) == ((b6z l1 x13_1).f0)) || (!(((b6z l0 x13_1).f1) == ((b6z l1 x13_1).f1)))) = false:=by simpa using c8
         clear c8
         have H':=a0z.mk H
         clear H
         have p101 : 0 ≤ (x13_1 : Int):=of_decide_eq_true (by first|(with_reducible assumption)|assumption)
         have q101 : x13_1 < (l0.length : Int):=of_decide_eq_true (by first|(with_reducible assumption)|assumption)
         obtain ⟨ad101,e101,hx101_0,hx101_1⟩:=h2z HR0.1 x13_1 p101 q101
         cases e101
         replace p101:=eq_true p101
         replace q101:=eq_true q101
         have p102 : 0 ≤ (x13_1 : Int):=of_decide_eq_true (by first|(with_reducible assumption)|assumption)
         have q102 : x13_1 < (l1.length : Int):=of_decide_eq_true (by first|(with_reducible assumption)|assumption)
         obtain ⟨ad102,e102,hx102_0,hx102_1⟩:=h2z HR1.1 x13_1 p102 q102
         cases e102
         replace p102:=eq_true p102
         replace q102:=eq_true q102
         go_wp2
         repeat (go_quiet (fail);try go_wp2)
         go_roundg k1
         case measure => have:=HK1.1;omega
         case rel => exact ⟨(wrap64 (x13_1 + 1)),(by first|rfl|(simp;done)|(simp [*];done)),H',⟨by have:=HK1.1;omega⟩,by repeat (first|exact Drawn0.refl _|apply Drawn0.step)⟩
       ·rw [if_neg c7] at H
        exact absurd H (by simp)
      ·rw [if_neg c6] at H
       exact absurd H (by simp)
     ·rw [if_neg c5] at H
      exact absurd H (by simp)
    ·rw [if_neg c4] at H
     have c4b0 : decide (x13_1 < (l0.length : Int)) = false:=decide_eq_false c4
     clear c4
     obtain rfl:=Option.some.inj H
     go_wp2
     repeat (go_quiet (fail);try go_wp2)
     go_ret
     exact ⟨by first|rfl|(simp;done)|(simp [*];done),by repeat (first|exact Drawn0.refl _|apply Drawn0.step)⟩
 ·rw [if_neg c3] at H
  have c3b0 : ((l0.length : Int) == (l1.length : Int)) = false:=beq_eq_false_iff_ne.mpr c3
  have c3b1 : ((l0.length : Int) != (l1.length : Int)) = true:=bne_iff_ne.mpr c3
  have c3b2 : (l0.length == l1.length) = false:=by first|simpa using c3|(simp at c3 ⊢;omega)
  obtain rfl:=Option.some.inj H
  go_enter Try.func38,Try.ntmps38
  go_wp2
  repeat (go_quiet (fail);try go_wp2)
  go_ret
  exact ⟨by first|rfl|(simp;done)|(simp [*];done),by repeat (first|exact Drawn0.refl _|apply Drawn0.step)⟩
end Go.Proofs.Ytmdhedkgpgoneaa.Q

namespace Go.Proofs.Ytmdhedkgpgoneaa.Q
open Go.RowKit Go.Proofs.YtmdhedkgpgoneaaW.PrintWords Go.Proofs.YtmdhedkgpgoneaaW.PrintLast Go.Proofs.YtmdhedkgpgoneaaW.PrintMore
attribute [local go_sem] e4z e2z e7z e6z d8z d7z e3z e1z
set_option linter.unusedVariables false
set_option linter.unusedSimpArgs false
def impl_Block_last.f (a0_0 : Int) (a0_1 : Int) : Option (Int):=(impl_Block_size.f a0_0 a0_1).bind fun t102 => (some (wrap64 ((wrap64 (a0_0 + t102)) - 1)))
set_option maxHeartbeats 8000000 in
set_option maxRecDepth 100000 in
theorem impl_Block_last.calls (a0_0 : Int) (a0_1 : Int) (r : Int) (w : World) (h : impl_Block_last.f a0_0 a0_1 = some r) :
  Calls Try.prog 58 #[.agg #[.int .i64 a0_0,.int .i64 a0_1]] w fun e w' => e = .returned (.int .i64 r) ∧ Below w.heap.size w w':=by
 have hu44:=Try.underlying44
 have HB:=a0z.mk (Below.refl w.heap.size w)
 have H : ((impl_Block_size.f a0_0 a0_1).bind fun t102 => (some (wrap64 ((wrap64 (a0_0 + t102)) - 1)))) = some r:=h
 clear h
 replace H:=Option.bind_eq_some_iff.mp H
 obtain ⟨t102,A20,H⟩:=H
 replace H : (some (wrap64 ((wrap64 (a0_0 + t102)) - 1))) = some r:=H
 have A2:=a0z.mk A20
 clear A20
 obtain rfl:=Option.some.inj H
 go_enter Try.func58,Try.ntmps58
 try go_wp2_with (first|((with_reducible refine d4z (N:=1) rfl ?_);refine e0z ?hg (N:=1) ?hd (cs:=#[.int .i64 a0_0,.int .i64 a0_1]) (t:=44) ?hr ?_;(case hd => rfl);(case hg => rfl);(case hr => first|(go_simp;done)|(go_simp;rfl));intro gb101 hg w3 hbox hb;have n0_:=a0z.mk (b3z (by repeat (first|(with_reducible first|exact HB.1|apply a3z|apply a1z|apply a2z)|exact HB.1)) hb);have n1_:=a0z.mk (hbox);have n2_:=a0z.mk ((by rw [hg];exact (b1z (by repeat (first|(with_reducible first|exact HB.1|apply a3z|apply a1z|apply a2z)|exact HB.1))) : w.heap.size ≤ gb101));have n3_:=a0z.mk ((by rw [hg];exact (b1z (by repeat (first|(with_reducible first|exact HB.1|apply a3z|apply a1z|apply a2z)|exact HB.1))) : w.heap.size ≤ gb101));clear HB;have HB:=n0_;have BK101:=n1_;have GW101:=n2_;have GE101:=n3_;clear n0_ n1_ n2_ n3_;clear hb hbox hg))
 have n0_:=a0z.mk (a9z BK101.1)
 have n1_:=a0z.mk (a2z HB.1)
 clear BK101
 clear HB
 have BK101:=n0_
 have HB:=n1_
 clear n0_ n1_
 refine g9z (n:=7) (S:=fun w' => w'.cell? ⟨gb101,0,none⟩ = some (.int .i64 a0_0) ∧ w'.cell? ⟨gb101,1,none⟩ = some (.int .i64 a0_1)) (ds:=[]) #[false,false,false,false,false,false,false] (by kernel_rfl) rfl rfl ⟨(b2z BK101.1 0).trans rfl,(b2z BK101.1 1).trans rfl⟩ (fun hHeld => ?_)
 generalize w3.drew = w4 at BK101 HB hHeld ⊢
 refine pure_ (i:=0) (N:=some 3) (v:=?_) (a':=?_) #[true,false,false,false,false,false,false] rfl rfl (by kernel_rfl) (fun _ _ _ h => h) (Or.inl ⟨by rfl,?_⟩) ?_ ?_
 rotate_left
 ·intro w'
  go_simp
  with_reducible rfl
 rotate_left
 ·simp only [Act.put,sA_,sZ_,sS_,i64_w,i32_w]
  rfl
 refine take_ (i:=1) (N:=some 4) (v:=?_) (a':=?_) #[true,true,false,false,false,false,false] rfl rfl (by kernel_rfl) (fun _ _ _ h => h) (Or.inl ⟨by rfl,?_⟩) hHeld ?_ ?_
 rotate_left
 ·rintro w' ⟨s0,s1⟩
  go_simp
  with_reducible rfl
 rotate_left
 ·simp only [Act.put,sA_,sZ_,sS_,i64_w,i32_w]
  rfl
 refine take_ (i:=2) (N:=some 5) (v:=?_) (a':=?_) #[true,true,true,false,false,false,false] rfl rfl (by kernel_rfl) (fun _ _ _ h => h) (Or.inl ⟨by rfl,?_⟩) hHeld ?_ ?_
 rotate_left
 ·rintro w' ⟨s0,s1⟩
  go_simp
  with_reducible rfl
 rotate_left
 ·simp only [Act.put,sA_,sZ_,sS_,i64_w,i32_w]
  rfl
 refine one_ (i:=3) (N:=some 6) #[true,true,true,true,false,false,false] rfl rfl (by kernel_rfl) (by decide) (fun K hK => ?_)
 refine goes_ Try.func45 (by kernel_rfl) rfl #[.agg #[.int .i64 a0_0,.int .i64 a0_1]] (by rfl) rfl rfl (by (try simp only [List.map_toArray,List.map_cons,List.map_nil]);first|done|rfl|(simp only [List.length_drop,List.length_take];rfl)) ?_
 with_reducible refine (impl_Block_size.calls a0_0 a0_1 t102 _ A2.1).mono ?_
 rintro e w5 ⟨rfl,hb⟩
 refine ⟨_,rfl,?_⟩
 have n0_:=a0z.mk (d9z (g:=gb101) (o:=.cells #[.int .i64 a0_0,.int .i64 a0_1] 44 (0,0)) (by (with_reducible repeat (first|refine a8z ?_ _|refine a9z ?_|refine a7z ?_ _));exact BK101.1) hb)
 have n1_:=a0z.mk (b3z (by repeat (first|(with_reducible first|exact HB.1|apply a3z|apply a1z|apply a2z|refine a6z ?_ GE101.1)|exact HB.1)) hb)
 clear BK101
 clear HB
 have BK101:=n0_
 have HB:=n1_
 clear n0_ n1_
 (try clear hb)
 (try clear hb2)
 (try clear hk)
 (try clear hi)
 refine hK.out _ _ ⟨(b2z BK101.1 0).trans rfl,(b2z BK101.1 1).trans rfl⟩ (fun hHeld => ?_)
 clear hK K
 refine norm_ (a':=?_) ?_ ?_
 rotate_left
 ·show Act.put _ (some 6) _ = _
  simp only [Act.put,sA_,sZ_,sS_,i64_w,i32_w]
  rfl
 refine pure_ (i:=4) (N:=some 7) (v:=?_) (a':=?_) #[true,true,true,true,true,false,false] rfl rfl (by kernel_rfl) (fun _ _ _ h => h) (Or.inl ⟨by rfl,?_⟩) ?_ ?_
 rotate_left
 ·intro w'
  go_simp
  with_reducible rfl
 rotate_left
 ·simp only [Act.put,sA_,sZ_,sS_,i64_w,i32_w]
  rfl
 refine pure_ (i:=5) (N:=some 8) (v:=?_) (a':=?_) #[true,true,true,true,true,true,false] rfl rfl (by kernel_rfl) (fun _ _ _ h => h) (Or.inl ⟨by rfl,?_⟩) ?_ ?_
 rotate_left
 ·intro w'
  go_simp
  with_reducible rfl
 rotate_left
 ·simp only [Act.put,sA_,sZ_,sS_,i64_w,i32_w]
  rfl
 refine pure_ (i:=6) (N:=some 2) (v:=?_) (a':=?_) #[true,true,true,true,true,true,true] rfl rfl (by kernel_rfl) (fun _ _ _ h => h) (Or.inl ⟨by rfl,?_⟩) ?_ ?_
 rotate_left
 ·intro w'
  go_simp
  with_reducible rfl
 rotate_left
 ·simp only [Act.put,sA_,sZ_,sS_,i64_w,i32_w]
  rfl
 refine done_ (by kernel_rfl) ?_
 try go_wp2
 go_ret
 exact ⟨by first|rfl|(simp [c2z,c1z] <;> rfl)|(simp [*,c2z,c1z] <;> rfl),by repeat (first|(with_reducible first|exact HB.1|apply a3z|apply a1z|apply a2z|refine a6z ?_ GE101.1)|exact HB.1)⟩
end Go.Proofs.Ytmdhedkgpgoneaa.Q

namespace Go.Proofs.Ytmdhedkgpgoneaa.Q
open Go.RowKit Go.Proofs.YtmdhedkgpgoneaaW.PrintWords Go.Proofs.YtmdhedkgpgoneaaW.PrintLast Go.Proofs.YtmdhedkgpgoneaaW.PrintMore
attribute [local go_sem] e4z e2z e7z e6z d8z d7z e3z e1z
set_option linter.unusedVariables false
set_option linter.unusedSimpArgs false
def impl_spans.l0 : Nat → List (S55) → List (S44) → Int → Int → Option ((List (S55)))
 | 0,_,_,_,_ => none
 | k + 1,x3,x6,x7,x8 => if x8 < x7 then (if 0 ≤ x8 then (if x8 < (x6.length : Int) then ((impl_Block_last.f ((b6z x6 x8).f0) ((b6z x6 x8).f1)).bind fun t103 => (if x3.length < 8796093022208 then (impl_spans.l0 k (x3 ++ [(⟨(b6z x6 x8).f0,t103⟩ : S55)]) x6 x7 (wrap64 (x8 + 1))) else (none))) else (none)) else (none)) else (some x3)
def impl_spans.f (k : Nat) (l0 : List (S44)) : Option ((List (S55))):=impl_spans.l0 k ([] : List (S55)) l0 (l0.length : Int) 0
def impl_spans.T5 : Bool × List (List Nat × List Nat):=(true,[([],[]),([],[]),([1],[1]),([],[]),([3],[3]),([2,4],[2,4]),([5],[5]),([0,6,4],[0,6]),([7,7,0,1,2,3,4,5,6,7],[0,7])])
def impl_spans.B5 : List Nat:=[0,0,2,0,8,30,62,127,255]
theorem impl_spans.tab5 : rtab .any (opsOf Try.f40 5) = impl_spans.T5:=by kernel_rfl
theorem impl_spans.bits5 : waitsOk impl_spans.T5.2 impl_spans.B5 = true:=by kernel_rfl
set_option maxHeartbeats 8000000 in
set_option maxRecDepth 100000 in
theorem impl_spans.calls (k : Nat) (A0 : Option Addr) (c0 : Nat) (l0 : List (S44)) (r : List (S55)) (w : World) (hr0 : Kd.C k44 w A0 l0.length l0) (hc0 : l0.length ≤ c0) (h : impl_spans.f k l0 = some r) :
  Calls Try.prog 40 #[.slice A0 l0.length c0] w fun e w' => ∃ v0_ : Value,e = .returned (v0_) ∧ Kd.R k55 55 w' w.heap.size (fun _ => True) v0_ r ∧ Below w.heap.size w w':=by
 have hu44:=Try.underlying44
 have hu55:=Try.underlying55
 have HR0:=a0z.mk hr0
 have HC0:=a0z.mk hc0
 clear hr0 hc0
 have HB:=a0z.mk (Below.refl w.heap.size w)
 have H : (impl_spans.l0 k ([] : List (S55)) l0 (l0.length : Int) 0) = some r:=h
 clear h
 have H':=a0z.mk H
 clear H
 go_enter Try.func40,Try.ntmps40
 go_wp2
 go_loopg [3,8] k (fun kq v3 v8 w' => ∃ (x3_1 : List (S55)) (x8_1 : Int),v8 = .int .i64 x8_1 ∧ a0z (impl_spans.l0 kq x3_1 l0 (l0.length : Int) x8_1 = some r) ∧ a0z (kq ≤ k) ∧ a0z (Kd.R k55 55 w' w.heap.size (fun _ => True) v3 x3_1) ∧ a0z (Below w.heap.size w w'))
 case atStart => exact ⟨(([] : List (S55))),(0),(by first|rfl|(simp;done)|(simp [*];done)),H',⟨Nat.le_refl _⟩,⟨by first|exact Kd.R_nil _ _ _ _ _|exact Kd.N_nil _ _ _ _ _|exact Kd.V_nil _ _ _ _ _|exact Kd.Q_nil _ _ _ _ _|exact Kd.S_nil _ _ _ _ _⟩,⟨by repeat (first|(with_reducible first|exact HB.1|apply a3z|apply a1z|apply a2z)|exact HB.1)⟩⟩
 case round =>
  clear H'
  obtain ⟨x3_1,x8_1,rfl,HA,HK1,HO_3,HB⟩:=hrel
  cases gk with
  | zero => exact absurd HA.1 (by simp [impl_spans.l0])
  | succ k1 =>
   have H:=HA.1
   clear HA
   simp only [impl_spans.l0] at H
   by_cases c2 : x8_1 < (l0.length : Int)
   ·rw [if_pos c2] at H
    have c2b0 : decide (x8_1 < (l0.length : Int)) = true:=decide_eq_true c2
    clear c2
    by_cases c3 : 0 ≤ x8_1
    ·rw [if_pos c3] at H
     have c3b0 : decide (0 ≤ x8_1) = true:=decide_eq_true c3
     clear c3
     by_cases c4 : x8_1 < (l0.length : Int)
     ·rw [if_pos c4] at H
      have c4b0 : decide (x8_1 < (l0.length : Int)) = true:=decide_eq_true c4
      clear c4
      replace H:=Option.bind_eq_some_iff.mp H
      obtain ⟨t103,A50,H⟩:=H
      replace H : (if x3_1.length < 8796093022208 then (impl_spans.l0 k1 (x3_1 ++ [(⟨(b6z l0 x8_1).f0,t103⟩ : S55)]) l0 (l0.length : Int) (wrap64 (x8_1 + 1))) else (none)) = some r:=H
      have A5:=a0z.mk A50
      clear A50
      by_cases c6 : x3_1.length < 8796093022208
      ·rw [if_pos c6] at H
       have LMc6:=a0z.mk c6
       clear c6
       obtain ⟨y104,hy104⟩ : ∃ y_ : List (S55),y_ = (x3_1 ++ [(⟨(b6z l0 x8_1).f0,t103⟩ : S55)]):=⟨_,rfl⟩
       replace H : (impl_spans.l0 k1 y104 l0 (l0.length : Int) (wrap64 (x8_1 + 1))) = some r:=by first|(rw [hy104];with_reducible exact H)|(have H2_:=(Option.bind_some _ _).symm.trans H;rw [hy104];with_reducible exact H2_)|(have H2_:=(Option.bind_some _ _).symm.trans H;with_reducible exact H2_)|with_reducible exact H|(rw [hy104];exact H)|exact H
       have Ny104:=a0z.mk hy104
       clear hy104
       have H':=a0z.mk H
       clear H
       have p101 : 0 ≤ (x8_1 : Int):=of_decide_eq_true (by first|(with_reducible assumption)|assumption)
       have q101 : x8_1 < (l0.length : Int):=of_decide_eq_true (by first|(with_reducible assumption)|assumption)
       obtain ⟨ad101,e101,hx101_0,hx101_1⟩:=h2z HR0.1 x8_1 p101 q101
       cases e101
       replace hx101_0:=(HB.1.cell (World.block_lt_of_cell? w _ hx101_0)).trans hx101_0
       replace hx101_1:=(HB.1.cell (World.block_lt_of_cell? w _ hx101_1)).trans hx101_1
       replace p101:=eq_true p101
       replace q101:=eq_true q101
       try go_wp2_with (first|((with_reducible refine d4z (N:=5) rfl ?_);refine e0z ?hg (N:=5) ?hd (cs:=#[.int .i64 0,.int .i64 0]) (t:=44) ?hr ?_;(case hd => rfl);(case hg => rfl);(case hr => first|(go_simp;done)|(go_simp;rfl));intro gb102 hg w7 hbox hb;have n0_:=a0z.mk (Kd.c3z (by (with_reducible repeat (first|apply Kd.R_alloc|apply Kd.a4z|apply Kd.a5z));exact HO_3.1) hb);have n1_:=a0z.mk (b3z (by repeat (first|(with_reducible first|exact HB.1|apply a3z|apply a1z|apply a2z)|exact HB.1)) hb);have n2_:=a0z.mk (hbox);have n3_:=a0z.mk ((by rw [hg];exact (b1z (by repeat (first|(with_reducible first|exact HB.1|apply a3z|apply a1z|apply a2z)|exact HB.1))) : w.heap.size ≤ gb102));have n4_:=a0z.mk ((by rw [hg];exact (b1z (by repeat (first|(with_reducible first|exact HB.1|apply a3z|apply a1z|apply a2z)|exact HB.1))) : w.heap.size ≤ gb102));clear HO_3;clear HB;have HO_3:=n0_;have HB:=n1_;have BK102:=n2_;have GW102:=n3_;have GE102:=n4_;clear n0_ n1_ n2_ n3_ n4_;clear hb hbox hg;have hcz8_0 : w7.cell? ⟨gb102,0,none⟩ = some (.int .i64 0):=(b2z BK102.1 0).trans rfl;have hcz8_1 : w7.cell? ⟨gb102,1,none⟩ = some (.int .i64 0):=(b2z BK102.1 1).trans rfl;have hfz8_0:=b7z BK102.1 0;have hfz8_1:=b7z BK102.1 1))
       have n0_ : a0z (Kd.R k55 55 ((w7.setCell ⟨gb102,0,none⟩ (.int .i64 ((b6z l0 x8_1).f0))).setCell ⟨gb102,1,none⟩ (.int .i64 ((b6z l0 x8_1).f1))) w.heap.size (fun _ => True) u3 x3_1):=⟨by (with_reducible repeat (first|apply Kd.R_alloc|apply Kd.a4z|apply Kd.a5z));exact Kd.b5z (Kd.R_far (p:=⟨gb102,1,none⟩) (Kd.R_far (p:=⟨gb102,0,none⟩) (Kd.R_types HO_3.1 BK102.1 (by decide)) (fun _ hk => hk.2) (.int .i64 ((b6z l0 x8_1).f0))) (fun _ hk => hk.2) (.int .i64 ((b6z l0 x8_1).f1))) (fun _ hk => trivial)⟩
       have n1_ : a0z (((w7.setCell ⟨gb102,0,none⟩ (.int .i64 ((b6z l0 x8_1).f0))).setCell ⟨gb102,1,none⟩ (.int .i64 ((b6z l0 x8_1).f1))).heap[gb102]? = some (.cells #[.int .i64 ((b6z l0 x8_1).f0),.int .i64 ((b6z l0 x8_1).f1)] 44 (0,0))):=⟨by (with_reducible repeat (first|refine a8z ?_ _|refine a9z ?_|refine a7z ?_ _));refine d6z (cs:=#[.int .i64 ((b6z l0 x8_1).f0),.int .i64 0]) ?_ 1 _ rfl;(with_reducible repeat (first|refine a8z ?_ _|refine a9z ?_|refine a7z ?_ _));refine d6z (cs:=#[.int .i64 0,.int .i64 0]) ?_ 0 _ rfl;(with_reducible repeat (first|refine a8z ?_ _|refine a9z ?_|refine a7z ?_ _));exact BK102.1⟩
       have n2_ : a0z (Below w.heap.size w ((w7.setCell ⟨gb102,0,none⟩ (.int .i64 ((b6z l0 x8_1).f0))).setCell ⟨gb102,1,none⟩ (.int .i64 ((b6z l0 x8_1).f1)))):=⟨by repeat (first|(with_reducible first|exact HB.1|apply a3z|apply a1z|apply a2z|refine a6z ?_ GE102.1)|exact HB.1)⟩
       (try clear HO_3)
       (try clear BK102)
       (try clear HB)
       generalize ((w7.setCell ⟨gb102,0,none⟩ (.int .i64 ((b6z l0 x8_1).f0))).setCell ⟨gb102,1,none⟩ (.int .i64 ((b6z l0 x8_1).f1))) = w9 at n0_ n1_ n2_ ⊢
       have HO_3:=n0_
       have BK102:=n1_
       have HB:=n2_
       clear n0_ n1_ n2_
       have n0_:=a0z.mk (Kd.a5z HO_3.1)
       have n1_:=a0z.mk (a9z BK102.1)
       have n2_:=a0z.mk (a2z HB.1)
       clear HO_3
       clear BK102
       clear HB
       have HO_3:=n0_
       have BK102:=n1_
       have HB:=n2_
       clear n0_ n1_ n2_
       refine g9z (n:=9) (S:=fun w' => w'.cell? ⟨gb102,0,none⟩ = some (.int .i64 ((b6z l0 x8_1).f0)) ∧ w'.cell? ⟨gb102,1,none⟩ = some (.int .i64 ((b6z l0 x8_1).f1))) (ds:=[]) #[false,false,false,false,false,false,false,false,false] (by kernel_rfl) rfl rfl ⟨(b2z BK102.1 0).trans rfl,(b2z BK102.1 1).trans rfl⟩ (fun hHeld => ?_);refine f8z impl_spans.tab5 impl_spans.bits5 (fun HT_ HW_ => ?_)
       generalize w9.drew = w10 at HO_3 BK102 HB hHeld ⊢
       refine pure_ (i:=0) (N:=some 12) (v:=?_) (a':=?_) #[true,false,false,false,false,false,false,false,false] rfl rfl (c0z HT_.1 (by kernel_rfl)) (fun _ _ _ h => h) (Or.inl ⟨by rfl,?_⟩) ?_ ?_
       rotate_left
       ·intro w'
        go_simp
        with_reducible rfl
       rotate_left
       ·simp only [Act.put,sA_,sZ_,sS_,i64_w,i32_w]
        rfl
       refine pure_ (i:=1) (N:=some 13) (v:=?_) (a':=?_) #[true,true,false,false,false,false,false,false,false] rfl rfl (c0z HT_.1 (by kernel_rfl)) (fun _ _ _ h => h) (Or.inl ⟨by rfl,?_⟩) ?_ ?_
       rotate_left
       ·intro w'
        go_simp
        with_reducible rfl
       rotate_left
       ·simp only [Act.put,sA_,sZ_,sS_,i64_w,i32_w]
        rfl
       refine take_ (i:=2) (N:=some 14) (v:=?_) (a':=?_) #[true,true,true,false,false,false,false,false,false] rfl rfl (f3z HT_.1 HW_.1 (by kernel_rfl)) (fun _ _ _ h => h) (Or.inl ⟨by rfl,?_⟩) hHeld ?_ ?_
       rotate_left
       ·rintro w' ⟨s0,s1⟩
        go_simp
        with_reducible rfl
       rotate_left
       ·simp only [Act.put,sA_,sZ_,sS_,i64_w,i32_w]
        rfl
       refine take_ (i:=3) (N:=some 15) (v:=?_) (a':=?_) #[true,true,true,true,false,false,false,false,false] rfl rfl (f3z HT_.1 HW_.1 (by kernel_rfl)) (fun _ _ _ h => h) (Or.inl ⟨by rfl,?_⟩) hHeld ?_ ?_
       rotate_left
       ·rintro w' ⟨s0,s1⟩
        go_simp
        with_reducible rfl
       rotate_left
       ·simp only [Act.put,sA_,sZ_,sS_,i64_w,i32_w]
        rfl
       refine one_ (i:=4) (N:=some 16) #[true,true,true,true,true,false,false,false,false] rfl rfl (f9z HT_.1 (by kernel_rfl)) (by decide) (fun K hK => ?_)
       refine goes_ Try.func58 (by kernel_rfl) rfl #[.agg #[.int .i64 ((b6z l0 x8_1).f0),.int .i64 ((b6z l0 x8_1).f1)]] (by rfl) rfl rfl (by (try simp only [List.map_toArray,List.map_cons,List.map_nil]);first|done|rfl|(simp only [List.length_drop,List.length_take];rfl)) ?_
       with_reducible refine (impl_Block_last.calls ((b6z l0 x8_1).f0) ((b6z l0 x8_1).f1) t103 _ A5.1).mono ?_
       rintro e w11 ⟨rfl,hb⟩
       refine ⟨_,rfl,?_⟩
       have n0_:=a0z.mk (Kd.c3z (by (with_reducible repeat (first|apply Kd.R_alloc|apply Kd.a4z|apply Kd.a5z));exact HO_3.1) hb)
       have n1_:=a0z.mk (d9z (g:=gb102) (o:=.cells #[.int .i64 ((b6z l0 x8_1).f0),.int .i64 ((b6z l0 x8_1).f1)] 44 (0,0)) (by (with_reducible repeat (first|refine a8z ?_ _|refine a9z ?_|refine a7z ?_ _));exact BK102.1) hb)
       have n2_:=a0z.mk (b3z (by repeat (first|(with_reducible first|exact HB.1|apply a3z|apply a1z|apply a2z|refine a6z ?_ GE102.1)|exact HB.1)) hb)
       clear HO_3
       clear BK102
       clear HB
       have HO_3:=n0_
       have BK102:=n1_
       have HB:=n2_
       clear n0_ n1_ n2_
       (try clear hb)
       (try clear hb2)
       (try clear hk)
       (try clear hi)
       refine hK.out _ _ ⟨(b2z BK102.1 0).trans rfl,(b2z BK102.1 1).trans rfl⟩ (fun hHeld => ?_)
       clear hK K
       refine norm_ (a':=?_) ?_ ?_
       rotate_left
       ·show Act.put _ (some 16) _ = _
        simp only [Act.put,sA_,sZ_,sS_,i64_w,i32_w]
        rfl
       refine pure_ (i:=5) (N:=some 17) (v:=?_) (a':=?_) #[true,true,true,true,true,true,false,false,false] rfl rfl (c0z HT_.1 (by kernel_rfl)) (fun _ _ _ h => h) (Or.inl ⟨by rfl,?_⟩) ?_ ?_
       rotate_left
       ·intro w'
        go_simp
        with_reducible rfl
       rotate_left
       ·simp only [Act.put,sA_,sZ_,sS_,i64_w,i32_w]
        rfl
       refine one_ (i:=6) (N:=some 18) #[true,true,true,true,true,true,true,false,false] rfl rfl (f9z HT_.1 (by kernel_rfl)) (by decide) (fun K hK => ?_)
       refine value_ (w1:=?_) (v:=?_) (by rfl) rfl ?_ ?_
       rotate_left 2
       ·go_simp
        constructor
        ·rfl
        ·rfl
       refine hK.out _ _ ⟨(b2z (a7z BK102.1 _) 0).trans rfl,(b2z (a7z BK102.1 _) 1).trans rfl⟩ (fun hHeld => ?_)
       clear hK K
       refine norm_ (a':=?_) ?_ ?_
       rotate_left
       ·show Act.put _ (some 18) _ = _
        simp only [Act.put,sA_,sZ_,sS_,i64_w,i32_w]
        rfl
       refine one_ (i:=7) (N:=some 19) #[true,true,true,true,true,true,true,true,false] rfl rfl (f9z HT_.1 (by kernel_rfl)) (by decide) (fun K hK => ?_)
       refine Kd.R_append_step k55 (w0:=w) w.heap.size (by rfl) (.tmp 12) (.tmp 18) 48 55 (.agg #[(.int .i64 0),(.int .i64 0)]) 16 rfl Try.underlying48 info55 rfl (by decide) (by omega) u3 x3_1 (⟨(b6z l0 x8_1).f0,t103⟩ : S55) [.int .i64 ((b6z l0 x8_1).f0),.int .i64 t103] (fun _ => True) (fun _ => False) rfl rfl ?aP (fun _ hk => hk.elim) ?aF ?aO ?aB ?aS ?aL ?_
       (case aP => exact k55_mkM _ _ _ (⟨(b6z l0 x8_1).f0,t103⟩ : S55))
       (case aB => exact (by repeat (first|(with_reducible first|exact HB.1|apply a3z|apply a1z|apply a2z|refine a6z ?_ GE102.1)|exact HB.1)))
       (case aF => exact (fun _ _ => trivial))
       (case aO => exact (by (with_reducible repeat (first|apply Kd.R_alloc|apply Kd.a4z|apply Kd.a5z));exact HO_3.1))
       (case aS => exact (b1z (by repeat (first|(with_reducible first|exact HB.1|apply a3z|apply a1z|apply a2z|refine a6z ?_ GE102.1)|exact HB.1))))
       (case aL => have:=LMc6.1;omega)
       intro v105 w12 ho hb hg hat
       rw [← Ny104.1] at ho
       have n0_:=a0z.mk (f0z (g:=gb102) (o:=.cells #[.int .i64 ((b6z l0 x8_1).f0),.int .i64 ((b6z l0 x8_1).f1)] 44 (0,0)) (by (with_reducible repeat (first|refine a8z ?_ _|refine a9z ?_|refine a7z ?_ _));exact BK102.1) hg (Kd.R_ne HO_3.1 BK102.1 (by decide)))
       have n1_:=a0z.mk (hb)
       have n2_:=a0z.mk (ho)
       clear BK102
       clear HB
       clear HO_3
       have BK102:=n0_
       have HB:=n1_
       have HO106:=n2_
       clear n0_ n1_ n2_
       clear ho hb hg hat
       refine hK.out _ _ ⟨(b2z BK102.1 0).trans rfl,(b2z BK102.1 1).trans rfl⟩ (fun hHeld => ?_)
       clear hK K
       refine norm_ (a':=?_) ?_ ?_
       rotate_left
       ·show Act.put _ (some 19) _ = _
        simp only [Act.put,sA_,sZ_,sS_,i64_w,i32_w]
        rfl
       refine pure_ (i:=8) (N:=some 3) (v:=?_) (a':=?_) #[true,true,true,true,true,true,true,true,true] rfl rfl (c0z HT_.1 (by kernel_rfl)) (fun _ _ _ h => h) (Or.inl ⟨by rfl,?_⟩) ?_ ?_
       rotate_left
       ·intro w'
        go_simp
        with_reducible rfl
       rotate_left
       ·simp only [Act.put,sA_,sZ_,sS_,i64_w,i32_w]
        rfl
       refine done_ (g5z HT_.1 (by kernel_rfl)) ?_
       try go_wp2
       go_roundg k1
       case measure => have:=HK1.1;omega
       case rel => exact ⟨(y104),(wrap64 (x8_1 + 1)),(by first|rfl|(simp;done)|(simp [*];done)),H',⟨by have:=HK1.1;omega⟩,⟨by (with_reducible repeat (first|apply Kd.R_alloc|apply Kd.a4z|apply Kd.a5z));exact HO106.1⟩,⟨by repeat (first|(with_reducible first|exact HB.1|apply a3z|apply a1z|apply a2z|refine a6z ?_ GE102.1)|exact HB.1)⟩⟩
      ·rw [if_neg c6] at H
       exact absurd H (by simp)
     ·rw [if_neg c4] at H
      exact absurd H (by simp)
    ·rw [if_neg c3] at H
     exact absurd H (by simp)
   ·rw [if_neg c2] at H
    have c2b0 : decide (x8_1 < (l0.length : Int)) = false:=decide_eq_false c2
    clear c2
    obtain rfl:=Option.some.inj H
    go_wp2
    go_ret
    exact ⟨_,by first|rfl|(simp [c2z,c1z] <;> rfl)|(simp [*,c2z,c1z] <;> rfl),by (with_reducible repeat (first|apply Kd.R_alloc|apply Kd.a4z|apply Kd.a5z));exact HO_3.1,by repeat (first|(with_reducible first|exact HB.1|apply a3z|apply a1z|apply a2z)|exact HB.1)⟩
end Go.Proofs.Ytmdhedkgpgoneaa.Q

namespace Go.Proofs.Ytmdhedkgpgoneaa.Sy
open Go.RowKit Go.Proofs.Ytmdhedkgpgoneaa.Q Go.Proofs.YtmdhedkgpgoneaaW.PrintWords
/-- The cells of a span. -/
def enc (x : S55) : List Value:=[.int .i64 x.f0,.int .i64 x.f1]
/-- The cells of spans, one behind the other. -/
def encs (xs : List S55) : List Value:=xs.flatMap enc
theorem encs_cons (x : S55) (xs : List S55) : encs (x :: xs) = enc x ++ encs xs:=by simp [encs]
theorem encs_append (xs ys : List S55) : encs (xs ++ ys) = encs xs ++ encs ys:=by simp [encs]
theorem encs_one (x : S55) : encs [x] = enc x:=by simp [encs]
theorem encs_length : ∀ xs : List S55,(encs xs).length = xs.length * 2
 | [] => rfl
 | x :: xs => by
  rw [encs_cons,List.length_append,encs_length xs,List.length_cons]
  show 2 + _ = _
  omega
theorem to_reps {R : S55 → List Value → Prop} (hR : ∀ x,R x (enc x)) : ∀ xs : List S55,Reps R 2 xs (encs xs)
 | [] => Reps.none _ _
 | x :: xs => by
  have ih:=to_reps hR xs
  refine ⟨encs_length _,fun j p hj => ?_⟩
  rw [encs_cons]
  cases j with
  | zero =>
   obtain rfl : x = p:=by simpa using hj
   exact hR x
  | succ j =>
   have h1:=ih.2 j p (by simpa using hj)
   rw [show (j + 1) * 2 = (enc x).length + j * 2 by show _ = 2 + _;omega,← List.drop_drop,List.drop_left]
   exact h1
section
variable {w w1 : World} {base : Nat} {ok : Nat → Prop} {v : Value} {xs : List S55}
theorem R_of (h0 : ∀ k,v.ownBlock = some k → ok k) (ho : w.ownsRow base 55 2 v xs.length (encs xs)) : Kd.R k55 55 w base ok v xs :=
 ⟨h0,encs xs,ho,to_reps (fun x => k55_mkM _ _ _ x) xs⟩
end
end Go.Proofs.Ytmdhedkgpgoneaa.Sy

namespace Go.Proofs.Ytmdhedkgpgoneaa.Un
open Go.RowKit Go.Shelf Go.Proofs.Ytmdhedkgpgoneaa.Q Go.Proofs.Ytmdhedkgpgoneaa.Sy Go.Proofs.YtmdhedkgpgoneaaW.PrintWords
attribute [local go_sem] Oper.semAt_some
abbrev Sp:=S55
abbrev sat (l : List Sp) (i : Nat) : Sp:=l.getD i z55
theorem take_sat {zs : List Sp} {k : Nat} (h : k < zs.length) : zs.take (k + 1) = zs.take k ++ [sat zs k]:=by
 rw [List.take_succ_eq_append_getElem h]
 show _ = zs.take k ++ [zs.getD k _]
 rw [List.getD_eq_getElem?_getD,List.getElem?_eq_getElem h]
 rfl
set_option maxRecDepth 100000 in
set_option maxHeartbeats 4000000 in
/-- The iterator over a list of spans, for every loop body that keeps what lay below n₀. -/
theorem values1_in (F : Fence) (n : Nat) (h7 : F.fn 76) (hro : F.round = none) (hn : 1 ≤ n) (l Bs n₀ b off len cap : Nat) (zs : List Sp) (hlen : zs.length = len) (hreach : len ≤ 1000000000000) (hb : b < n₀) (J Jx : List Sp → World → Prop)
  (hJa : ∀ pre W o,J pre W → J pre (W.alloc o))
  (hY : ∀ pre x W,J pre W → pre.length < len → YieldAt F (n - 1) Try.prog l #[.agg #[.int .i64 x.f0,.int .i64 x.f1]] W fun e W' =>
   (e = .returned (.bool true) ∧ J (pre ++ [x]) W' ∧ Below n₀ W W') ∨ (e = .returned (.bool false) ∧ Jx (pre ++ [x]) W'))
  (W : World) (hW0 : n₀ ≤ W.heap.size) (hBs : W.cell? ⟨Bs,0,none⟩ = some (.slice (some ⟨b,off,none⟩) len cap)) (hc : ∀ j,j < len → W.cell? ⟨b,off + j * 2,none⟩ = some (.int .i64 (sat zs j).f0) ∧ W.cell? ⟨b,off + j * 2 + 1,none⟩ = some (.int .i64 (sat zs j).f1)) (h0 : J [] W) :
  CallsIn F n Try.prog 76 #[.func (.yield l) #[] #[],.pointer (some ⟨Bs,0,none⟩)] W fun e W' => (∃ v,e = .returned v) ∧
   ((∃ ys,ys = zs ∧ J ys W') ∨ (∃ pre,pre <+: zs ∧ Jx pre W')):=by
 refine callsIn_of_wp Try.func76 rfl h7 ?_ hro
 simp only [Try.ntmps76,List.size_toArray,List.length_cons,List.length_nil,Nat.reduceAdd,Nat.reduceSub,Array.replicate_succ,Array.replicate_zero,List.push_toArray,List.append_toArray,List.nil_append,List.cons_append]
 gi_wp2
 gi_loopw [7] (fun i wr => ∃ k : Nat,k ≤ len ∧ i = .int .i64 k ∧ J (zs.take k) wr ∧ Below n₀ W wr)
  (fun i _ => len - (intOf i).toNat)
 case atStart => exact ⟨0,Nat.zero_le _,rfl,h0,Below.refl _ _⟩
 case round =>
  obtain ⟨k,hk,rfl,hJs,hnx⟩:=hrel
  by_cases hlt : k < len
  ·obtain ⟨c0,c1⟩:=hc k hlt
   have d0:=(hnx.cell (p:=⟨b,off + k * 2,none⟩) hb).trans c0
   have d1:=(hnx.cell (p:=⟨b,off + k * 2 + 1,none⟩) hb).trans c1
   have hs0 : n₀ ≤ wr.heap.size:=Nat.le_trans hW0 hnx.size
   obtain ⟨fn,tmps,assign,body,hy,hR⟩:=hY _ (sat zs k) (wr.alloc (.cells #[.int .i64 (sat zs k).f0,.int .i64 (sat zs k).f1] 55)) (hJa _ _ _ hJs) (by rw [List.length_take];omega)
   have E2:=a0z.mk ((Below.refl n₀ wr).alloc hs0 (.cells #[.int .i64 (sat zs k).f0,.int .i64 (sat zs k).f1] 55))
   generalize hx0 : (sat zs k).f0 = x0 at *
   generalize hx1 : (sat zs k).f1 = x1 at *
   gi_wp2
   refine hR.mono ?_
   rintro e W3 (⟨rfl,hJ3,hk3⟩|⟨rfl,hJx3⟩)
   ·gi_wp2
    go_roundw
    case rel => exact ⟨k + 1,by omega,by simp,by rw [take_sat (by omega)];exact hJ3,hnx.trans (E2.out.trans hk3)⟩
    case measure => simp [intOf];omega
   ·gi_wp2
    refine bodyPost_ret (results_none rfl _ _ _) rfl ?_
    exact ⟨⟨_,rfl⟩,.inr ⟨_,by rw [← take_sat (by omega)];exact List.take_prefix _ _,hJx3⟩⟩
  ·obtain rfl : k = len:=by omega
   gi_wp2
   go_end0
   have e : zs.take k = zs:=by rw [← hlen,List.take_length]
   rw [e] at hJs
   exact ⟨⟨_,rfl⟩,.inl ⟨zs,rfl,hJs⟩⟩
set_option maxRecDepth 100000 in
set_option maxHeartbeats 1000000 in
/-- The same over a list that is nil. -/
theorem values1_nil (F : Fence) (n : Nat) (h7 : F.fn 76) (hro : F.round = none) (l Bs c : Nat) (a : Option Addr) (J : List Sp → World → Prop) (W : World) (hBs : W.cell? ⟨Bs,0,none⟩ = some (.slice a 0 c)) (h0 : J [] W) :
  CallsIn F n Try.prog 76 #[.func (.yield l) #[] #[],.pointer (some ⟨Bs,0,none⟩)] W fun e W' => (∃ v,e = .returned v) ∧ J [] W':=by
 refine callsIn_of_wp Try.func76 rfl h7 ?_ hro
 simp only [Try.ntmps76,List.size_toArray,List.length_cons,List.length_nil,Nat.reduceAdd,Nat.reduceSub,Array.replicate_succ,Array.replicate_zero,List.push_toArray,List.append_toArray,List.nil_append,List.cons_append]
 gi_wp2
 gi_loopw [7] (fun i wr => i = .int .i64 0 ∧ J [] wr) (fun _ _ => 0)
 case atStart => exact ⟨rfl,h0⟩
 case round =>
  obtain ⟨rfl,hJs⟩:=hrel
  gi_wp2
  go_end0
  exact ⟨⟨_,rfl⟩,hJs⟩
/-- A slice value holds spans, in a block below n₀; or there are none. -/
def Holds2 (n₀ : Nat) (W : World) (a : Option Addr) (zs : List Sp) : Prop :=
 zs = [] ∨ ∃ b off,a = some ⟨b,off,none⟩ ∧ b < n₀ ∧ ∀ j,j < zs.length → W.cell? ⟨b,off + j * 2,none⟩ = some (.int .i64 (sat zs j).f0) ∧ W.cell? ⟨b,off + j * 2 + 1,none⟩ = some (.int .i64 (sat zs j).f1)
theorem Holds2.below {n₀ : Nat} {A B : World} (h : Below n₀ A B) {a : Option Addr} {zs : List Sp} : Holds2 n₀ A a zs → Holds2 n₀ B a zs
 | .inl e => .inl e
 | .inr ⟨b,off,e,hb,hc⟩ => .inr ⟨b,off,e,hb,fun j hj => ⟨(h.cell (p:=⟨b,off + j * 2,none⟩) hb).trans (hc j hj).1,(h.cell (p:=⟨b,off + j * 2 + 1,none⟩) hb).trans (hc j hj).2⟩⟩
theorem values_stops (F : Fence) (n : Nat) (h7 : F.fn 76) (hro : F.round = none) (hn : 1 ≤ n) (Bs n₀ cap : Nat) (a : Option Addr) (zs : List Sp) (hreach : zs.length ≤ 1000000000000) (w : World) (hBs : Bs < w.heap.size) (hn₀ : n₀ ≤ w.heap.size)
  (hc : w.cell? ⟨Bs,0,none⟩ = some (.slice a zs.length cap)) (hI : Holds2 n₀ w a zs) :
  SeqStopsK F n Try.prog 76 #[.pointer (some ⟨Bs,0,none⟩)] (fun x : Sp => #[Value.agg #[.int .i64 x.f0,.int .i64 x.f1]]) (Below n₀) (fun ys => ys = zs) (fun pre => pre <+: zs) zs.length w:=fun l J Jx W hW hJ _ hY h0 => by
 have hc':=(hW.cell (p:=⟨Bs,0,none⟩) hBs).trans hc
 have hJa : ∀ pre W' o,J pre W' → J pre (W'.alloc o):=fun pre W' o h => hJ pre W' _ none h (World.grownBy_alloc W' o none) (fun r e => by cases e)
 rcases hI.below (hW.mono hn₀) with rfl|⟨b,off,rfl,hb,hcs⟩
 ·exact (values1_nil F n h7 hro l Bs cap a J W hc' h0).mono fun e W' ⟨he,hj⟩ => ⟨he,.inl ⟨_,rfl,hj⟩⟩
 ·exact values1_in F n h7 hro hn l Bs n₀ b off zs.length cap zs rfl hreach hb J Jx hJa hY W (Nat.le_trans hn₀ hW.size) hc' hcs h0
theorem cell_two_new (W : World) (x y : Value) (t : TypeId) : ∀ (j : Nat) (u : Value),[x,y][j]? = some u → (W.alloc (.cells #[x,y] t)).cell? ((⟨W.heap.size,0,none⟩ : Addr).add j) = some u:=by
 intro j u h
 rw [Addr.add_lit,Nat.zero_add,b2z (World.alloc_heap_new W (.cells #[x,y] t))]
 rw [← h,← Array.getElem?_toList]
theorem append_bound {n : Nat} (h : n ≤ 1000000000000) : n * 16 ≤ 140737488355328:=by omega
set_option maxRecDepth 100000 in
set_option maxHeartbeats 4000000 in
/-- What an iterator over spans gives, one behind the other, in a new row. -/
theorem appendSeq_in (F : Fence) (n : Nat) (h80 : F.fn 80) (h76 : F.fn 76) (hro : F.round = none) (hn : 3 ≤ n) (Bs cap : Nat) (a : Option Addr) (zs : List Sp) (hlen : zs.length ≤ 1000000000000) (w : World) (hBs : Bs < w.heap.size)
  (hc : w.cell? ⟨Bs,0,none⟩ = some (.slice a zs.length cap)) (hI : Holds2 w.heap.size w a zs) :
  CallsIn F n Try.prog 80 #[.slice none 0 0,.func (.func 76) #[] #[.pointer (some ⟨Bs,0,none⟩)]] w fun e W' => ∃ v,e = .returned v ∧ W'.ownsRow w.heap.size 55 2 v zs.length (encs zs) ∧ Below w.heap.size w W':=by
 have h1 : 1 ≤ n:=by omega
 obtain ⟨i0,hi,hz0,hz1,hz2⟩:=info_parts info55
 refine callsIn_of_wp_marks Try.func80 rfl h80 ?_ hro
 simp only [Try.ntmps80,List.size_toArray,List.length_cons,List.length_nil,Nat.reduceAdd,Nat.reduceSub,Array.replicate_succ,Array.replicate_zero,List.push_toArray,List.append_toArray,List.nil_append,List.cons_append]
 gi_wp2
 have bO:=Boxed.new w 48 (.slice none 0 0)
 have hB0 : Below w.heap.size w (w.alloc (.cells #[.slice none 0 0] 48)):=(Below.refl _ w).alloc (Nat.le_refl _) _
 have hsz : (w.alloc (.cells #[.slice none 0 0] 48)).heap.size = w.heap.size + 1:=by simp
 obtain ⟨W0,hW0⟩ : ∃ W0,w.alloc (.cells #[.slice none 0 0] 48) = W0:=⟨_,rfl⟩
 rw [hW0] at bO hB0 hsz ⊢
 clear hW0
 refine wpIn_rangeFunc_ownH hro h1 (gf:=76) (lb:=#[.pointer (some ⟨Bs,0,none⟩)]) rfl h76 (enters_of Try.func76 (by kernel_rfl) rfl)
  (values_stops F (n - 1) h76 hro (by omega) Bs w.heap.size cap a zs hlen W0 (by omega) (by omega) ((hB0.cell (p:=⟨Bs,0,none⟩) hBs).trans hc) (hI.below hB0)) belowK_t (belowK_b (by omega)) (Below.refl _ _) (fun _ => rfl)
  (fun pre W => (∃ v,Boxed W w.heap.size 48 v ∧ W.ownsRow w.heap.size 55 2 v pre.length (encs pre) ∧ True) ∧ Below w.heap.size w W)
  (fun _ _ _ => False)
  (OwnFrom.and (Own.from (holdsRow_own w.heap.size w.heap.size 48 55 2 (fun pre => pre.length) (fun pre => encs pre) (fun pre v => True)) _) (ownFrom_below (Nat.le_refl _) (by omega)))
  (fun _ _ _ _ _ hs _ _ => hs)
  ⟨⟨_,bO,World.ownsRow_nil _ _ _ _,trivial⟩,hB0⟩
  (fun x a' W => ∃ Bx,w.heap.size < Bx ∧ W.heap[Bx]? = some (.cells #[.int .i64 x.f0,.int .i64 x.f1] 55 (0,0)) ∧ a' = { tmps:=#[.slice none 0 0,.func (.func 76) #[] #[.pointer (some ⟨Bs,0,none⟩)],.pointer (some ⟨w.heap.size,0,none⟩),undef,.slice none 0 0,.pointer (some ⟨Bx,0,none⟩),.func (.func 76) #[] #[.pointer (some ⟨Bs,0,none⟩)],.agg #[.int .i64 x.f0,.int .i64 x.f1],undef,undef,undef,undef,undef],defers:=[] })
  (fun x a' _ X Y row hs hg hr => by obtain ⟨Bx,h1,h2,h3⟩:=hs;exact ⟨Bx,h1,(grownBy_keeps_cells hg (fun r e => (hr r e).2) h2 rfl).trans h2,h3⟩)
  ?assign ?body ?done ?stop
 case assign =>
  rintro l pre x W K ⟨⟨v,hv,hrow,_⟩,hB1⟩ hK
  gi_wp2
  exact hK _ _ ((KeepsOthers.alloc _ _).from _) ((Below.refl _ W).alloc hB1.size _) ⟨⟨v,hv.alloc _,hrow.alloc _,trivial⟩,hB1.alloc hB1.size _⟩ ⟨W.heap.size,hv.lt,World.alloc_heap_new W _,rfl⟩
 case body =>
  rintro l pre x a' W hl ⟨r,hr⟩ ⟨⟨v,hv,hrow,_⟩,hB1⟩ ⟨Bx,hBx,bX,rfl⟩ hlt
  have hc1:=hv.cell
  have hx0 : W.cell? ⟨Bx,0,none⟩ = some (.int .i64 x.f0):=(b2z bX 0).trans rfl
  have hx1 : W.cell? ⟨Bx,1,none⟩ = some (.int .i64 x.f1):=(b2z bX 1).trans rfl
  gi_wp2_with (gi_at_builtin;refine wpListIn_append_own _ rfl _ _ 48 rfl w.heap.size 55 i0 (.agg #[.int .i64 0,.int .i64 0]) 2 16 Try.underlying48 hi hz0 hz1 hz2 rfl (by decide) _ _ _ rfl (hrow.alloc _) ⟨W.heap.size,0,none⟩ 1 1 [.int .i64 x.f0,.int .i64 x.f1] rfl rfl (cell_two_new _ _ _ _) (by simp [Value.oneCell']) (by unfold maxLen;omega) (by have:=append_bound hlen;omega) (by have:=hB1.size;simp;omega) ?_;intro v' w1 hown' hgrow _;obtain ⟨g',cap',rfl⟩:=ownsRow_succ hown';obtain ⟨hv1,hv2,hr2,hk2,hb2⟩:=hv.appended (by decide) hrow hB1.size (Nat.le_refl _) hown' hgrow;have hc2:=hv1.cell;have hf2:=hv1.frozen)
  exact ⟨hk2.from _,hb2,⟨_,hv2,by rw [Sy.encs_append,Sy.encs_one,List.length_append];exact hr2,trivial⟩,hB1.trans hb2⟩
 case done =>
  rintro D ys W hD rfl ⟨⟨v,hv,hrow,_⟩,hB1⟩ hK
  have hc1:=hv.cell
  gi_wp2
  refine ⟨by simp,.inl ⟨_,_,rfl,run_takeDeferred hK,?_⟩⟩
  exact ⟨_,results_tmp rfl _ _ _,v,rfl,ownsRow_putObj hrow _ hK rfl,hB1.trans (belowK_b (w:=w) (Nat.le_refl _) W D _ _ (by omega) hK rfl rfl)⟩
 case stop =>
  rintro D c pre W _ _ h _
  exact h.elim
end Go.Proofs.Ytmdhedkgpgoneaa.Un

namespace Go.Proofs
open Go.Shelf
def Try.sortSpan_ren : Go.Shelf.Ren:=⟨fun|6 => 75|15 => 82|14 => 81|28 => 93|29 => 94|20 => 85|21 => 86|22 => 87|23 => 88|24 => 89|25 => 90|26 => 91|27 => 92|46 => 95|47 => 96|48 => 97|49 => 98|50 => 99|57 => 100|n => n,fun|22 => 48|24 => 55|25 => 73|3 => 3|39 => 88|0 => 0|53 => 99|55 => 101|4 => 4|46 => 92|45 => 91|50 => 96|5 => 5|9 => 9|66 => 102|70 => 106|76 => 108|77 => 109|n => n,fun|n => n⟩
theorem Try.sortSpan : Go.Proofs.SlLaysF0.n6 Try.prog Try.sortSpan_ren:={
 mixed:=by kernel_rfl
 f6:=⟨Try.f75.name,by decide,Try.func75.trans (congrArg some (by kernel_rfl))⟩
 f14:=⟨Try.f81.name,by decide,Try.func81.trans (congrArg some (by kernel_rfl))⟩
 f15:=Try.func82.trans (congrArg some (by kernel_rfl))
 f20:=⟨Try.f85.name,by decide,Try.func85.trans (congrArg some (by kernel_rfl))⟩
 f21:=⟨Try.f86.name,by decide,Try.func86.trans (congrArg some (by kernel_rfl))⟩
 f22:=⟨Try.f87.name,by decide,Try.func87.trans (congrArg some (by kernel_rfl))⟩
 f23:=⟨Try.f88.name,by decide,Try.func88.trans (congrArg some (by kernel_rfl))⟩
 f24:=⟨Try.f89.name,by decide,Try.func89.trans (congrArg some (by kernel_rfl))⟩
 f25:=⟨Try.f90.name,by decide,Try.func90.trans (congrArg some (by kernel_rfl))⟩
 f26:=⟨Try.f91.name,by decide,Try.func91.trans (congrArg some (by kernel_rfl))⟩
 f27:=⟨Try.f92.name,by decide,Try.func92.trans (congrArg some (by kernel_rfl))⟩
 f28:=Try.func93.trans (congrArg some (by kernel_rfl))
 f29:=Try.func94.trans (congrArg some (by kernel_rfl))
 f46:=⟨Try.f95.name,by decide,Try.func95.trans (congrArg some (by kernel_rfl))⟩
 f47:=Try.func96.trans (congrArg some (by kernel_rfl))
 f48:=Try.func97.trans (congrArg some (by kernel_rfl))
 f49:=⟨Try.f98.name,by decide,Try.func98.trans (congrArg some (by kernel_rfl))⟩
 f50:=⟨Try.f99.name,by decide,Try.func99.trans (congrArg some (by kernel_rfl))⟩
 f57:=⟨Try.f100.name,by decide,Try.func100.trans (congrArg some (by kernel_rfl))⟩
 t0:=Try.underlying0
 a0:=Try.isAgg0
 z0:=Try.sizeOf0
 v0:=Try.zeroValue0
 t3:=Try.underlying3
 a3:=Try.isAgg3
 z3:=Try.sizeOf3
 v3:=Try.zeroValue3
 t4:=Try.underlying4
 a4:=Try.isAgg4
 z4:=Try.sizeOf4
 v4:=Try.zeroValue4
 t5:=Try.underlying5
 a5:=Try.isAgg5
 z5:=Try.sizeOf5
 v5:=Try.zeroValue5
 t9:=Try.underlying9
 a9:=Try.isAgg9
 z9:=Try.sizeOf9
 v9:=Try.zeroValue9
 t22:=Try.underlying48
 a22:=Try.isAgg48
 z22:=Try.sizeOf48
 v22:=Try.zeroValue48
 t25:=Try.underlying73
 a25:=Try.isAgg73
 z25:=Try.sizeOf73
 v25:=Try.zeroValue73
 t39:=Try.underlying88
 a39:=Try.isAgg88
 z39:=Try.sizeOf88
 v39:=Try.zeroValue88
 t45:=Try.underlying91
 a45:=Try.isAgg91
 z45:=Try.sizeOf91
 v45:=Try.zeroValue91
 t46:=Try.underlying92
 a46:=Try.isAgg92
 z46:=Try.sizeOf92
 v46:=Try.zeroValue92
 t50:=Try.underlying96
 a50:=Try.isAgg96
 z50:=Try.sizeOf96
 v50:=Try.zeroValue96
 t53:=Try.underlying99
 a53:=Try.isAgg99
 z53:=Try.sizeOf99
 v53:=Try.zeroValue99
 t55:=Try.underlying101
 a55:=Try.isAgg101
 z55:=Try.sizeOf101
 v55:=Try.zeroValue101
 t66:=Try.underlying102
 a66:=Try.isAgg102
 z66:=Try.sizeOf102
 v66:=Try.zeroValue102
 t70:=Try.underlying106
 a70:=Try.isAgg106
 z70:=Try.sizeOf106
 v70:=Try.zeroValue106
 t76:=Try.underlying108
 a76:=Try.isAgg108
 z76:=Try.sizeOf108
 v76:=Try.zeroValue108
 t77:=Try.underlying109
 a77:=Try.isAgg109
 z77:=Try.sizeOf109
 v77:=Try.zeroValue109 }
end Go.Proofs

namespace Go.Proofs.Ytmdhedkgpgoneaa.Q
open Go.RowKit Go.Proofs.YtmdhedkgpgoneaaW.PrintWords Go.Proofs.YtmdhedkgpgoneaaW.PrintLast Go.Proofs.YtmdhedkgpgoneaaW.PrintMore
attribute [local go_sem] e4z e2z e7z e6z d8z d7z e3z e1z
set_option linter.unusedVariables false
set_option linter.unusedSimpArgs false
def cmp_isNaN_int.f (a0 : Int) : Option (Bool):=some (a0 != a0)
set_option maxHeartbeats 8000000 in
set_option maxRecDepth 100000 in
theorem cmp_isNaN_int.calls (a0 : Int) (r : Bool) (w : World) (h : cmp_isNaN_int.f a0 = some r) :
  Calls Try.prog 77 #[.int .i64 a0] w fun e w' => e = .returned (.bool r) ∧ Drawn0 w w':=by
 have H : (some (a0 != a0)) = some r:=h
 clear h
 obtain rfl:=Option.some.inj H
 go_enter Try.func77,Try.ntmps77
 go_wp2
 go_ret
 exact ⟨by first|rfl|(simp;done)|(simp [*];done),by repeat (first|exact Drawn0.refl _|apply Drawn0.step)⟩
end Go.Proofs.Ytmdhedkgpgoneaa.Q

namespace Go.Proofs.Ytmdhedkgpgoneaa.Q
open Go.RowKit Go.Proofs.YtmdhedkgpgoneaaW.PrintWords Go.Proofs.YtmdhedkgpgoneaaW.PrintLast Go.Proofs.YtmdhedkgpgoneaaW.PrintMore
attribute [local go_sem] e4z e2z e7z e6z d8z d7z e3z e1z
set_option linter.unusedVariables false
set_option linter.unusedSimpArgs false
def cmp_Compare_int.f (a0 : Int) (a1 : Int) : Option (Int):=(cmp_isNaN_int.f a0).bind fun t101 => ((cmp_isNaN_int.f a1).bind fun t102 => (if t101 = true then (if t102 = true then (some 0) else (some (-1))) else (if t102 = true then (some 1) else (if a0 < a1 then (some (-1)) else (if a0 > a1 then (some 1) else (some 0))))))
set_option maxHeartbeats 8000000 in
set_option maxRecDepth 100000 in
theorem cmp_Compare_int.calls (a0 : Int) (a1 : Int) (r : Int) (w : World) (h : cmp_Compare_int.f a0 a1 = some r) :
  Calls Try.prog 63 #[.int .i64 a0,.int .i64 a1] w fun e w' => e = .returned (.int .i64 r) ∧ Drawn0 w w':=by
 have H : ((cmp_isNaN_int.f a0).bind fun t101 => ((cmp_isNaN_int.f a1).bind fun t102 => (if t101 = true then (if t102 = true then (some 0) else (some (-1))) else (if t102 = true then (some 1) else (if a0 < a1 then (some (-1)) else (if a0 > a1 then (some 1) else (some 0))))))) = some r:=h
 clear h
 replace H:=Option.bind_eq_some_iff.mp H
 obtain ⟨t101,A30,H⟩:=H
 replace H : ((cmp_isNaN_int.f a1).bind fun t102 => (if t101 = true then (if t102 = true then (some 0) else (some (-1))) else (if t102 = true then (some 1) else (if a0 < a1 then (some (-1)) else (if a0 > a1 then (some 1) else (some 0)))))) = some r:=H
 have A3:=a0z.mk A30
 clear A30
 replace H:=Option.bind_eq_some_iff.mp H
 obtain ⟨t102,A40,H⟩:=H
 replace H : (if t101 = true then (if t102 = true then (some 0) else (some (-1))) else (if t102 = true then (some 1) else (if a0 < a1 then (some (-1)) else (if a0 > a1 then (some 1) else (some 0))))) = some r:=H
 have A4:=a0z.mk A40
 clear A40
 by_cases c5 : t101 = true
 ·subst c5
  have H1 : (if t102 = true then (some 0) else (some (-1))) = some r:=by rw [if_pos rfl] at H;exact H
  clear H
  have H:=H1
  clear H1
  by_cases c6 : t102 = true
  ·subst c6
   have H1 : (some 0) = some r:=by rw [if_pos rfl] at H;exact H
   clear H
   have H:=H1
   clear H1
   obtain rfl:=Option.some.inj H
   go_enter Try.func63,Try.ntmps63
   go_wp2_with (first|((with_reducible refine b8z (f:=77) rfl ?_);refine d2z (some 8) rfl rfl Try.func77 (by kernel_rfl) rfl #[.int .i64 a0] rfl (by (try simp only [List.map_toArray,List.map_cons,List.map_nil]);first|done|rfl|(simp only [List.length_drop,List.length_take];rfl)) ?_;(with_reducible refine (cmp_isNaN_int.calls a0 true _ A3.1).mono ?_);rintro e w' ⟨rfl,⟨nd,rfl⟩⟩;refine ⟨_,rfl,?_⟩)|((with_reducible refine b8z (f:=77) rfl ?_);refine d2z (some 10) rfl rfl Try.func77 (by kernel_rfl) rfl #[.int .i64 a1] rfl (by (try simp only [List.map_toArray,List.map_cons,List.map_nil]);first|done|rfl|(simp only [List.length_drop,List.length_take];rfl)) ?_;(with_reducible refine (cmp_isNaN_int.calls a1 true _ A4.1).mono ?_);rintro e w' ⟨rfl,⟨nd,rfl⟩⟩;refine ⟨_,rfl,?_⟩))
   go_ret
   exact ⟨by first|rfl|(simp;done)|(simp [*];done),by repeat (first|exact Drawn0.refl _|apply Drawn0.step)⟩
  ·replace c6:=Bool.eq_false_iff.mpr c6
   subst c6
   have H1 : (some (-1)) = some r:=by rw [if_neg (show ¬ (false = true) by decide)] at H;exact H
   clear H
   have H:=H1
   clear H1
   obtain rfl:=Option.some.inj H
   go_enter Try.func63,Try.ntmps63
   go_wp2_with (first|((with_reducible refine b8z (f:=77) rfl ?_);refine d2z (some 8) rfl rfl Try.func77 (by kernel_rfl) rfl #[.int .i64 a0] rfl (by (try simp only [List.map_toArray,List.map_cons,List.map_nil]);first|done|rfl|(simp only [List.length_drop,List.length_take];rfl)) ?_;(with_reducible refine (cmp_isNaN_int.calls a0 true _ A3.1).mono ?_);rintro e w' ⟨rfl,⟨nd,rfl⟩⟩;refine ⟨_,rfl,?_⟩)|((with_reducible refine b8z (f:=77) rfl ?_);refine d2z (some 10) rfl rfl Try.func77 (by kernel_rfl) rfl #[.int .i64 a1] rfl (by (try simp only [List.map_toArray,List.map_cons,List.map_nil]);first|done|rfl|(simp only [List.length_drop,List.length_take];rfl)) ?_;(with_reducible refine (cmp_isNaN_int.calls a1 false _ A4.1).mono ?_);rintro e w' ⟨rfl,⟨nd,rfl⟩⟩;refine ⟨_,rfl,?_⟩))
   go_ret
   exact ⟨by first|rfl|(simp;done)|(simp [*];done),by repeat (first|exact Drawn0.refl _|apply Drawn0.step)⟩
 ·replace c5:=Bool.eq_false_iff.mpr c5
  subst c5
  have H1 : (if t102 = true then (some 1) else (if a0 < a1 then (some (-1)) else (if a0 > a1 then (some 1) else (some 0)))) = some r:=by rw [if_neg (show ¬ (false = true) by decide)] at H;exact H
  clear H
  have H:=H1
  clear H1
  by_cases c7 : t102 = true
  ·subst c7
   have H1 : (some 1) = some r:=by rw [if_pos rfl] at H;exact H
   clear H
   have H:=H1
   clear H1
   obtain rfl:=Option.some.inj H
   go_enter Try.func63,Try.ntmps63
   go_wp2_with (first|((with_reducible refine b8z (f:=77) rfl ?_);refine d2z (some 8) rfl rfl Try.func77 (by kernel_rfl) rfl #[.int .i64 a0] rfl (by (try simp only [List.map_toArray,List.map_cons,List.map_nil]);first|done|rfl|(simp only [List.length_drop,List.length_take];rfl)) ?_;(with_reducible refine (cmp_isNaN_int.calls a0 false _ A3.1).mono ?_);rintro e w' ⟨rfl,⟨nd,rfl⟩⟩;refine ⟨_,rfl,?_⟩)|((with_reducible refine b8z (f:=77) rfl ?_);refine d2z (some 10) rfl rfl Try.func77 (by kernel_rfl) rfl #[.int .i64 a1] rfl (by (try simp only [List.map_toArray,List.map_cons,List.map_nil]);first|done|rfl|(simp only [List.length_drop,List.length_take];rfl)) ?_;(with_reducible refine (cmp_isNaN_int.calls a1 true _ A4.1).mono ?_);rintro e w' ⟨rfl,⟨nd,rfl⟩⟩;refine ⟨_,rfl,?_⟩))
   go_ret
   exact ⟨by first|rfl|(simp;done)|(simp [*];done),by repeat (first|exact Drawn0.refl _|apply Drawn0.step)⟩
  ·replace c7:=Bool.eq_false_iff.mpr c7
   subst c7
   have H1 : (if a0 < a1 then (some (-1)) else (if a0 > a1 then (some 1) else (some 0))) = some r:=by rw [if_neg (show ¬ (false = true) by decide)] at H;exact H
   clear H
   have H:=H1
   clear H1
   by_cases c8 : a0 < a1
   ·rw [if_pos c8] at H
    have c8b0 : decide (a0 < a1) = true:=decide_eq_true c8
    clear c8
    obtain rfl:=Option.some.inj H
    go_enter Try.func63,Try.ntmps63
    go_wp2_with (first|((with_reducible refine b8z (f:=77) rfl ?_);refine d2z (some 8) rfl rfl Try.func77 (by kernel_rfl) rfl #[.int .i64 a0] rfl (by (try simp only [List.map_toArray,List.map_cons,List.map_nil]);first|done|rfl|(simp only [List.length_drop,List.length_take];rfl)) ?_;(with_reducible refine (cmp_isNaN_int.calls a0 false _ A3.1).mono ?_);rintro e w' ⟨rfl,⟨nd,rfl⟩⟩;refine ⟨_,rfl,?_⟩)|((with_reducible refine b8z (f:=77) rfl ?_);refine d2z (some 10) rfl rfl Try.func77 (by kernel_rfl) rfl #[.int .i64 a1] rfl (by (try simp only [List.map_toArray,List.map_cons,List.map_nil]);first|done|rfl|(simp only [List.length_drop,List.length_take];rfl)) ?_;(with_reducible refine (cmp_isNaN_int.calls a1 false _ A4.1).mono ?_);rintro e w' ⟨rfl,⟨nd,rfl⟩⟩;refine ⟨_,rfl,?_⟩))
    go_ret
    exact ⟨by first|rfl|(simp;done)|(simp [*];done),by repeat (first|exact Drawn0.refl _|apply Drawn0.step)⟩
   ·rw [if_neg c8] at H
    have c8b0 : decide (a0 < a1) = false:=decide_eq_false c8
    clear c8
    by_cases c9 : a0 > a1
    ·rw [if_pos c9] at H
     have c9b0 : decide (a1 < a0) = true:=decide_eq_true c9
     clear c9
     obtain rfl:=Option.some.inj H
     go_enter Try.func63,Try.ntmps63
     go_wp2_with (first|((with_reducible refine b8z (f:=77) rfl ?_);refine d2z (some 8) rfl rfl Try.func77 (by kernel_rfl) rfl #[.int .i64 a0] rfl (by (try simp only [List.map_toArray,List.map_cons,List.map_nil]);first|done|rfl|(simp only [List.length_drop,List.length_take];rfl)) ?_;(with_reducible refine (cmp_isNaN_int.calls a0 false _ A3.1).mono ?_);rintro e w' ⟨rfl,⟨nd,rfl⟩⟩;refine ⟨_,rfl,?_⟩)|((with_reducible refine b8z (f:=77) rfl ?_);refine d2z (some 10) rfl rfl Try.func77 (by kernel_rfl) rfl #[.int .i64 a1] rfl (by (try simp only [List.map_toArray,List.map_cons,List.map_nil]);first|done|rfl|(simp only [List.length_drop,List.length_take];rfl)) ?_;(with_reducible refine (cmp_isNaN_int.calls a1 false _ A4.1).mono ?_);rintro e w' ⟨rfl,⟨nd,rfl⟩⟩;refine ⟨_,rfl,?_⟩))
     go_ret
     exact ⟨by first|rfl|(simp;done)|(simp [*];done),by repeat (first|exact Drawn0.refl _|apply Drawn0.step)⟩
    ·rw [if_neg c9] at H
     have c9b0 : decide (a1 < a0) = false:=decide_eq_false c9
     clear c9
     obtain rfl:=Option.some.inj H
     go_enter Try.func63,Try.ntmps63
     go_wp2_with (first|((with_reducible refine b8z (f:=77) rfl ?_);refine d2z (some 8) rfl rfl Try.func77 (by kernel_rfl) rfl #[.int .i64 a0] rfl (by (try simp only [List.map_toArray,List.map_cons,List.map_nil]);first|done|rfl|(simp only [List.length_drop,List.length_take];rfl)) ?_;(with_reducible refine (cmp_isNaN_int.calls a0 false _ A3.1).mono ?_);rintro e w' ⟨rfl,⟨nd,rfl⟩⟩;refine ⟨_,rfl,?_⟩)|((with_reducible refine b8z (f:=77) rfl ?_);refine d2z (some 10) rfl rfl Try.func77 (by kernel_rfl) rfl #[.int .i64 a1] rfl (by (try simp only [List.map_toArray,List.map_cons,List.map_nil]);first|done|rfl|(simp only [List.length_drop,List.length_take];rfl)) ?_;(with_reducible refine (cmp_isNaN_int.calls a1 false _ A4.1).mono ?_);rintro e w' ⟨rfl,⟨nd,rfl⟩⟩;refine ⟨_,rfl,?_⟩))
     go_ret
     exact ⟨by first|rfl|(simp;done)|(simp [*];done),by repeat (first|exact Drawn0.refl _|apply Drawn0.step)⟩
end Go.Proofs.Ytmdhedkgpgoneaa.Q

namespace Go.Proofs.Ytmdhedkgpgoneaa.Un
open Go.RowKit Go.Shelf Go.Sort Go.Proofs.Ytmdhedkgpgoneaa.Q Go.Proofs.YtmdhedkgpgoneaaW.PrintWords
instance spInh : Inhabited Sp:=⟨z55⟩
/-- The order of spans: by the first end. -/
def cmpSp (x y : Sp) : Int:=if x.f0 < y.f0 then -1 else if x.f0 > y.f0 then 1 else 0
theorem ltSp (x y : Sp) : ltOf cmpSp x y = decide (x.f0 < y.f0):=by
 unfold ltOf cmpSp
 by_cases h1 : x.f0 < y.f0
 ·simp [h1]
 ·by_cases h2 : y.f0 < x.f0 <;> simp [h1,h2]
theorem swoSp : SWO (ltOf cmpSp) where
 irrefl x:=by rw [ltSp];simp
 trans x y z h1 h2:=by rw [ltSp] at *;simp at *;omega
 ntrans x y z h1 h2:=by rw [ltSp] at *;simp at *;omega
/-- The spans sorted, as the library sorts them. -/
def sortSp (xs : List Sp) : List Sp:=(pdq (ltOf cmpSp) xs.toArray 0 xs.toArray.size (Lib.bitLen xs.toArray.size) true true).toList
theorem sortSp_raw (xs : List Sp) : (PermIn 0 xs.toArray.size xs.toArray (sortSp xs).toArray) ∧ SortedIn (ltOf cmpSp) 0 xs.toArray.size (sortSp xs).toArray:=by
 have h:=pdq_sorts (ltOf cmpSp) swoSp xs.toArray 0 xs.toArray.size (Lib.bitLen xs.toArray.size) true true (Nat.zero_le _) (Nat.le_refl _) (Or.inl rfl)
 exact ⟨by simpa [sortSp] using h.1,by simpa [sortSp] using h.2⟩
theorem h7z (xs : List Sp) : (sortSp xs).length = xs.length:=by
 have h:=(sortSp_raw xs).1.1
 simpa using h
theorem encs_get : ∀ (xs : List Sp) (t : Nat),t < xs.length * 2 → (Sy.encs xs)[t]? = some ((Sy.enc (xs.toArray[t / 2]!))[t % 2]!)
 | [],t,h => by simp at h
 | x :: xs,0,h => by rw [Sy.encs_cons];rfl
 | x :: xs,1,h => by rw [Sy.encs_cons];rfl
 | x :: xs,t + 2,h => by
  rw [Sy.encs_cons]
  have ih:=encs_get xs t (by simp at h;omega)
  show (Sy.encs xs)[t]? = _
  rw [ih,show (t + 2) / 2 = t / 2 + 1 by omega,show (t + 2) % 2 = t % 2 by omega]
  simp
theorem flat_eq (xs : List Sp) : (flatK Sy.enc 2 xs.toArray).toList = Sy.encs xs:=by
 apply List.ext_getElem?
 intro t
 by_cases h : t < xs.length * 2
 ·rw [encs_get xs t h,Array.getElem?_toList,Array.getElem?_eq_getElem (by simpa using h)]
  have:=get_flatK Sy.enc 2 xs.toArray t (by simpa using h)
  rw [← this,getElem!_pos _ t (by simpa using h)]
 ·rw [List.getElem?_eq_none (by simp;omega),List.getElem?_eq_none (by rw [Sy.encs_length];omega)]
theorem holds_row {W : World} {g : Nat} {cur : Array Value} {e : TypeId} {xs : List Sp} (hb : W.heap[g]? = some (.cells cur e (0,0))) (ht : cur.toList.take (xs.length * 2) = Sy.encs xs) : HoldsK Sy.enc 2 W g 0 xs.toArray:=by
 intro j hj
 have hj' : j < xs.length * 2:=by simpa using hj
 refine ⟨?_,by simp [World.frozen?,hb]⟩
 have h1 : (cur.toList.take (xs.length * 2))[j]? = (Sy.encs xs)[j]?:=by rw [ht]
 rw [List.getElem?_take_of_lt hj',encs_get xs j hj',← get_flatK Sy.enc 2 xs.toArray j (by simpa using hj')] at h1
 simp only [World.cell?,hb,Nat.zero_add]
 simp only [Option.isSome_none,Bool.false_eq_true,if_false]
 rw [← Array.getElem?_toList,h1]
 rfl
theorem heap_sort {w : World} {g n : Nat} {os : Array Obj} {cur : Array Value} {e : TypeId} {fr : Nat × Nat} (d : Array Sp) (hb : w.heap[g]? = some (.cells cur e fr)) :
  (sortWorldK Sy.enc 2 w g 0 n d os).heap[g]? = some (.cells (putCells id 0 (flatK Sy.enc 2 d) cur) e fr):=by
 have hg : g < w.heap.size:=(Array.getElem?_eq_some_iff.1 hb).1
 unfold sortWorldK
 rw [heap_grow_old _ _ (by simpa [putRowK,putRow,mapBlock] using hg)]
 simp [putRowK,putRow,mapBlock,Sort.ahead,Array.getElem?_modify,hb,onCells]
theorem grown_sort {w : World} {g n : Nat} {os : Array Obj} (d : Array Sp) : w.grownBy (sortWorldK Sy.enc 2 w g 0 n d os) (some g):=by
 refine ⟨rfl,rfl,rfl,by simp [sortWorldK,putRowK,putRow,mapBlock],fun k hk hne => ?_⟩
 unfold sortWorldK
 rw [heap_grow_old _ _ (by simpa [putRowK,putRow,mapBlock] using hk)]
 have : g ≠ k:=fun e => hne (by rw [e])
 simp [putRowK,putRow,mapBlock,Sort.ahead,Array.getElem?_modify,this]
theorem take_put (cur : Array Value) (F : Array Value) (h : F.size ≤ cur.size) : (putCells id 0 F cur).toList.take F.size = F.toList:=by
 apply List.ext_getElem?
 intro j
 by_cases hj : j < F.size
 ·rw [List.getElem?_take_of_lt hj,Array.getElem?_toList]
  simp [putCells,hj,show j < cur.size by omega]
 ·rw [List.getElem?_take_eq_none (by omega),List.getElem?_eq_none (by simp;omega)]
set_option maxHeartbeats 1000000 in
/-- The order's function value. -/
theorem closure62 (x y : Sp) (W : World) : Calls Try.prog 62 #[.agg #[.int .i64 x.f0,.int .i64 x.f1],.agg #[.int .i64 y.f0,.int .i64 y.f1]] W fun e w' => e = .returned (.int .i64 (cmpSp x y)) ∧ ∃ q os',w' = grow (W.drewN q) os':=by
 have hf : cmp_Compare_int.f x.f0 y.f0 = some (cmpSp x y):=by
  unfold cmp_Compare_int.f cmp_isNaN_int.f cmpSp
  simp only [bne_self_eq_false,Option.bind_some,Bool.false_eq_true,if_false]
  split
  ·rfl
  ·split <;> rfl
 have hcon:=fun W' => cmp_Compare_int.calls x.f0 y.f0 _ W' hf
 generalize cmpSp x y = r at hcon ⊢
 clear hf
 go_enter Try.func62,Try.ntmps62
 go_wp2_with (go_at_call 63;refine (hcon _).mono ?_;rintro e w' ⟨rfl,⟨q,rfl⟩⟩)
 go_ret
 exact ⟨rfl,q,_,by rw [alloc_eq_grow,alloc_eq_grow,grow_grow];rfl⟩
theorem cmpLays62 (blk off size : Nat) (w : World) : CmpLays Try.prog 62 #[] Sy.enc 2 cmpSp blk off size w :=
 fun _ _ _ _ x y => closure62 x y _
/-- slices.SortFunc at an own row of spans. -/
theorem sort_calls {W : World} {base : Nat} {v : Value} {xs : List Sp} (hxs : xs.length < 4611686018427387904) (ho : W.ownsRow base 55 2 v xs.length (Sy.encs xs)) (hbase : base ≤ W.heap.size) :
  Calls Try.prog 75 #[v,.func (.func 62) #[] #[]] W fun e w' => e = .returned (.tuple #[]) ∧ w'.ownsRow base 55 2 v xs.length (Sy.encs (sortSp xs)) ∧ Below base W w':=by
 rcases ho.2 with ⟨rfl,h0⟩|⟨g,cap,cur,rfl,hb,hh,h1,h2,h3,h4⟩
 ·obtain rfl : xs = []:=List.length_eq_zero_iff.1 h0
  refine (AnyF.slices_SortFunc_none Try.sortSpan none 0 (.func (.func 62) #[] #[]) W).mono ?_
  rintro e w' ⟨rfl,rfl⟩
  have : sortSp [] = []:=List.length_eq_zero_iff.1 (h7z [])
  rw [this]
  exact ⟨rfl,ho,Below.refl _ _⟩
 ·have eg : ∀ args w,(callFunc 62 args).run Try.prog w = .ok (.enter 62 args) w:=enters_of Try.func62 (by kernel_rfl) rfl
  have hg : g < W.heap.size:=(Array.getElem?_eq_some_iff.1 hh).1
  have hcon:=AnyQ.slices_SortFunc_eq Try.sortSpan 2 Try.isAgg55 Try.sizeOf55 Sy.enc (fun _ => rfl) (fun x v hv => by simp [Sy.enc] at hv;rcases hv with rfl|rfl <;> rfl) cmpSp swoSp 62 #[] g 0 cap xs.toArray W eg (cmpLays62 g 0 xs.toArray.size W) (holds_row hh h4) hg (by simpa using hxs)
  refine Calls.mono (P:=Try.prog) (f:=75) hcon ?_
  rintro e w' ⟨rfl,n,os,rfl⟩
  have hl:=h7z xs
  refine ⟨rfl,?_,(Below.refl base W).grown (grown_sort _) hbase (fun k e => by cases e;exact hb)⟩
  have e1 : pdq (ltOf cmpSp) xs.toArray 0 xs.toArray.size (Lib.bitLen xs.toArray.size) true true = (sortSp xs).toArray:=by simp [sortSp]
  rw [e1]
  refine ⟨by rw [Sy.encs_length,hl],.inr ⟨g,cap,_,rfl,hb,heap_sort _ hh,h1,h2,by simp [putCells,h3],?_⟩⟩
  have h5:=take_put cur (flatK Sy.enc 2 (sortSp xs).toArray) (by rw [size_flatK,List.size_toArray,hl];omega)
  rw [size_flatK,List.size_toArray,hl,flat_eq] at h5
  exact h5
/-- slices.Values at spans. -/
theorem values_calls (a : Option Addr) (len cap : Nat) (w : World) :
  Calls Try.prog 61 #[.slice a len cap] w fun e w' => e = .returned (.func (.func 76) #[] #[.pointer (some ⟨w.heap.size,0,none⟩)]) ∧ w' = w.alloc (.cells #[.slice a len cap] 48):=by
 go_enter Try.func61,Try.ntmps61
 go_wp2
 go_ret
 exact ⟨rfl,rfl⟩
/-- slices.Collect over spans. -/
theorem collect_calls (Bs cap : Nat) (a : Option Addr) (zs : List Sp) (hlen : zs.length ≤ 1000000000000) (w : World) (hBs : Bs < w.heap.size)
  (hc : w.cell? ⟨Bs,0,none⟩ = some (.slice a zs.length cap)) (hI : Holds2 w.heap.size w a zs) :
  Calls Try.prog 74 #[.func (.func 76) #[] #[.pointer (some ⟨Bs,0,none⟩)]] w fun e w' => ∃ v,e = .returned v ∧ w'.ownsRow w.heap.size 55 2 v zs.length (Sy.encs zs) ∧ Below w.heap.size w w':=by
 have hcon:=callsIn_wide.1 (appendSeq_in Fence.wide 3 trivial trivial rfl (Nat.le_refl _) Bs cap a zs hlen w hBs hc hI)
 clear hc hI
 go_enter Try.func74,Try.ntmps74
 go_wp2_with (go_at_call 80;refine hcon.mono ?_;rintro e w' ⟨v,rfl,ho,hb⟩)
 go_ret
 exact ⟨v,rfl,ho,hb⟩
theorem spot_of_cell {W : World} {ad : Addr} {u : Value} (h : W.cell? (ad.add 0) = some u) : ad.spot = none:=by
 unfold Addr.add World.cell? at h
 rw [if_pos rfl] at h
 split at h
 ·cases hs : ad.spot with
  | none => rfl
  | some x => rw [hs] at h;simp at h
 ·cases h
set_option maxHeartbeats 1000000 in
/-- slices.SortedFunc over slices.Values: the sorted spans, in a new row. -/
theorem sorted_calls (W : World) (a : Option Addr) (cap : Nat) (zs : List Sp) (hlen : zs.length ≤ 1000000000000) (hz : Kd.C k55 W a zs.length zs) :
  Calls Try.prog 60 #[.func (.func 76) #[] #[.pointer (some ⟨W.heap.size,0,none⟩)],.func (.func 62) #[] #[]] (W.alloc (.cells #[.slice a zs.length cap] 48)) fun e w' =>
   ∃ v,e = .returned v ∧ Kd.R k55 55 w' W.heap.size (fun _ => True) v (sortSp zs) ∧ Below W.heap.size W w':=by
 have hB0 : Below W.heap.size W (W.alloc (.cells #[.slice a zs.length cap] 48)):=(Below.refl _ W).alloc (Nat.le_refl _) _
 have hI : Holds2 (W.heap.size + 1) (W.alloc (.cells #[.slice a zs.length cap] 48)) a zs:=by
  rcases Nat.eq_zero_or_pos zs.length with h0|h0
  ·exact .inl (List.length_eq_zero_iff.1 h0)
  ·have hB1 : Below W.heap.size W (W.alloc (.cells #[.slice a zs.length cap] 48)):=hB0
   obtain ⟨ad,rfl,hc0,_⟩:=i8z hz 0 (Int.le_refl 0) (by omega)
   have hn : ad.spot = none:=spot_of_cell hc0
   obtain ⟨b,off,sp⟩:=ad
   obtain rfl : sp = none:=hn
   have hlt : b < W.heap.size:=World.block_lt_of_cell? W ⟨b,off,none⟩ hc0
   refine .inr ⟨b,off,rfl,by omega,fun j hj => ?_⟩
   obtain ⟨ad,e,c0,c1⟩:=i8z hz j (by omega) (by omega)
   obtain rfl : (⟨b,off,none⟩ : Addr) = ad:=Option.some.inj e
   simp only [Addr.add_lit,Int.toNat_natCast] at c0 c1
   exact ⟨(hB1.cell (p:=⟨b,off + j * 2,none⟩) hlt).trans c0,(hB1.cell (p:=⟨b,off + j * 2 + 1,none⟩) hlt).trans c1⟩
 have hsz : (W.alloc (.cells #[.slice a zs.length cap] 48)).heap.size = W.heap.size + 1:=by simp
 have hcell : (W.alloc (.cells #[.slice a zs.length cap] 48)).cell? ⟨W.heap.size,0,none⟩ = some (.slice a zs.length cap):=(b2z (World.alloc_heap_new W _) 0).trans rfl
 generalize W.alloc (.cells #[.slice a zs.length cap] 48) = W0 at *
 have hcon : Calls Try.prog 74 #[.func (.func 76) #[] #[.pointer (some ⟨W.heap.size,0,none⟩)]] W0 fun e w' => ∃ v,e = .returned v ∧ w'.ownsRow W.heap.size 55 2 v zs.length (Sy.encs zs) ∧ Below W.heap.size W w' :=
  (collect_calls W.heap.size cap a zs hlen W0 (by omega) hcell (by rw [hsz];exact hI)).mono fun e w' ⟨v,he,ho,hb⟩ => ⟨v,he,⟨ho.1,ho.2.imp id fun ⟨g,c,cur,e,hb,r⟩ => ⟨g,c,cur,e,by omega,r⟩⟩,hB0.trans (hb.mono (by omega))⟩
 have hsort:=fun (W1 : World) (v : Value) (ho : W1.ownsRow W.heap.size 55 2 v zs.length (Sy.encs zs)) (hs : W.heap.size ≤ W1.heap.size) => sort_calls (by omega) ho hs
 clear hI hcell
 go_enter Try.func60,Try.ntmps60
 go_wp2_with (first
  | (go_at_call 74;refine hcon.mono ?_;rintro e w1 ⟨v,rfl,ho1,hb1⟩)
  | (go_at_call 75;refine (hsort _ _ ho1 hb1.size).mono ?_;rintro e w2 ⟨rfl,ho2,hb2⟩))
 go_ret
 exact ⟨v,rfl,Sy.R_of (fun _ _ => trivial) (by rw [h7z];exact ho2),hb1.trans hb2⟩
end Go.Proofs.Ytmdhedkgpgoneaa.Un

namespace Go.Proofs.Ytmdhedkgpgoneaa.Q
open Go.RowKit Go.Proofs.YtmdhedkgpgoneaaW.PrintWords Go.Proofs.YtmdhedkgpgoneaaW.PrintLast Go.Proofs.YtmdhedkgpgoneaaW.PrintMore
attribute [local go_sem] e4z e2z e7z e6z d8z d7z e3z e1z
set_option linter.unusedVariables false
set_option linter.unusedSimpArgs false
/-- The spans of a list, sorted by their first end, in a new row. (The call stands behind slices.Values, which lays the list's slice in a cell: Un.values_calls.) -/
def slices_SortedFunc_span.f (l0 : List S55) (_u : Unit) : Option (List S55):=if l0.length < 1000000000000 then some (Un.sortSp l0) else none
theorem slices_SortedFunc_span.calls (A0 : Option Addr) (c0 : Nat) (l0 : List S55) (r : List S55) (w : World) (hr0 : Kd.C k55 w A0 l0.length l0) (hc0 : l0.length ≤ c0) (h : slices_SortedFunc_span.f l0 () = some r) :
  Calls Try.prog 60 #[.func (.func 76) #[] #[.pointer (some ⟨w.heap.size,0,none⟩)],.func (.func 62) #[] #[]] (w.alloc (.cells #[.slice A0 l0.length c0] 48)) fun e w' => ∃ v0_ : Value,e = .returned (v0_) ∧ Kd.R k55 55 w' w.heap.size (fun _ => True) v0_ r ∧ Below w.heap.size w w':=by
 unfold slices_SortedFunc_span.f at h
 by_cases hl : l0.length < 1000000000000
 ·rw [if_pos hl] at h
  obtain rfl:=Option.some.inj h
  exact Un.sorted_calls w A0 c0 l0 (Nat.le_of_lt hl) hr0
 ·rw [if_neg hl] at h
  exact absurd h (by simp)
end Go.Proofs.Ytmdhedkgpgoneaa.Q

namespace Go.Proofs.Ytmdhedkgpgoneaa.Q
open Go.RowKit Go.Proofs.YtmdhedkgpgoneaaW.PrintWords Go.Proofs.YtmdhedkgpgoneaaW.PrintLast Go.Proofs.YtmdhedkgpgoneaaW.PrintMore
attribute [local go_sem] e4z e2z e7z e6z d8z d7z e3z e1z
set_option linter.unusedVariables false
set_option linter.unusedSimpArgs false
def impl_union.l0 : Nat → List (S55) → List (S55) → Int → Int → Option ((List (S55)))
 | 0,_,_,_,_ => none
 | k + 1,x4,x11,x12,x13 => if x13 < x12 then (if 0 ≤ x13 then (if x13 < (x11.length : Int) then (if (x4.length : Int) > 0 then (if 0 ≤ (wrap64 ((x4.length : Int) - 1)) then (if (wrap64 ((x4.length : Int) - 1)) < (x4.length : Int) then (if ((b0z x11 x13).f0) ≤ (wrap64 (((b0z x4 (wrap64 ((x4.length : Int) - 1))).f1) + 1)) then (impl_union.l0 k (x4.set ((wrap64 ((x4.length : Int) - 1)) : Int).toNat (⟨(b0z x4 (wrap64 ((x4.length : Int) - 1))).f0,mx ((b0z x4 (wrap64 ((x4.length : Int) - 1))).f1) ((b0z x11 x13).f1)⟩ : S55)) x11 x12 (wrap64 (x13 + 1))) else (if x4.length < 8796093022208 then (impl_union.l0 k (x4 ++ [(⟨(b0z x11 x13).f0,(b0z x11 x13).f1⟩ : S55)]) x11 x12 (wrap64 (x13 + 1))) else (none))) else (none)) else (none)) else (if x4.length < 8796093022208 then (impl_union.l0 k (x4 ++ [(⟨(b0z x11 x13).f0,(b0z x11 x13).f1⟩ : S55)]) x11 x12 (wrap64 (x13 + 1))) else (none))) else (none)) else (none)) else (some x4)
def impl_union.f (k : Nat) (l0 : List (S55)) : Option ((List (S55))):=(slices_SortedFunc_span.f l0 ()).bind fun t101 => (impl_union.l0 k ([] : List (S55)) t101 (t101.length : Int) 0)
def impl_union.T7 : Bool × List (List Nat × List Nat):=(true,[([],[]),([0],[0]),([1],[1]),([2],[2]),([3,2],[2,3]),([2],[2]),([2],[2]),([6,2],[2,6]),([5,7,2],[2,5,7]),([8,2],[2,8]),([9,2],[2,9]),([10,2],[2,10]),([4,11,2],[2,4,11]),([2,12],[2,12])])
def impl_union.B7 : List Nat:=[0,1,3,7,15,7,7,71,231,487,999,2023,4095,8191]
theorem impl_union.tab7 : rtab .any (opsOf Try.f48 7) = impl_union.T7:=by kernel_rfl
theorem impl_union.bits7 : waitsOk impl_union.T7.2 impl_union.B7 = true:=by kernel_rfl
def impl_union.T8 : Bool × List (List Nat × List Nat):=(true,[([],[]),([],[]),([1],[1]),([],[]),([],[]),([4],[4]),([3,5],[3,5]),([6],[6]),([7],[7]),([],[]),([9],[9]),([8,10],[8,10]),([0,2,0,1,2,3,4,5,6,7,8,9,10,11],[0,2]),([12,0,1,2,3,4,5,6,7,8,9,10,11],[12]),([13,11,0,1,2,3,4,5,6,7,8,9,10,11],[11,13])])
def impl_union.B8 : List Nat:=[0,0,2,0,0,16,56,120,248,0,512,2040,4095,8191,16383]
theorem impl_union.tab8 : rtab .any (opsOf Try.f48 8) = impl_union.T8:=by kernel_rfl
theorem impl_union.bits8 : waitsOk impl_union.T8.2 impl_union.B8 = true:=by kernel_rfl
set_option maxHeartbeats 8000000 in
set_option maxRecDepth 100000 in
theorem impl_union.calls (k : Nat) (A0 : Option Addr) (c0 : Nat) (l0 : List (S55)) (r : List (S55)) (w : World) (hr0 : Kd.C k55 w A0 l0.length l0) (hc0 : l0.length ≤ c0) (h : impl_union.f k l0 = some r) :
  Calls Try.prog 48 #[.slice A0 l0.length c0] w fun e w' => ∃ v0_ : Value,e = .returned (v0_) ∧ Kd.R k55 55 w' w.heap.size (fun _ => True) v0_ r ∧ Below w.heap.size w w':=by
 have hu55:=Try.underlying55
 have HR0:=a0z.mk hr0
 have HC0:=a0z.mk hc0
 clear hr0 hc0
 have HB:=a0z.mk (Below.refl w.heap.size w)
 have H : ((slices_SortedFunc_span.f l0 ()).bind fun t101 => (impl_union.l0 k ([] : List (S55)) t101 (t101.length : Int) 0)) = some r:=h
 clear h
 replace H:=Option.bind_eq_some_iff.mp H
 obtain ⟨t101,A20,H⟩:=H
 replace H : (impl_union.l0 k ([] : List (S55)) t101 (t101.length : Int) 0) = some r:=H
 have A2:=a0z.mk A20
 clear A20
 have H':=a0z.mk H
 clear H
 go_enter Try.func48,Try.ntmps48
 go_wp2_with (first|(go_at_call 61;refine (Un.values_calls _ _ _ _).mono ?_;rintro e w1 ⟨rfl,rfl⟩)|((with_reducible refine b8z (f:=60) rfl ?_);refine d2z (some 10) rfl rfl Try.func60 (by kernel_rfl) rfl #[.func (.func 76) #[] #[.pointer (some ⟨w.heap.size,0,none⟩)],.func (.func 62) #[] #[]] rfl (by (try simp only [List.map_toArray,List.map_cons,List.map_nil]);first|done|rfl|(simp only [List.length_drop,List.length_take];rfl)) ?_;(with_reducible refine (slices_SortedFunc_span.calls _ _ l0  t101 _ ?side1 ?side2 A2.1).mono ?_);(case side1 => repeat (first|exact HR0.1|(with_reducible refine Kd.C_alloc ?_ _)|(with_reducible refine Kd.C_drewN ?_ _)|(with_reducible refine Kd.C_drew ?_)));(case side2 => exact HC0.1);rintro e w3 ⟨v102,rfl,ho0,hb⟩;refine ⟨_,rfl,?_⟩;have n0_:=a0z.mk (Kd.d5z ho0 (b1z (by repeat (first|(with_reducible first|exact HB.1|apply a3z|apply a1z|apply a2z)|exact HB.1))));have n1_:=a0z.mk (b3z (by repeat (first|(with_reducible first|exact HB.1|apply a3z|apply a1z|apply a2z)|exact HB.1)) hb);clear HB;have HO103:=n0_;have HB:=n1_;clear n0_ n1_;(try clear hb);(try clear hb2);(try clear hk);(try clear hi);(try clear ho0);obtain ⟨Ao4,co4,eo4⟩:=Kd.d3z HO103.1;subst eo4))
 go_loopg [4,13] k (fun kq v4 v13 w' => ∃ (x4_1 : List (S55)) (x11_1 : List (S55)) (x13_1 : Int),v13 = .int .i64 x13_1 ∧ a0z (impl_union.l0 kq x4_1 x11_1 (t101.length : Int) x13_1 = some r) ∧ a0z (kq ≤ k) ∧ a0z (Kd.R k55 55 w' w.heap.size (fun k_ => some k_ ≠ ((.slice Ao4 t101.length co4) : Value).ownBlock) v4 x4_1) ∧ a0z (Kd.R k55 55 w' w.heap.size (fun k_ => some k_ ≠ (v4 : Value).ownBlock) (.slice Ao4 t101.length co4) x11_1) ∧ a0z (Below w.heap.size w w'))
 case atStart => exact ⟨(([] : List (S55))),(t101),(0),(by first|rfl|(simp;done)|(simp [*];done)),H',⟨Nat.le_refl _⟩,⟨by first|exact Kd.R_nil _ _ _ _ _|exact Kd.N_nil _ _ _ _ _|exact Kd.V_nil _ _ _ _ _|exact Kd.Q_nil _ _ _ _ _|exact Kd.S_nil _ _ _ _ _⟩,⟨by (with_reducible repeat (first|apply Kd.R_alloc|apply Kd.a4z|apply Kd.a5z));exact Kd.b5z HO103.1 (fun _ hk => (by simp [Value.ownBlock]))⟩,⟨by repeat (first|(with_reducible first|exact HB.1|apply a3z|apply a1z|apply a2z)|exact HB.1)⟩⟩
 case round =>
  clear H'
  try clear p2
  try clear c4
  obtain ⟨x4_1,x11_1,x13_1,rfl,HA,HK1,HO_4,HO_11,HB⟩:=hrel
  have hl11_1:=(Kd.b4z HO_11.1).1
  rw [hl11_1] at HO_11
  (try simp only [hl11_1])
  (try simp only [hl11_1] at HO_4)
  cases gk with
  | zero => exact absurd HA.1 (by simp [impl_union.l0])
  | succ k1 =>
   have H:=HA.1
   clear HA
   simp only [impl_union.l0] at H
   by_cases c5 : x13_1 < (t101.length : Int)
   ·rw [if_pos c5] at H
    have c5b0 : decide (x13_1 < (t101.length : Int)) = true:=decide_eq_true c5
    (try (have c5b0r:=c5b0;simp only [hl11_1] at c5b0r))
    clear c5
    by_cases c6 : 0 ≤ x13_1
    ·rw [if_pos c6] at H
     have c6b0 : decide (0 ≤ x13_1) = true:=decide_eq_true c6
     clear c6
     by_cases c7 : x13_1 < (x11_1.length : Int)
     ·rw [if_pos c7] at H
      have c7b0 : decide (x13_1 < (x11_1.length : Int)) = true:=decide_eq_true c7
      (try (have c7b0r:=c7b0;simp only [hl11_1] at c7b0r))
      clear c7
      by_cases c8 : (x4_1.length : Int) > 0
      ·rw [if_pos c8] at H
       have c8b0 : decide (0 < (x4_1.length : Int)) = true:=decide_eq_true c8
       have c8b1 : decide (0 < x4_1.length) = true:=decide_eq_true (by omega)
       (try (have c8b0r:=c8b0;simp only [hl11_1] at c8b0r))
       (try (have c8b1r:=c8b1;simp only [hl11_1] at c8b1r))
       clear c8
       obtain ⟨ji9,hji9⟩ : ∃ j_ : Int,(wrap64 ((x4_1.length : Int) - 1)) = j_:=⟨_,rfl⟩
       replace H : (if 0 ≤ (ji9) then (if (ji9) < (x4_1.length : Int) then (if ((b0z x11_1 x13_1).f0) ≤ (wrap64 (((b0z x4_1 (ji9)).f1) + 1)) then (impl_union.l0 k1 (x4_1.set ((ji9) : Int).toNat (⟨(b0z x4_1 (ji9)).f0,mx ((b0z x4_1 (ji9)).f1) ((b0z x11_1 x13_1).f1)⟩ : S55)) x11_1 (t101.length : Int) (wrap64 (x13_1 + 1))) else (if x4_1.length < 8796093022208 then (impl_union.l0 k1 (x4_1 ++ [(⟨(b0z x11_1 x13_1).f0,(b0z x11_1 x13_1).f1⟩ : S55)]) x11_1 (t101.length : Int) (wrap64 (x13_1 + 1))) else (none))) else (none)) else (none)) = some r:=by first|(rw [hji9] at H;exact H)|(simp only [hji9] at H ⊢;exact H)
       have hji9w : (IntKind.i64.wrap ((x4_1.length : Int) - 1)) = ji9:=(i64_w _).trans hji9
       by_cases c10 : 0 ≤ (ji9)
       ·rw [if_pos c10] at H
        have c10b0 : decide (0 ≤ (ji9)) = true:=decide_eq_true c10
        clear c10
        by_cases c11 : (ji9) < (x4_1.length : Int)
        ·rw [if_pos c11] at H
         have c11b0 : decide ((ji9) < (x4_1.length : Int)) = true:=decide_eq_true c11
         (try (have c11b0r:=c11b0;simp only [hl11_1] at c11b0r))
         clear c11
         by_cases c12 : ((b0z x11_1 x13_1).f0) ≤ (wrap64 (((b0z x4_1 (ji9)).f1) + 1))
         ·rw [if_pos c12] at H
          have c12b0 : decide (((b0z x11_1 x13_1).f0) ≤ (wrap64 (((b0z x4_1 (ji9)).f1) + 1))) = true:=decide_eq_true c12
          clear c12
          obtain ⟨ji13,hji13⟩ : ∃ j_ : Int,(mx ((b0z x4_1 (ji9)).f1) ((b0z x11_1 x13_1).f1)) = j_:=⟨_,rfl⟩
          replace H : (impl_union.l0 k1 (x4_1.set ((ji9) : Int).toNat (⟨(b0z x4_1 (ji9)).f0,ji13⟩ : S55)) x11_1 (t101.length : Int) (wrap64 (x13_1 + 1))) = some r:=by first|(rw [hji13] at H;exact H)|(simp only [hji13] at H ⊢;exact H)
          have hji13_ : (if ((b0z x4_1 (ji9)).f1) < ((b0z x11_1 x13_1).f1) then ((b0z x11_1 x13_1).f1) else ((b0z x4_1 (ji9)).f1)) = ji13:=hji13
          obtain ⟨y108,hy108⟩ : ∃ y_ : List (S55),y_ = (x4_1.set ((ji9) : Int).toNat (⟨(b0z x4_1 (ji9)).f0,ji13⟩ : S55)):=⟨_,rfl⟩
          replace H : (impl_union.l0 k1 y108 x11_1 (t101.length : Int) (wrap64 (x13_1 + 1))) = some r:=by first|(rw [hy108];with_reducible exact H)|(have H2_:=(Option.bind_some _ _).symm.trans H;rw [hy108];with_reducible exact H2_)|(have H2_:=(Option.bind_some _ _).symm.trans H;with_reducible exact H2_)|with_reducible exact H|(rw [hy108];exact H)|exact H
          have Ny108:=a0z.mk hy108
          clear hy108
          have H':=a0z.mk H
          clear H
          have p104 : 0 ≤ (x13_1 : Int):=of_decide_eq_true (by first|(with_reducible assumption)|assumption)
          have q104 : x13_1 < (x11_1.length : Int):=of_decide_eq_true (by first|(with_reducible assumption)|assumption)
          obtain ⟨ad104,e104,hx104_0,hx104_1⟩:=i8z (Kd.b4z HO_11.1).2.2 x13_1 p104 q104
          cases e104
          replace p104:=eq_true p104
          replace q104:=eq_true q104
          try go_wp2_with (first|((with_reducible refine d4z (N:=6) rfl ?_);refine e0z ?hg (N:=6) ?hd (cs:=#[.int .i64 0,.int .i64 0]) (t:=55) ?hr ?_;(case hd => rfl);(case hg => rfl);(case hr => first|(go_simp;done)|(go_simp;rfl));intro gb105 hg w15 hbox hb;have n0_:=a0z.mk (Kd.c3z (Kd.f4z (by (with_reducible repeat (first|apply Kd.R_alloc|apply Kd.a4z|apply Kd.a5z));exact HO_4.1) gb105 (Nat.le_of_eq hg.symm)) hb);have n1_:=a0z.mk (Kd.c3z (Kd.f4z (by (with_reducible repeat (first|apply Kd.R_alloc|apply Kd.a4z|apply Kd.a5z));exact HO_11.1) gb105 (Nat.le_of_eq hg.symm)) hb);have n2_:=a0z.mk (b3z (by repeat (first|(with_reducible first|exact HB.1|apply a3z|apply a1z|apply a2z)|exact HB.1)) hb);have n3_:=a0z.mk (hbox);have n4_:=a0z.mk ((by rw [hg];exact (b1z (by repeat (first|(with_reducible first|exact HB.1|apply a3z|apply a1z|apply a2z)|exact HB.1))) : w.heap.size ≤ gb105));have n5_:=a0z.mk ((by rw [hg];exact (b1z (by repeat (first|(with_reducible first|exact HB.1|apply a3z|apply a1z|apply a2z)|exact HB.1))) : w.heap.size ≤ gb105));clear HO_4;clear HO_11;clear HB;have HO_4:=n0_;have HO_11:=n1_;have HB:=n2_;have BK105:=n3_;have GW105:=n4_;have GE105:=n5_;clear n0_ n1_ n2_ n3_ n4_ n5_;clear hb hbox hg;have hcz16_0 : w15.cell? ⟨gb105,0,none⟩ = some (.int .i64 0):=(b2z BK105.1 0).trans rfl;have hcz16_1 : w15.cell? ⟨gb105,1,none⟩ = some (.int .i64 0):=(b2z BK105.1 1).trans rfl;have hfz16_0:=b7z BK105.1 0;have hfz16_1:=b7z BK105.1 1;obtain ⟨Ao17,co17,eo17⟩:=Kd.d3z HO_4.1;subst eo17))
          have n0_ : a0z (Kd.R k55 55 ((w15.setCell ⟨gb105,0,none⟩ (.int .i64 ((b0z x11_1 x13_1).f0))).setCell ⟨gb105,1,none⟩ (.int .i64 ((b0z x11_1 x13_1).f1))) w.heap.size (fun k_ => some k_ ≠ (.slice (some ad104) x11_1.length co4 : Value).ownBlock ∧ k_ ≠ gb105) (.slice Ao17 x4_1.length co17) x4_1):=⟨by (with_reducible repeat (first|apply Kd.R_alloc|apply Kd.a4z|apply Kd.a5z));exact Kd.b5z (Kd.R_far (p:=⟨gb105,1,none⟩) (Kd.R_far (p:=⟨gb105,0,none⟩) (Kd.b5z HO_4.1 (fun k_ hk => (⟨hk,hk.2⟩ : _ ∧ k_ ≠ gb105))) (fun _ hk => hk.2) (.int .i64 ((b0z x11_1 x13_1).f0))) (fun _ hk => hk.2) (.int .i64 ((b0z x11_1 x13_1).f1))) (fun _ hk => ⟨hk.1.1,hk.1.2⟩)⟩
          have n1_ : a0z (Kd.R k55 55 ((w15.setCell ⟨gb105,0,none⟩ (.int .i64 ((b0z x11_1 x13_1).f0))).setCell ⟨gb105,1,none⟩ (.int .i64 ((b0z x11_1 x13_1).f1))) w.heap.size (fun k_ => some k_ ≠ (.slice Ao17 x4_1.length co17 : Value).ownBlock ∧ k_ ≠ gb105) (.slice (some ad104) x11_1.length co4) x11_1):=⟨by (with_reducible repeat (first|apply Kd.R_alloc|apply Kd.a4z|apply Kd.a5z));exact Kd.b5z (Kd.R_far (p:=⟨gb105,1,none⟩) (Kd.R_far (p:=⟨gb105,0,none⟩) (Kd.b5z HO_11.1 (fun k_ hk => (⟨hk,hk.2⟩ : _ ∧ k_ ≠ gb105))) (fun _ hk => hk.2) (.int .i64 ((b0z x11_1 x13_1).f0))) (fun _ hk => hk.2) (.int .i64 ((b0z x11_1 x13_1).f1))) (fun _ hk => ⟨hk.1.1,hk.1.2⟩)⟩
          have n2_ : a0z (((w15.setCell ⟨gb105,0,none⟩ (.int .i64 ((b0z x11_1 x13_1).f0))).setCell ⟨gb105,1,none⟩ (.int .i64 ((b0z x11_1 x13_1).f1))).heap[gb105]? = some (.cells #[.int .i64 ((b0z x11_1 x13_1).f0),.int .i64 ((b0z x11_1 x13_1).f1)] 55 (0,0))):=⟨by (with_reducible repeat (first|refine a8z ?_ _|refine a9z ?_|refine a7z ?_ _));refine d6z (cs:=#[.int .i64 ((b0z x11_1 x13_1).f0),.int .i64 0]) ?_ 1 _ rfl;(with_reducible repeat (first|refine a8z ?_ _|refine a9z ?_|refine a7z ?_ _));refine d6z (cs:=#[.int .i64 0,.int .i64 0]) ?_ 0 _ rfl;(with_reducible repeat (first|refine a8z ?_ _|refine a9z ?_|refine a7z ?_ _));exact BK105.1⟩
          have n3_ : a0z (Below w.heap.size w ((w15.setCell ⟨gb105,0,none⟩ (.int .i64 ((b0z x11_1 x13_1).f0))).setCell ⟨gb105,1,none⟩ (.int .i64 ((b0z x11_1 x13_1).f1)))):=⟨by repeat (first|(with_reducible first|exact HB.1|apply a3z|apply a1z|apply a2z|refine a6z ?_ GE105.1)|exact HB.1)⟩
          (try clear HO_4)
          (try clear HO_11)
          (try clear BK105)
          (try clear HB)
          generalize ((w15.setCell ⟨gb105,0,none⟩ (.int .i64 ((b0z x11_1 x13_1).f0))).setCell ⟨gb105,1,none⟩ (.int .i64 ((b0z x11_1 x13_1).f1))) = w18 at n0_ n1_ n2_ n3_ ⊢
          have HO_4:=n0_
          have HO_11:=n1_
          have BK105:=n2_
          have HB:=n3_
          clear n0_ n1_ n2_ n3_
          have n0_:=a0z.mk (Kd.a5z HO_4.1)
          have n1_:=a0z.mk (Kd.a5z HO_11.1)
          have n2_:=a0z.mk (a9z BK105.1)
          have n3_:=a0z.mk (a2z HB.1)
          clear HO_4
          clear HO_11
          clear BK105
          clear HB
          have HO_4:=n0_
          have HO_11:=n1_
          have BK105:=n2_
          have HB:=n3_
          clear n0_ n1_ n2_ n3_
          have p106 : 0 ≤ ((ji9) : Int):=of_decide_eq_true (by first|(with_reducible assumption)|assumption)
          have q106 : (ji9) < (x4_1.length : Int):=of_decide_eq_true (by first|(with_reducible assumption)|assumption)
          obtain ⟨ad106,e106,hx106_0,hx106_1⟩:=i8z (Kd.b4z HO_4.1).2.2 (ji9) p106 q106
          cases e106
          replace p106:=eq_true p106
          replace q106:=eq_true q106
          refine g9z (n:=14) (S:=fun w' => w'.cell? ⟨gb105,0,none⟩ = some (.int .i64 ((b0z x11_1 x13_1).f0)) ∧ w'.cell? ⟨gb105,1,none⟩ = some (.int .i64 ((b0z x11_1 x13_1).f1)) ∧ w'.cell? (ad106.add (((ji9)).toNat * 2)) = some (.int .i64 ((b0z x4_1 (ji9)).f0)) ∧ w'.cell? ⟨(ad106.add (((ji9)).toNat * 2)).block,(ad106.add (((ji9)).toNat * 2)).off + 1,none⟩ = some (.int .i64 ((b0z x4_1 (ji9)).f1))) (ds:=[]) #[false,false,false,false,false,false,false,false,false,false,false,false,false,false] (by kernel_rfl) rfl rfl ⟨(b2z BK105.1 0).trans rfl,(b2z BK105.1 1).trans rfl,hx106_0,hx106_1⟩ (fun hHeld => ?_);refine f8z impl_union.tab7 impl_union.bits7 (fun HT_ HW_ => ?_)
          generalize w18.drew = w19 at HO_4 HO_11 BK105 HB hx106_0 hx106_1 hHeld ⊢
          refine pure_ (i:=0) (N:=some 19) (v:=?_) (a':=?_) #[true,false,false,false,false,false,false,false,false,false,false,false,false,false] rfl rfl (c0z HT_.1 (by kernel_rfl)) (fun _ _ _ h => h) (Or.inl ⟨by rfl,?_⟩) ?_ ?_
          rotate_left
          ·intro w'
           go_simp
           with_reducible rfl
          rotate_left
          ·simp only [Act.put,sA_,sZ_,sS_,i64_w,i32_w]
           rfl
          refine pure_ (i:=1) (N:=some 20) (v:=?_) (a':=?_) #[true,true,false,false,false,false,false,false,false,false,false,false,false,false] rfl rfl (c0z HT_.1 (by kernel_rfl)) (fun _ _ _ h => h) (Or.inl ⟨by rfl,?_⟩) ?_ ?_
          rotate_left
          ·intro w'
           go_simp
           with_reducible rfl
          rotate_left
          ·simp only [Act.put,sA_,sZ_,sS_,i64_w,i32_w]
           rfl
          refine pure_ (i:=2) (N:=some 21) (v:=?_) (a':=?_) #[true,true,true,false,false,false,false,false,false,false,false,false,false,false] rfl rfl (c0z HT_.1 (by kernel_rfl)) (fun _ _ _ h => h) (Or.inl ⟨by rfl,?_⟩) ?_ ?_
          rotate_left
          ·intro w'
           go_simp
           with_reducible rfl
          rotate_left
          ·simp only [Act.put,sA_,sZ_,sS_,i64_w,i32_w]
           rfl
          refine pure_ (i:=3) (N:=some 22) (v:=?_) (a':=?_) #[true,true,true,true,false,false,false,false,false,false,false,false,false,false] rfl rfl (c0z HT_.1 (by kernel_rfl)) (fun _ _ _ h => h) (Or.inl ⟨by rfl,?_⟩) ?_ ?_
          rotate_left
          ·intro w'
           go_simp
           with_reducible rfl
          rotate_left
          ·simp only [Act.put,sA_,sZ_,sS_,i64_w,i32_w]
           rfl
          refine pure_ (i:=5) (N:=some 24) (v:=?_) (a':=?_) #[true,true,true,true,false,true,false,false,false,false,false,false,false,false] rfl rfl (c0z HT_.1 (by kernel_rfl)) (fun _ _ _ h => h) (Or.inl ⟨by rfl,?_⟩) ?_ ?_
          rotate_left
          ·intro w'
           go_simp
           with_reducible rfl
          rotate_left
          ·simp only [Act.put,sA_,sZ_,sS_,i64_w,i32_w]
           rfl
          refine pure_ (i:=6) (N:=some 25) (v:=?_) (a':=?_) #[true,true,true,true,false,true,true,false,false,false,false,false,false,false] rfl rfl (c0z HT_.1 (by kernel_rfl)) (fun _ _ _ h => h) (Or.inl ⟨by rfl,?_⟩) ?_ ?_
          rotate_left
          ·intro w'
           go_simp
           with_reducible rfl
          rotate_left
          ·simp only [Act.put,sA_,sZ_,sS_,i64_w,i32_w]
           rfl
          refine pure_ (i:=7) (N:=some 26) (v:=?_) (a':=?_) #[true,true,true,true,false,true,true,true,false,false,false,false,false,false] rfl rfl (c0z HT_.1 (by kernel_rfl)) (fun _ _ _ h => h) (Or.inl ⟨by rfl,?_⟩) ?_ ?_
          rotate_left
          ·intro w'
           go_simp
           with_reducible rfl
          rotate_left
          ·simp only [Act.put,sA_,sZ_,sS_,i64_w,i32_w]
           rfl
          refine pure_ (i:=8) (N:=some 27) (v:=?_) (a':=?_) #[true,true,true,true,false,true,true,true,true,false,false,false,false,false] rfl rfl (c0z HT_.1 (by kernel_rfl)) (fun _ _ _ h => h) (Or.inl ⟨by rfl,?_⟩) ?_ ?_
          rotate_left
          ·intro w'
           go_simp
           with_reducible rfl
          rotate_left
          ·simp only [Act.put,sA_,sZ_,sS_,i64_w,i32_w]
           rfl
          refine pure_ (i:=9) (N:=some 28) (v:=?_) (a':=?_) #[true,true,true,true,false,true,true,true,true,true,false,false,false,false] rfl rfl (c0z HT_.1 (by kernel_rfl)) (fun _ _ _ h => h) (Or.inl ⟨by rfl,?_⟩) ?_ ?_
          rotate_left
          ·intro w'
           go_simp
           with_reducible rfl
          rotate_left
          ·simp only [Act.put,sA_,sZ_,sS_,i64_w,i32_w]
           rfl
          refine take_ (i:=4) (N:=some 23) (v:=?_) (a':=?_) #[true,true,true,true,true,true,true,true,true,true,false,false,false,false] rfl rfl (f3z HT_.1 HW_.1 (by kernel_rfl)) (fun _ _ _ h => h) (Or.inl ⟨by rfl,?_⟩) hHeld ?_ ?_
          rotate_left
          ·rintro w' ⟨s0,s1,s2,s3⟩
           go_simp
           with_reducible rfl
          rotate_left
          ·simp only [Act.put,sA_,sZ_,sS_,i64_w,i32_w]
           rfl
          refine take_ (i:=10) (N:=some 29) (v:=?_) (a':=?_) #[true,true,true,true,true,true,true,true,true,true,true,false,false,false] rfl rfl (f3z HT_.1 HW_.1 (by kernel_rfl)) (fun _ _ _ h => h) (Or.inl ⟨by rfl,?_⟩) hHeld ?_ ?_
          rotate_left
          ·rintro w' ⟨s0,s1,s2,s3⟩
           go_simp
           with_reducible rfl
          rotate_left
          ·simp only [Act.put,sA_,sZ_,sS_,i64_w,i32_w]
           rfl
          refine pure_ (i:=11) (N:=some 30) (v:=?_) (a':=?_) #[true,true,true,true,true,true,true,true,true,true,true,true,false,false] rfl rfl (c0z HT_.1 (by kernel_rfl)) (fun _ _ _ h => h) (Or.inl ⟨by rfl,?_⟩) ?_ ?_
          rotate_left
          ·intro w'
           go_simp
           with_reducible rfl
          rotate_left
          ·simp only [Act.put,sA_,sZ_,sS_,i64_w,i32_w]
           rfl
          refine pure_ (i:=12) (N:=some 31) (v:=?_) (a':=?_) #[true,true,true,true,true,true,true,true,true,true,true,true,true,false] rfl rfl (c0z HT_.1 (by kernel_rfl)) (fun _ _ _ h => h) (Or.inl ⟨by rfl,?_⟩) ?_ ?_
          rotate_left
          ·intro w'
           go_simp
           with_reducible rfl
          rotate_left
          ·simp only [Act.put,sA_,sZ_,sS_,i64_w,i32_w]
           rfl
          refine pure_ (i:=13) (N:=some 32) (v:=?_) (a':=?_) #[true,true,true,true,true,true,true,true,true,true,true,true,true,true] rfl rfl (c0z HT_.1 (by kernel_rfl)) (fun _ _ _ h => h) (Or.inl ⟨by rfl,?_⟩) ?_ ?_
          rotate_left
          ·intro w'
           go_simp
           with_reducible rfl
          rotate_left
          ·simp only [Act.put,sA_,sZ_,sS_,i64_w,i32_w]
           rfl
          refine done_ (g5z HT_.1 (by kernel_rfl)) ?_
          try go_wp2
          have n0_:=a0z.mk (Kd.a5z HO_4.1)
          have n1_:=a0z.mk (Kd.a5z HO_11.1)
          have n2_:=a0z.mk (a9z BK105.1)
          have n3_:=a0z.mk (a2z HB.1)
          clear HO_4
          clear HO_11
          clear BK105
          clear HB
          have HO_4:=n0_
          have HO_11:=n1_
          have BK105:=n2_
          have HB:=n3_
          clear n0_ n1_ n2_ n3_
          have p107 : 0 ≤ ((ji9) : Int):=of_decide_eq_true (by first|(with_reducible assumption)|assumption)
          have q107 : (ji9) < (x4_1.length : Int):=of_decide_eq_true (by first|(with_reducible assumption)|assumption)
          obtain ⟨ad107,e107,hx107_0,hx107_1⟩:=i8z (Kd.b4z HO_4.1).2.2 (ji9) p107 q107
          obtain rfl : ad106 = ad107:=(by injection e107)
          replace p107:=eq_true p107
          replace q107:=eq_true q107
          have p14 : 0 ≤ ((ji9) : Int):=of_decide_eq_true (by first|(with_reducible assumption)|assumption)
          have q14 : ((ji9) : Int) < ((x4_1.length : Int) : Int):=of_decide_eq_true (by first|(with_reducible assumption)|assumption)
          obtain ⟨go14,co14,eo14,gb14,gl14,cl14,HG14⟩:=Kd.R_form HO_4.1 (by omega)
          (first|cases eo14|(injection eo14 with ea_ en_ ec_;(first|subst ea_|(injection ea_ with ea_;subst ea_));subst ec_;clear en_))
          have GB14:=a0z.mk gb14
          have GG14:=a0z.mk HG14
          clear gb14 gl14 HG14
          (first|simp only [add_plain] at hx106_0|skip)
          (first|simp only [add_plain] at hx106_1|skip)
          (first|simp only [add_plain] at hx107_0|skip)
          (first|simp only [add_plain] at hx107_1|skip)
          obtain ⟨ce14,hcl14,hM14,hcc14,hfr14⟩:=Kd.R_elem HO_4.1 z55 ((ji9) : Int) p14 q14
          obtain rfl:=k55_openM hM14
          have hx14_0 : World.cell? _ ⟨go14,((ji9) : Int).toNat * 2,none⟩ = some (.int .i64 ((b0z x4_1 (ji9)).f0)):=hcc14 0 _ rfl
          have hx14_1 : World.cell? _ ⟨go14,((ji9) : Int).toNat * 2 + 1,none⟩ = some (.int .i64 ((b0z x4_1 (ji9)).f1)):=hcc14 1 _ rfl
          have hf14_0 : World.frozen? _ ⟨go14,((ji9) : Int).toNat * 2,none⟩ = false:=hfr14 0
          have hf14_1 : World.frozen? _ ⟨go14,((ji9) : Int).toNat * 2 + 1,none⟩ = false:=hfr14 1
          clear hcl14 hcc14 hfr14 hM14
          replace p14:=eq_true p14
          replace q14:=eq_true q14
          obtain ⟨ce21,hcl21,hM21,hcc21,hfr21⟩:=Kd.R_elem HO_4.1 z55 ((ji9) : Int) (of_decide_eq_true (by first|(with_reducible assumption)|assumption)) (by have h_ : ((ji9) : Int) < ((x4_1.length : Int) : Int):=of_decide_eq_true (by first|(with_reducible assumption)|assumption);first|exact h_|(have e_:=(Kd.b4z HO_4.1).1;omega)|simpa using h_)
          obtain rfl:=k55_openM hM21
          have HP21:=(Kd.R_seg HO_4.1 ((ji9) : Int) (of_decide_eq_true (by first|(with_reducible assumption)|assumption)) (by have h_ : ((ji9) : Int) < ((x4_1.length : Int) : Int):=of_decide_eq_true (by first|(with_reducible assumption)|assumption);first|exact h_|(have e_:=(Kd.b4z HO_4.1).1;omega)|simpa using h_) (seg:=[.int .i64 ji13]) (j:=1) hcl21 hcc21 (show 2 ≤ 2 from by decide) (x':=(⟨(b0z x4_1 (ji9)).f0,ji13⟩ : S55)) (k55_mkM _ _ _ (⟨(b0z x4_1 (ji9)).f0,ji13⟩ : S55) ) (fun _ hk => hk)).1
          rw [← Ny108.1] at HP21
          have HQ21:=a0z.mk HP21
          clear hcl21 hcc21 hfr21 hM21 HP21
          refine g9z (n:=15) (S:=fun w' => w'.cell? ⟨gb105,0,none⟩ = some (.int .i64 ((b0z x11_1 x13_1).f0)) ∧ w'.cell? ⟨gb105,1,none⟩ = some (.int .i64 ((b0z x11_1 x13_1).f1)) ∧ w'.cell? ⟨go14,((ji9) : Int).toNat * 2,none⟩ = some (.int .i64 ((b0z x4_1 (ji9)).f0)) ∧ w'.cell? ⟨go14,((ji9) : Int).toNat * 2 + 1,none⟩ = some (.int .i64 ((b0z x4_1 (ji9)).f1))) (ds:=[14]) #[false,false,false,false,false,false,false,false,false,false,false,false,false,false,false] (by kernel_rfl) rfl rfl ⟨(b2z BK105.1 0).trans rfl,(b2z BK105.1 1).trans rfl,hx107_0,hx107_1⟩ (fun hHeld => ?_);refine f8z impl_union.tab8 impl_union.bits8 (fun HT_ HW_ => ?_)
          generalize w19.drew = w20 at HO_4 HO_11 BK105 HB GG14 HQ21 hf14_0 hf14_1 hx106_0 hx106_1 hx107_0 hx107_1 hx14_0 hx14_1 hHeld ⊢
          refine pure_ (i:=0) (N:=some 33) (v:=?_) (a':=?_) #[true,false,false,false,false,false,false,false,false,false,false,false,false,false,false] rfl rfl (c0z HT_.1 (by kernel_rfl)) (fun _ _ _ h => h) (Or.inl ⟨by rfl,?_⟩) ?_ ?_
          rotate_left
          ·intro w'
           go_simp
           with_reducible rfl
          rotate_left
          ·simp only [Act.put,sA_,sZ_,sS_,i64_w,i32_w]
           rfl
          refine pure_ (i:=1) (N:=some 34) (v:=?_) (a':=?_) #[true,true,false,false,false,false,false,false,false,false,false,false,false,false,false] rfl rfl (c0z HT_.1 (by kernel_rfl)) (fun _ _ _ h => h) (Or.inl ⟨by rfl,?_⟩) ?_ ?_
          rotate_left
          ·intro w'
           go_simp
           with_reducible rfl
          rotate_left
          ·simp only [Act.put,sA_,sZ_,sS_,i64_w,i32_w]
           rfl
          refine pure_ (i:=2) (N:=some 35) (v:=?_) (a':=?_) #[true,true,true,false,false,false,false,false,false,false,false,false,false,false,false] rfl rfl (c0z HT_.1 (by kernel_rfl)) (fun _ _ _ h => h) (Or.inl ⟨by rfl,?_⟩) ?_ ?_
          rotate_left
          ·intro w'
           go_simp
           with_reducible rfl
          rotate_left
          ·simp only [Act.put,sA_,sZ_,sS_,i64_w,i32_w]
           rfl
          refine pure_ (i:=3) (N:=some 36) (v:=?_) (a':=?_) #[true,true,true,true,false,false,false,false,false,false,false,false,false,false,false] rfl rfl (c0z HT_.1 (by kernel_rfl)) (fun _ _ _ h => h) (Or.inl ⟨by rfl,?_⟩) ?_ ?_
          rotate_left
          ·intro w'
           go_simp
           with_reducible rfl
          rotate_left
          ·simp only [Act.put,sA_,sZ_,sS_,i64_w,i32_w]
           rfl
          refine pure_ (i:=4) (N:=some 37) (v:=?_) (a':=?_) #[true,true,true,true,true,false,false,false,false,false,false,false,false,false,false] rfl rfl (c0z HT_.1 (by kernel_rfl)) (fun _ _ _ h => h) (Or.inl ⟨by rfl,?_⟩) ?_ ?_
          rotate_left
          ·intro w'
           go_simp
           with_reducible rfl
          rotate_left
          ·simp only [Act.put,sA_,sZ_,sS_,i64_w,i32_w]
           rfl
          refine pure_ (i:=5) (N:=some 38) (v:=?_) (a':=?_) #[true,true,true,true,true,true,false,false,false,false,false,false,false,false,false] rfl rfl (c0z HT_.1 (by kernel_rfl)) (fun _ _ _ h => h) (Or.inl ⟨by rfl,?_⟩) ?_ ?_
          rotate_left
          ·intro w'
           go_simp
           with_reducible rfl
          rotate_left
          ·simp only [Act.put,sA_,sZ_,sS_,i64_w,i32_w]
           rfl
          refine pure_ (i:=6) (N:=some 39) (v:=?_) (a':=?_) #[true,true,true,true,true,true,true,false,false,false,false,false,false,false,false] rfl rfl (c0z HT_.1 (by kernel_rfl)) (fun _ _ _ h => h) (Or.inl ⟨by rfl,?_⟩) ?_ ?_
          rotate_left
          ·intro w'
           go_simp
           with_reducible rfl
          rotate_left
          ·simp only [Act.put,sA_,sZ_,sS_,i64_w,i32_w]
           rfl
          refine pure_ (i:=7) (N:=some 40) (v:=?_) (a':=?_) #[true,true,true,true,true,true,true,true,false,false,false,false,false,false,false] rfl rfl (c0z HT_.1 (by kernel_rfl)) (fun _ _ _ h => h) (Or.inl ⟨by rfl,?_⟩) ?_ ?_
          rotate_left
          ·intro w'
           go_simp
           with_reducible rfl
          rotate_left
          ·simp only [Act.put,sA_,sZ_,sS_,i64_w,i32_w]
           rfl
          refine pure_ (i:=9) (N:=some 42) (v:=?_) (a':=?_) #[true,true,true,true,true,true,true,true,false,true,false,false,false,false,false] rfl rfl (c0z HT_.1 (by kernel_rfl)) (fun _ _ _ h => h) (Or.inl ⟨by rfl,?_⟩) ?_ ?_
          rotate_left
          ·intro w'
           go_simp
           with_reducible rfl
          rotate_left
          ·simp only [Act.put,sA_,sZ_,sS_,i64_w,i32_w]
           rfl
          refine take_ (i:=8) (N:=some 41) (v:=?_) (a':=?_) #[true,true,true,true,true,true,true,true,true,true,false,false,false,false,false] rfl rfl (f3z HT_.1 HW_.1 (by kernel_rfl)) (fun _ _ _ h => h) (Or.inl ⟨by rfl,?_⟩) hHeld ?_ ?_
          rotate_left
          ·rintro w' ⟨s0,s1,s2,s3⟩
           go_simp
           with_reducible rfl
          rotate_left
          ·simp only [Act.put,sA_,sZ_,sS_,i64_w,i32_w]
           rfl
          refine take_ (i:=10) (N:=some 43) (v:=?_) (a':=?_) #[true,true,true,true,true,true,true,true,true,true,true,false,false,false,false] rfl rfl (f3z HT_.1 HW_.1 (by kernel_rfl)) (fun _ _ _ h => h) (Or.inl ⟨by rfl,?_⟩) hHeld ?_ ?_
          rotate_left
          ·rintro w' ⟨s0,s1,s2,s3⟩
           go_simp
           with_reducible rfl
          rotate_left
          ·simp only [Act.put,sA_,sZ_,sS_,i64_w,i32_w]
           rfl
          refine pure_ (i:=11) (N:=some 44) (v:=?_) (a':=?_) #[true,true,true,true,true,true,true,true,true,true,true,true,false,false,false] rfl rfl (c0z HT_.1 (by kernel_rfl)) (fun _ _ _ h => h) (Or.inl ⟨by rfl,?_⟩) ?_ ?_
          rotate_left
          ·intro w'
           go_simp
           with_reducible rfl
          rotate_left
          ·simp only [Act.put,sA_,sZ_,sS_,i64_w,i32_w]
           rfl
          refine pure_ (i:=12) (N:=some 45) (v:=?_) (a':=?_) #[true,true,true,true,true,true,true,true,true,true,true,true,true,false,false] rfl rfl (c0z HT_.1 (by kernel_rfl)) (fun _ _ _ h => h) (Or.inl ⟨by rfl,?_⟩) ?_ ?_
          rotate_left
          ·intro w'
           go_simp
           with_reducible rfl
          rotate_left
          ·simp only [Act.put,sA_,sZ_,sS_,i64_w,i32_w]
           rfl
          refine pure_ (i:=13) (N:=some 46) (v:=?_) (a':=?_) #[true,true,true,true,true,true,true,true,true,true,true,true,true,true,false] rfl rfl (c0z HT_.1 (by kernel_rfl)) (fun _ _ _ h => h) (Or.inl ⟨by rfl,?_⟩) ?_ ?_
          rotate_left
          ·intro w'
           go_simp
           with_reducible rfl
          rotate_left
          ·simp only [Act.put,sA_,sZ_,sS_,i64_w,i32_w]
           rfl
          refine last_ (i:=14) (N:=none) #[true,true,true,true,true,true,true,true,true,true,true,true,true,true,true] rfl rfl (f9z HT_.1 (by kernel_rfl)) (by decide) (fun K hK => ?_)
          refine skip_ (w1:=?_) (by rfl) rfl ?_ ?_
          rotate_left
          ·go_simp
           rfl
          refine hK.out _ _ ?_
          clear hK K
          refine done_ (g5z HT_.1 (by kernel_rfl)) ?_
          try go_wp2
          (try simp only [← hl11_1])
          go_roundg k1
          case measure => have:=HK1.1;omega
          case rel => exact ⟨(y108),(x11_1),(wrap64 (x13_1 + 1)),(by first|rfl|(simp;done)|(simp [*];done)),H',⟨by have:=HK1.1;omega⟩,⟨by (try simp only [hl11_1]);(with_reducible repeat (first|apply Kd.R_alloc|apply Kd.a4z|apply Kd.a5z));exact Kd.b5z HQ21.out (fun _ hk => hk.1)⟩,⟨by (try simp only [hl11_1]);(with_reducible repeat (first|apply Kd.R_alloc|apply Kd.a4z|apply Kd.a5z));exact Kd.b5z (Kd.R_far (p:=⟨go14,((ji9) : Int).toNat * 2 + 1,none⟩) (Kd.b5z HO_11.1 (fun k_ hk => (⟨hk,fun e_ => hk.1 (by rw [e_];rfl)⟩ : _ ∧ k_ ≠ go14))) (fun _ hk => hk.2) (.int .i64 ji13)) (fun _ hk => hk.1.1)⟩,⟨by repeat (first|(with_reducible first|exact HB.1|apply a3z|apply a1z|apply a2z|refine a6z ?_ GB14.1|refine a6z ?_ GE105.1)|exact HB.1)⟩⟩
         ·rw [if_neg c12] at H
          have c12b0 : decide (((b0z x11_1 x13_1).f0) ≤ (wrap64 (((b0z x4_1 (ji9)).f1) + 1))) = false:=decide_eq_false c12
          clear c12
          by_cases c22 : x4_1.length < 8796093022208
          ·rw [if_pos c22] at H
           have LMc22:=a0z.mk c22
           clear c22
           obtain ⟨y109,hy109⟩ : ∃ y_ : List (S55),y_ = (x4_1 ++ [(⟨(b0z x11_1 x13_1).f0,(b0z x11_1 x13_1).f1⟩ : S55)]):=⟨_,rfl⟩
           replace H : (impl_union.l0 k1 y109 x11_1 (t101.length : Int) (wrap64 (x13_1 + 1))) = some r:=by first|(rw [hy109];with_reducible exact H)|(have H2_:=(Option.bind_some _ _).symm.trans H;rw [hy109];with_reducible exact H2_)|(have H2_:=(Option.bind_some _ _).symm.trans H;with_reducible exact H2_)|with_reducible exact H|(rw [hy109];exact H)|exact H
           have Ny109:=a0z.mk hy109
           clear hy109
           have H':=a0z.mk H
           clear H
           have p104 : 0 ≤ (x13_1 : Int):=of_decide_eq_true (by first|(with_reducible assumption)|assumption)
           have q104 : x13_1 < (x11_1.length : Int):=of_decide_eq_true (by first|(with_reducible assumption)|assumption)
           obtain ⟨ad104,e104,hx104_0,hx104_1⟩:=i8z (Kd.b4z HO_11.1).2.2 x13_1 p104 q104
           cases e104
           replace p104:=eq_true p104
           replace q104:=eq_true q104
           try go_wp2_with (first|((with_reducible refine d4z (N:=6) rfl ?_);refine e0z ?hg (N:=6) ?hd (cs:=#[.int .i64 0,.int .i64 0]) (t:=55) ?hr ?_;(case hd => rfl);(case hg => rfl);(case hr => first|(go_simp;done)|(go_simp;rfl));intro gb105 hg w23 hbox hb;have n0_:=a0z.mk (Kd.c3z (Kd.f4z (by (with_reducible repeat (first|apply Kd.R_alloc|apply Kd.a4z|apply Kd.a5z));exact HO_4.1) gb105 (Nat.le_of_eq hg.symm)) hb);have n1_:=a0z.mk (Kd.c3z (Kd.f4z (by (with_reducible repeat (first|apply Kd.R_alloc|apply Kd.a4z|apply Kd.a5z));exact HO_11.1) gb105 (Nat.le_of_eq hg.symm)) hb);have n2_:=a0z.mk (b3z (by repeat (first|(with_reducible first|exact HB.1|apply a3z|apply a1z|apply a2z)|exact HB.1)) hb);have n3_:=a0z.mk (hbox);have n4_:=a0z.mk ((by rw [hg];exact (b1z (by repeat (first|(with_reducible first|exact HB.1|apply a3z|apply a1z|apply a2z)|exact HB.1))) : w.heap.size ≤ gb105));have n5_:=a0z.mk ((by rw [hg];exact (b1z (by repeat (first|(with_reducible first|exact HB.1|apply a3z|apply a1z|apply a2z)|exact HB.1))) : w.heap.size ≤ gb105));clear HO_4;clear HO_11;clear HB;have HO_4:=n0_;have HO_11:=n1_;have HB:=n2_;have BK105:=n3_;have GW105:=n4_;have GE105:=n5_;clear n0_ n1_ n2_ n3_ n4_ n5_;clear hb hbox hg;have hcz24_0 : w23.cell? ⟨gb105,0,none⟩ = some (.int .i64 0):=(b2z BK105.1 0).trans rfl;have hcz24_1 : w23.cell? ⟨gb105,1,none⟩ = some (.int .i64 0):=(b2z BK105.1 1).trans rfl;have hfz24_0:=b7z BK105.1 0;have hfz24_1:=b7z BK105.1 1;obtain ⟨Ao25,co25,eo25⟩:=Kd.d3z HO_4.1;subst eo25))
           have n0_ : a0z (Kd.R k55 55 ((w23.setCell ⟨gb105,0,none⟩ (.int .i64 ((b0z x11_1 x13_1).f0))).setCell ⟨gb105,1,none⟩ (.int .i64 ((b0z x11_1 x13_1).f1))) w.heap.size (fun k_ => some k_ ≠ (.slice (some ad104) x11_1.length co4 : Value).ownBlock ∧ k_ ≠ gb105) (.slice Ao25 x4_1.length co25) x4_1):=⟨by (with_reducible repeat (first|apply Kd.R_alloc|apply Kd.a4z|apply Kd.a5z));exact Kd.b5z (Kd.R_far (p:=⟨gb105,1,none⟩) (Kd.R_far (p:=⟨gb105,0,none⟩) (Kd.b5z HO_4.1 (fun k_ hk => (⟨hk,hk.2⟩ : _ ∧ k_ ≠ gb105))) (fun _ hk => hk.2) (.int .i64 ((b0z x11_1 x13_1).f0))) (fun _ hk => hk.2) (.int .i64 ((b0z x11_1 x13_1).f1))) (fun _ hk => ⟨hk.1.1,hk.1.2⟩)⟩
           have n1_ : a0z (Kd.R k55 55 ((w23.setCell ⟨gb105,0,none⟩ (.int .i64 ((b0z x11_1 x13_1).f0))).setCell ⟨gb105,1,none⟩ (.int .i64 ((b0z x11_1 x13_1).f1))) w.heap.size (fun k_ => some k_ ≠ (.slice Ao25 x4_1.length co25 : Value).ownBlock ∧ k_ ≠ gb105) (.slice (some ad104) x11_1.length co4) x11_1):=⟨by (with_reducible repeat (first|apply Kd.R_alloc|apply Kd.a4z|apply Kd.a5z));exact Kd.b5z (Kd.R_far (p:=⟨gb105,1,none⟩) (Kd.R_far (p:=⟨gb105,0,none⟩) (Kd.b5z HO_11.1 (fun k_ hk => (⟨hk,hk.2⟩ : _ ∧ k_ ≠ gb105))) (fun _ hk => hk.2) (.int .i64 ((b0z x11_1 x13_1).f0))) (fun _ hk => hk.2) (.int .i64 ((b0z x11_1 x13_1).f1))) (fun _ hk => ⟨hk.1.1,hk.1.2⟩)⟩
           have n2_ : a0z (((w23.setCell ⟨gb105,0,none⟩ (.int .i64 ((b0z x11_1 x13_1).f0))).setCell ⟨gb105,1,none⟩ (.int .i64 ((b0z x11_1 x13_1).f1))).heap[gb105]? = some (.cells #[.int .i64 ((b0z x11_1 x13_1).f0),.int .i64 ((b0z x11_1 x13_1).f1)] 55 (0,0))):=⟨by (with_reducible repeat (first|refine a8z ?_ _|refine a9z ?_|refine a7z ?_ _));refine d6z (cs:=#[.int .i64 ((b0z x11_1 x13_1).f0),.int .i64 0]) ?_ 1 _ rfl;(with_reducible repeat (first|refine a8z ?_ _|refine a9z ?_|refine a7z ?_ _));refine d6z (cs:=#[.int .i64 0,.int .i64 0]) ?_ 0 _ rfl;(with_reducible repeat (first|refine a8z ?_ _|refine a9z ?_|refine a7z ?_ _));exact BK105.1⟩
           have n3_ : a0z (Below w.heap.size w ((w23.setCell ⟨gb105,0,none⟩ (.int .i64 ((b0z x11_1 x13_1).f0))).setCell ⟨gb105,1,none⟩ (.int .i64 ((b0z x11_1 x13_1).f1)))):=⟨by repeat (first|(with_reducible first|exact HB.1|apply a3z|apply a1z|apply a2z|refine a6z ?_ GE105.1)|exact HB.1)⟩
           (try clear HO_4)
           (try clear HO_11)
           (try clear BK105)
           (try clear HB)
           generalize ((w23.setCell ⟨gb105,0,none⟩ (.int .i64 ((b0z x11_1 x13_1).f0))).setCell ⟨gb105,1,none⟩ (.int .i64 ((b0z x11_1 x13_1).f1))) = w26 at n0_ n1_ n2_ n3_ ⊢
           have HO_4:=n0_
           have HO_11:=n1_
           have BK105:=n2_
           have HB:=n3_
           clear n0_ n1_ n2_ n3_
           have n0_:=a0z.mk (Kd.a5z HO_4.1)
           have n1_:=a0z.mk (Kd.a5z HO_11.1)
           have n2_:=a0z.mk (a9z BK105.1)
           have n3_:=a0z.mk (a2z HB.1)
           clear HO_4
           clear HO_11
           clear BK105
           clear HB
           have HO_4:=n0_
           have HO_11:=n1_
           have BK105:=n2_
           have HB:=n3_
           clear n0_ n1_ n2_ n3_
           have p106 : 0 ≤ ((ji9) : Int):=of_decide_eq_true (by first|(with_reducible assumption)|assumption)
           have q106 : (ji9) < (x4_1.length : Int):=of_decide_eq_true (by first|(with_reducible assumption)|assumption)
           obtain ⟨ad106,e106,hx106_0,hx106_1⟩:=i8z (Kd.b4z HO_4.1).2.2 (ji9) p106 q106
           cases e106
           replace p106:=eq_true p106
           replace q106:=eq_true q106
           refine g9z (n:=14) (S:=fun w' => w'.cell? ⟨gb105,0,none⟩ = some (.int .i64 ((b0z x11_1 x13_1).f0)) ∧ w'.cell? ⟨gb105,1,none⟩ = some (.int .i64 ((b0z x11_1 x13_1).f1)) ∧ w'.cell? (ad106.add (((ji9)).toNat * 2)) = some (.int .i64 ((b0z x4_1 (ji9)).f0)) ∧ w'.cell? ⟨(ad106.add (((ji9)).toNat * 2)).block,(ad106.add (((ji9)).toNat * 2)).off + 1,none⟩ = some (.int .i64 ((b0z x4_1 (ji9)).f1))) (ds:=[]) #[false,false,false,false,false,false,false,false,false,false,false,false,false,false] (by kernel_rfl) rfl rfl ⟨(b2z BK105.1 0).trans rfl,(b2z BK105.1 1).trans rfl,hx106_0,hx106_1⟩ (fun hHeld => ?_);refine f8z impl_union.tab7 impl_union.bits7 (fun HT_ HW_ => ?_)
           generalize w26.drew = w27 at HO_4 HO_11 BK105 HB hx106_0 hx106_1 hHeld ⊢
           refine pure_ (i:=0) (N:=some 19) (v:=?_) (a':=?_) #[true,false,false,false,false,false,false,false,false,false,false,false,false,false] rfl rfl (c0z HT_.1 (by kernel_rfl)) (fun _ _ _ h => h) (Or.inl ⟨by rfl,?_⟩) ?_ ?_
           rotate_left
           ·intro w'
            go_simp
            with_reducible rfl
           rotate_left
           ·simp only [Act.put,sA_,sZ_,sS_,i64_w,i32_w]
            rfl
           refine pure_ (i:=1) (N:=some 20) (v:=?_) (a':=?_) #[true,true,false,false,false,false,false,false,false,false,false,false,false,false] rfl rfl (c0z HT_.1 (by kernel_rfl)) (fun _ _ _ h => h) (Or.inl ⟨by rfl,?_⟩) ?_ ?_
           rotate_left
           ·intro w'
            go_simp
            with_reducible rfl
           rotate_left
           ·simp only [Act.put,sA_,sZ_,sS_,i64_w,i32_w]
            rfl
           refine pure_ (i:=2) (N:=some 21) (v:=?_) (a':=?_) #[true,true,true,false,false,false,false,false,false,false,false,false,false,false] rfl rfl (c0z HT_.1 (by kernel_rfl)) (fun _ _ _ h => h) (Or.inl ⟨by rfl,?_⟩) ?_ ?_
           rotate_left
           ·intro w'
            go_simp
            with_reducible rfl
           rotate_left
           ·simp only [Act.put,sA_,sZ_,sS_,i64_w,i32_w]
            rfl
           refine pure_ (i:=3) (N:=some 22) (v:=?_) (a':=?_) #[true,true,true,true,false,false,false,false,false,false,false,false,false,false] rfl rfl (c0z HT_.1 (by kernel_rfl)) (fun _ _ _ h => h) (Or.inl ⟨by rfl,?_⟩) ?_ ?_
           rotate_left
           ·intro w'
            go_simp
            with_reducible rfl
           rotate_left
           ·simp only [Act.put,sA_,sZ_,sS_,i64_w,i32_w]
            rfl
           refine pure_ (i:=5) (N:=some 24) (v:=?_) (a':=?_) #[true,true,true,true,false,true,false,false,false,false,false,false,false,false] rfl rfl (c0z HT_.1 (by kernel_rfl)) (fun _ _ _ h => h) (Or.inl ⟨by rfl,?_⟩) ?_ ?_
           rotate_left
           ·intro w'
            go_simp
            with_reducible rfl
           rotate_left
           ·simp only [Act.put,sA_,sZ_,sS_,i64_w,i32_w]
            rfl
           refine pure_ (i:=6) (N:=some 25) (v:=?_) (a':=?_) #[true,true,true,true,false,true,true,false,false,false,false,false,false,false] rfl rfl (c0z HT_.1 (by kernel_rfl)) (fun _ _ _ h => h) (Or.inl ⟨by rfl,?_⟩) ?_ ?_
           rotate_left
           ·intro w'
            go_simp
            with_reducible rfl
           rotate_left
           ·simp only [Act.put,sA_,sZ_,sS_,i64_w,i32_w]
            rfl
           refine pure_ (i:=7) (N:=some 26) (v:=?_) (a':=?_) #[true,true,true,true,false,true,true,true,false,false,false,false,false,false] rfl rfl (c0z HT_.1 (by kernel_rfl)) (fun _ _ _ h => h) (Or.inl ⟨by rfl,?_⟩) ?_ ?_
           rotate_left
           ·intro w'
            go_simp
            with_reducible rfl
           rotate_left
           ·simp only [Act.put,sA_,sZ_,sS_,i64_w,i32_w]
            rfl
           refine pure_ (i:=8) (N:=some 27) (v:=?_) (a':=?_) #[true,true,true,true,false,true,true,true,true,false,false,false,false,false] rfl rfl (c0z HT_.1 (by kernel_rfl)) (fun _ _ _ h => h) (Or.inl ⟨by rfl,?_⟩) ?_ ?_
           rotate_left
           ·intro w'
            go_simp
            with_reducible rfl
           rotate_left
           ·simp only [Act.put,sA_,sZ_,sS_,i64_w,i32_w]
            rfl
           refine pure_ (i:=9) (N:=some 28) (v:=?_) (a':=?_) #[true,true,true,true,false,true,true,true,true,true,false,false,false,false] rfl rfl (c0z HT_.1 (by kernel_rfl)) (fun _ _ _ h => h) (Or.inl ⟨by rfl,?_⟩) ?_ ?_
           rotate_left
           ·intro w'
            go_simp
            with_reducible rfl
           rotate_left
           ·simp only [Act.put,sA_,sZ_,sS_,i64_w,i32_w]
            rfl
           refine take_ (i:=4) (N:=some 23) (v:=?_) (a':=?_) #[true,true,true,true,true,true,true,true,true,true,false,false,false,false] rfl rfl (f3z HT_.1 HW_.1 (by kernel_rfl)) (fun _ _ _ h => h) (Or.inl ⟨by rfl,?_⟩) hHeld ?_ ?_
           rotate_left
           ·rintro w' ⟨s0,s1,s2,s3⟩
            go_simp
            with_reducible rfl
           rotate_left
           ·simp only [Act.put,sA_,sZ_,sS_,i64_w,i32_w]
            rfl
           refine take_ (i:=10) (N:=some 29) (v:=?_) (a':=?_) #[true,true,true,true,true,true,true,true,true,true,true,false,false,false] rfl rfl (f3z HT_.1 HW_.1 (by kernel_rfl)) (fun _ _ _ h => h) (Or.inl ⟨by rfl,?_⟩) hHeld ?_ ?_
           rotate_left
           ·rintro w' ⟨s0,s1,s2,s3⟩
            go_simp
            with_reducible rfl
           rotate_left
           ·simp only [Act.put,sA_,sZ_,sS_,i64_w,i32_w]
            rfl
           refine pure_ (i:=11) (N:=some 30) (v:=?_) (a':=?_) #[true,true,true,true,true,true,true,true,true,true,true,true,false,false] rfl rfl (c0z HT_.1 (by kernel_rfl)) (fun _ _ _ h => h) (Or.inl ⟨by rfl,?_⟩) ?_ ?_
           rotate_left
           ·intro w'
            go_simp
            with_reducible rfl
           rotate_left
           ·simp only [Act.put,sA_,sZ_,sS_,i64_w,i32_w]
            rfl
           refine pure_ (i:=12) (N:=some 31) (v:=?_) (a':=?_) #[true,true,true,true,true,true,true,true,true,true,true,true,true,false] rfl rfl (c0z HT_.1 (by kernel_rfl)) (fun _ _ _ h => h) (Or.inl ⟨by rfl,?_⟩) ?_ ?_
           rotate_left
           ·intro w'
            go_simp
            with_reducible rfl
           rotate_left
           ·simp only [Act.put,sA_,sZ_,sS_,i64_w,i32_w]
            rfl
           refine pure_ (i:=13) (N:=some 32) (v:=?_) (a':=?_) #[true,true,true,true,true,true,true,true,true,true,true,true,true,true] rfl rfl (c0z HT_.1 (by kernel_rfl)) (fun _ _ _ h => h) (Or.inl ⟨by rfl,?_⟩) ?_ ?_
           rotate_left
           ·intro w'
            go_simp
            with_reducible rfl
           rotate_left
           ·simp only [Act.put,sA_,sZ_,sS_,i64_w,i32_w]
            rfl
           refine done_ (g5z HT_.1 (by kernel_rfl)) ?_
           have hcz28_0 : w27.cell? ⟨gb105,0,none⟩ = some (.int .i64 ((b0z x11_1 x13_1).f0)):=(b2z BK105.1 0).trans rfl
           have hcz28_1 : w27.cell? ⟨gb105,1,none⟩ = some (.int .i64 ((b0z x11_1 x13_1).f1)):=(b2z BK105.1 1).trans rfl
           have hfz28_0:=b7z BK105.1 0
           have hfz28_1:=b7z BK105.1 1
           try go_wp2_with (first|((with_reducible refine e5z (b:=.append) (xs:=#[.tmp 47,.tmp 49]) rfl ?_);at_builtin;refine Kd.g6z k55 (w0:=w) w.heap.size rfl (.tmp 47) (.tmp 49) 48 55 (.agg #[(.int .i64 0),(.int .i64 0)]) 16 rfl Try.underlying48 info55 rfl (by decide) (by omega) (.slice (some ad106) x4_1.length co25) x4_1 (⟨(b0z x11_1 x13_1).f0,(b0z x11_1 x13_1).f1⟩ : S55) [.int .i64 ((b0z x11_1 x13_1).f0),.int .i64 ((b0z x11_1 x13_1).f1)] (fun k_ => some k_ ≠ (.slice (some ad104) x11_1.length co4 : Value).ownBlock ∧ k_ ≠ gb105) (fun _ => False) rfl rfl ?aP (fun _ hk => hk.elim) ?aF ?aO ?aB ?aS ?aL ?_;(case aP => exact k55_mkM _ _ _ (⟨(b0z x11_1 x13_1).f0,(b0z x11_1 x13_1).f1⟩ : S55));(case aB => exact (by repeat (first|(with_reducible first|exact HB.1|apply a3z|apply a1z|apply a2z|refine a6z ?_ GE105.1)|exact HB.1)));(case aF => exact (fun k_ hk => ⟨Kd.fresh' (Kd.R_lt (by (with_reducible repeat (first|apply Kd.R_alloc|apply Kd.a4z|apply Kd.a5z));exact HO_11.1)) k_ hk,Kd.freshB (g:=gb105) (o:=.cells #[.int .i64 ((b0z x11_1 x13_1).f0),.int .i64 ((b0z x11_1 x13_1).f1)] 55 (0,0)) (by (with_reducible repeat (first|refine a8z ?_ _|refine a9z ?_|refine a7z ?_ _));exact BK105.1) k_ hk⟩));(case aO => exact (by (with_reducible repeat (first|apply Kd.R_alloc|apply Kd.a4z|apply Kd.a5z));exact HO_4.1));(case aS => exact (b1z (by repeat (first|(with_reducible first|exact HB.1|apply a3z|apply a1z|apply a2z|refine a6z ?_ GE105.1)|exact HB.1))));(case aL => have:=LMc22.1;omega);intro v110 w29 ho hb hg hat;rw [← Ny109.1] at ho;have n0_:=a0z.mk (Kd.c9z (ok:=(fun k_ => k_ ≠ gb105)) (by (with_reducible repeat (first|apply Kd.R_alloc|apply Kd.a4z|apply Kd.a5z));exact Kd.b5z HO_11.1 (fun _ hk => ⟨hk.2,hk.1⟩)) hg hat);have n1_:=a0z.mk (f0z (g:=gb105) (o:=.cells #[.int .i64 ((b0z x11_1 x13_1).f0),.int .i64 ((b0z x11_1 x13_1).f1)] 55 (0,0)) (by (with_reducible repeat (first|refine a8z ?_ _|refine a9z ?_|refine a7z ?_ _));exact BK105.1) hg (Kd.h1z HO_4.1 (fun _ hk => hk.2)));have n2_:=a0z.mk (hb);have n3_:=a0z.mk (ho);clear HO_11;clear BK105;clear HB;clear HO_4;have HO_11:=n0_;have BK105:=n1_;have HB:=n2_;have HO111:=n3_;clear n0_ n1_ n2_ n3_;clear ho hb hg hat))
           (try simp only [← hl11_1])
           go_roundg k1
           case measure => have:=HK1.1;omega
           case rel => exact ⟨(y109),(x11_1),(wrap64 (x13_1 + 1)),(by first|rfl|(simp;done)|(simp [*];done)),H',⟨by have:=HK1.1;omega⟩,⟨by (try simp only [hl11_1]);(with_reducible repeat (first|apply Kd.R_alloc|apply Kd.a4z|apply Kd.a5z));exact Kd.b5z HO111.1 (fun _ hk => hk.1)⟩,⟨by (try simp only [hl11_1]);(with_reducible repeat (first|apply Kd.R_alloc|apply Kd.a4z|apply Kd.a5z));exact Kd.b5z HO_11.1 (fun _ hk => hk.2)⟩,⟨by repeat (first|(with_reducible first|exact HB.1|apply a3z|apply a1z|apply a2z|refine a6z ?_ GE105.1)|exact HB.1)⟩⟩
          ·rw [if_neg c22] at H
           exact absurd H (by simp)
        ·rw [if_neg c11] at H
         exact absurd H (by simp)
       ·rw [if_neg c10] at H
        exact absurd H (by simp)
      ·rw [if_neg c8] at H
       have c8b0 : decide (0 < (x4_1.length : Int)) = false:=decide_eq_false c8
       have c8b1 : decide (0 < x4_1.length) = false:=decide_eq_false (by omega)
       (try (have c8b0r:=c8b0;simp only [hl11_1] at c8b0r))
       (try (have c8b1r:=c8b1;simp only [hl11_1] at c8b1r))
       clear c8
       by_cases c30 : x4_1.length < 8796093022208
       ·rw [if_pos c30] at H
        have LMc30:=a0z.mk c30
        clear c30
        obtain ⟨y112,hy112⟩ : ∃ y_ : List (S55),y_ = (x4_1 ++ [(⟨(b0z x11_1 x13_1).f0,(b0z x11_1 x13_1).f1⟩ : S55)]):=⟨_,rfl⟩
        replace H : (impl_union.l0 k1 y112 x11_1 (t101.length : Int) (wrap64 (x13_1 + 1))) = some r:=by first|(rw [hy112];with_reducible exact H)|(have H2_:=(Option.bind_some _ _).symm.trans H;rw [hy112];with_reducible exact H2_)|(have H2_:=(Option.bind_some _ _).symm.trans H;with_reducible exact H2_)|with_reducible exact H|(rw [hy112];exact H)|exact H
        have Ny112:=a0z.mk hy112
        clear hy112
        have H':=a0z.mk H
        clear H
        have p104 : 0 ≤ (x13_1 : Int):=of_decide_eq_true (by first|(with_reducible assumption)|assumption)
        have q104 : x13_1 < (x11_1.length : Int):=of_decide_eq_true (by first|(with_reducible assumption)|assumption)
        obtain ⟨ad104,e104,hx104_0,hx104_1⟩:=i8z (Kd.b4z HO_11.1).2.2 x13_1 p104 q104
        cases e104
        replace p104:=eq_true p104
        replace q104:=eq_true q104
        try go_wp2_with (first|((with_reducible refine d4z (N:=6) rfl ?_);refine e0z ?hg (N:=6) ?hd (cs:=#[.int .i64 0,.int .i64 0]) (t:=55) ?hr ?_;(case hd => rfl);(case hg => rfl);(case hr => first|(go_simp;done)|(go_simp;rfl));intro gb105 hg w31 hbox hb;have n0_:=a0z.mk (Kd.c3z (Kd.f4z (by (with_reducible repeat (first|apply Kd.R_alloc|apply Kd.a4z|apply Kd.a5z));exact HO_4.1) gb105 (Nat.le_of_eq hg.symm)) hb);have n1_:=a0z.mk (Kd.c3z (Kd.f4z (by (with_reducible repeat (first|apply Kd.R_alloc|apply Kd.a4z|apply Kd.a5z));exact HO_11.1) gb105 (Nat.le_of_eq hg.symm)) hb);have n2_:=a0z.mk (b3z (by repeat (first|(with_reducible first|exact HB.1|apply a3z|apply a1z|apply a2z)|exact HB.1)) hb);have n3_:=a0z.mk (hbox);have n4_:=a0z.mk ((by rw [hg];exact (b1z (by repeat (first|(with_reducible first|exact HB.1|apply a3z|apply a1z|apply a2z)|exact HB.1))) : w.heap.size ≤ gb105));have n5_:=a0z.mk ((by rw [hg];exact (b1z (by repeat (first|(with_reducible first|exact HB.1|apply a3z|apply a1z|apply a2z)|exact HB.1))) : w.heap.size ≤ gb105));clear HO_4;clear HO_11;clear HB;have HO_4:=n0_;have HO_11:=n1_;have HB:=n2_;have BK105:=n3_;have GW105:=n4_;have GE105:=n5_;clear n0_ n1_ n2_ n3_ n4_ n5_;clear hb hbox hg;have hcz32_0 : w31.cell? ⟨gb105,0,none⟩ = some (.int .i64 0):=(b2z BK105.1 0).trans rfl;have hcz32_1 : w31.cell? ⟨gb105,1,none⟩ = some (.int .i64 0):=(b2z BK105.1 1).trans rfl;have hfz32_0:=b7z BK105.1 0;have hfz32_1:=b7z BK105.1 1;obtain ⟨Ao33,co33,eo33⟩:=Kd.d3z HO_4.1;subst eo33))
        have n0_ : a0z (Kd.R k55 55 ((w31.setCell ⟨gb105,0,none⟩ (.int .i64 ((b0z x11_1 x13_1).f0))).setCell ⟨gb105,1,none⟩ (.int .i64 ((b0z x11_1 x13_1).f1))) w.heap.size (fun k_ => some k_ ≠ (.slice (some ad104) x11_1.length co4 : Value).ownBlock ∧ k_ ≠ gb105) (.slice Ao33 x4_1.length co33) x4_1):=⟨by (with_reducible repeat (first|apply Kd.R_alloc|apply Kd.a4z|apply Kd.a5z));exact Kd.b5z (Kd.R_far (p:=⟨gb105,1,none⟩) (Kd.R_far (p:=⟨gb105,0,none⟩) (Kd.b5z HO_4.1 (fun k_ hk => (⟨hk,hk.2⟩ : _ ∧ k_ ≠ gb105))) (fun _ hk => hk.2) (.int .i64 ((b0z x11_1 x13_1).f0))) (fun _ hk => hk.2) (.int .i64 ((b0z x11_1 x13_1).f1))) (fun _ hk => ⟨hk.1.1,hk.1.2⟩)⟩
        have n1_ : a0z (Kd.R k55 55 ((w31.setCell ⟨gb105,0,none⟩ (.int .i64 ((b0z x11_1 x13_1).f0))).setCell ⟨gb105,1,none⟩ (.int .i64 ((b0z x11_1 x13_1).f1))) w.heap.size (fun k_ => some k_ ≠ (.slice Ao33 x4_1.length co33 : Value).ownBlock ∧ k_ ≠ gb105) (.slice (some ad104) x11_1.length co4) x11_1):=⟨by (with_reducible repeat (first|apply Kd.R_alloc|apply Kd.a4z|apply Kd.a5z));exact Kd.b5z (Kd.R_far (p:=⟨gb105,1,none⟩) (Kd.R_far (p:=⟨gb105,0,none⟩) (Kd.b5z HO_11.1 (fun k_ hk => (⟨hk,hk.2⟩ : _ ∧ k_ ≠ gb105))) (fun _ hk => hk.2) (.int .i64 ((b0z x11_1 x13_1).f0))) (fun _ hk => hk.2) (.int .i64 ((b0z x11_1 x13_1).f1))) (fun _ hk => ⟨hk.1.1,hk.1.2⟩)⟩
        have n2_ : a0z (((w31.setCell ⟨gb105,0,none⟩ (.int .i64 ((b0z x11_1 x13_1).f0))).setCell ⟨gb105,1,none⟩ (.int .i64 ((b0z x11_1 x13_1).f1))).heap[gb105]? = some (.cells #[.int .i64 ((b0z x11_1 x13_1).f0),.int .i64 ((b0z x11_1 x13_1).f1)] 55 (0,0))):=⟨by (with_reducible repeat (first|refine a8z ?_ _|refine a9z ?_|refine a7z ?_ _));refine d6z (cs:=#[.int .i64 ((b0z x11_1 x13_1).f0),.int .i64 0]) ?_ 1 _ rfl;(with_reducible repeat (first|refine a8z ?_ _|refine a9z ?_|refine a7z ?_ _));refine d6z (cs:=#[.int .i64 0,.int .i64 0]) ?_ 0 _ rfl;(with_reducible repeat (first|refine a8z ?_ _|refine a9z ?_|refine a7z ?_ _));exact BK105.1⟩
        have n3_ : a0z (Below w.heap.size w ((w31.setCell ⟨gb105,0,none⟩ (.int .i64 ((b0z x11_1 x13_1).f0))).setCell ⟨gb105,1,none⟩ (.int .i64 ((b0z x11_1 x13_1).f1)))):=⟨by repeat (first|(with_reducible first|exact HB.1|apply a3z|apply a1z|apply a2z|refine a6z ?_ GE105.1)|exact HB.1)⟩
        (try clear HO_4)
        (try clear HO_11)
        (try clear BK105)
        (try clear HB)
        generalize ((w31.setCell ⟨gb105,0,none⟩ (.int .i64 ((b0z x11_1 x13_1).f0))).setCell ⟨gb105,1,none⟩ (.int .i64 ((b0z x11_1 x13_1).f1))) = w34 at n0_ n1_ n2_ n3_ ⊢
        have HO_4:=n0_
        have HO_11:=n1_
        have BK105:=n2_
        have HB:=n3_
        clear n0_ n1_ n2_ n3_
        have n0_:=a0z.mk (Kd.a5z HO_4.1)
        have n1_:=a0z.mk (Kd.a5z HO_11.1)
        have n2_:=a0z.mk (a9z BK105.1)
        have n3_:=a0z.mk (a2z HB.1)
        clear HO_4
        clear HO_11
        clear BK105
        clear HB
        have HO_4:=n0_
        have HO_11:=n1_
        have BK105:=n2_
        have HB:=n3_
        clear n0_ n1_ n2_ n3_
        refine g9z (n:=14) (S:=fun w' => True) (ds:=[]) #[false,false,false,false,false,false,false,false,false,false,false,false,false,false] (by kernel_rfl) rfl rfl trivial (fun hHeld => ?_);refine f8z impl_union.tab7 impl_union.bits7 (fun HT_ HW_ => ?_)
        generalize w34.drew = w35 at HO_4 HO_11 BK105 HB hHeld ⊢
        refine pure_ (i:=0) (N:=some 19) (v:=?_) (a':=?_) #[true,false,false,false,false,false,false,false,false,false,false,false,false,false] rfl rfl (c0z HT_.1 (by kernel_rfl)) (fun _ _ _ h => h) (Or.inl ⟨by rfl,?_⟩) ?_ ?_
        rotate_left
        ·intro w'
         go_simp
         with_reducible rfl
        rotate_left
        ·simp only [Act.put,sA_,sZ_,sS_,i64_w,i32_w]
         rfl
        refine pure_ (i:=1) (N:=some 20) (v:=?_) (a':=?_) #[true,true,false,false,false,false,false,false,false,false,false,false,false,false] rfl rfl (c0z HT_.1 (by kernel_rfl)) (fun _ _ _ h => h) (Or.inl ⟨by rfl,?_⟩) ?_ ?_
        rotate_left
        ·intro w'
         go_simp
         with_reducible rfl
        rotate_left
        ·simp only [Act.put,sA_,sZ_,sS_,i64_w,i32_w]
         rfl
        refine pure_ (i:=2) (N:=some 21) (v:=?_) (a':=?_) #[true,true,true,false,false,false,false,false,false,false,false,false,false,false] rfl rfl (c0z HT_.1 (by kernel_rfl)) (fun _ _ _ h => h) (Or.inl ⟨by rfl,?_⟩) ?_ ?_
        rotate_left
        ·intro w'
         go_simp
         with_reducible rfl
        rotate_left
        ·simp only [Act.put,sA_,sZ_,sS_,i64_w,i32_w]
         rfl
        refine pure_ (i:=3) (N:=some 22) (v:=undef) (a':=?_) #[true,true,true,true,false,false,false,false,false,false,false,false,false,false] rfl rfl (c0z HT_.1 (by kernel_rfl)) (fun _ _ _ h => h) (Or.inr ⟨by rfl,rfl⟩) ?_ ?_
        rotate_left
        ·simp only [Act.put,sA_,sZ_,sS_,i64_w,i32_w]
         rfl
        refine pure_ (i:=4) (N:=some 23) (v:=undef) (a':=?_) #[true,true,true,true,true,false,false,false,false,false,false,false,false,false] rfl rfl (c0z HT_.1 (by kernel_rfl)) (fun _ _ _ h => h) (Or.inr ⟨by rfl,rfl⟩) ?_ ?_
        rotate_left
        ·simp only [Act.put,sA_,sZ_,sS_,i64_w,i32_w]
         rfl
        refine pure_ (i:=5) (N:=some 24) (v:=undef) (a':=?_) #[true,true,true,true,true,true,false,false,false,false,false,false,false,false] rfl rfl (c0z HT_.1 (by kernel_rfl)) (fun _ _ _ h => h) (Or.inr ⟨by rfl,rfl⟩) ?_ ?_
        rotate_left
        ·simp only [Act.put,sA_,sZ_,sS_,i64_w,i32_w]
         rfl
        refine pure_ (i:=6) (N:=some 25) (v:=undef) (a':=?_) #[true,true,true,true,true,true,true,false,false,false,false,false,false,false] rfl rfl (c0z HT_.1 (by kernel_rfl)) (fun _ _ _ h => h) (Or.inr ⟨by rfl,rfl⟩) ?_ ?_
        rotate_left
        ·simp only [Act.put,sA_,sZ_,sS_,i64_w,i32_w]
         rfl
        refine pure_ (i:=7) (N:=some 26) (v:=undef) (a':=?_) #[true,true,true,true,true,true,true,true,false,false,false,false,false,false] rfl rfl (c0z HT_.1 (by kernel_rfl)) (fun _ _ _ h => h) (Or.inr ⟨by rfl,rfl⟩) ?_ ?_
        rotate_left
        ·simp only [Act.put,sA_,sZ_,sS_,i64_w,i32_w]
         rfl
        refine pure_ (i:=8) (N:=some 27) (v:=undef) (a':=?_) #[true,true,true,true,true,true,true,true,true,false,false,false,false,false] rfl rfl (c0z HT_.1 (by kernel_rfl)) (fun _ _ _ h => h) (Or.inr ⟨by rfl,rfl⟩) ?_ ?_
        rotate_left
        ·simp only [Act.put,sA_,sZ_,sS_,i64_w,i32_w]
         rfl
        refine pure_ (i:=9) (N:=some 28) (v:=undef) (a':=?_) #[true,true,true,true,true,true,true,true,true,true,false,false,false,false] rfl rfl (c0z HT_.1 (by kernel_rfl)) (fun _ _ _ h => h) (Or.inr ⟨by rfl,rfl⟩) ?_ ?_
        rotate_left
        ·simp only [Act.put,sA_,sZ_,sS_,i64_w,i32_w]
         rfl
        refine pure_ (i:=10) (N:=some 29) (v:=undef) (a':=?_) #[true,true,true,true,true,true,true,true,true,true,true,false,false,false] rfl rfl (c0z HT_.1 (by kernel_rfl)) (fun _ _ _ h => h) (Or.inr ⟨by rfl,rfl⟩) ?_ ?_
        rotate_left
        ·simp only [Act.put,sA_,sZ_,sS_,i64_w,i32_w]
         rfl
        refine pure_ (i:=11) (N:=some 30) (v:=undef) (a':=?_) #[true,true,true,true,true,true,true,true,true,true,true,true,false,false] rfl rfl (c0z HT_.1 (by kernel_rfl)) (fun _ _ _ h => h) (Or.inr ⟨by rfl,rfl⟩) ?_ ?_
        rotate_left
        ·simp only [Act.put,sA_,sZ_,sS_,i64_w,i32_w]
         rfl
        refine pure_ (i:=12) (N:=some 31) (v:=undef) (a':=?_) #[true,true,true,true,true,true,true,true,true,true,true,true,true,false] rfl rfl (c0z HT_.1 (by kernel_rfl)) (fun _ _ _ h => h) (Or.inr ⟨by rfl,rfl⟩) ?_ ?_
        rotate_left
        ·simp only [Act.put,sA_,sZ_,sS_,i64_w,i32_w]
         rfl
        refine pure_ (i:=13) (N:=some 32) (v:=?_) (a':=?_) #[true,true,true,true,true,true,true,true,true,true,true,true,true,true] rfl rfl (c0z HT_.1 (by kernel_rfl)) (fun _ _ _ h => h) (Or.inl ⟨by rfl,?_⟩) ?_ ?_
        rotate_left
        ·intro w'
         go_simp
         with_reducible rfl
        rotate_left
        ·simp only [Act.put,sA_,sZ_,sS_,i64_w,i32_w]
         rfl
        refine done_ (g5z HT_.1 (by kernel_rfl)) ?_
        have hcz36_0 : w35.cell? ⟨gb105,0,none⟩ = some (.int .i64 ((b0z x11_1 x13_1).f0)):=(b2z BK105.1 0).trans rfl
        have hcz36_1 : w35.cell? ⟨gb105,1,none⟩ = some (.int .i64 ((b0z x11_1 x13_1).f1)):=(b2z BK105.1 1).trans rfl
        have hfz36_0:=b7z BK105.1 0
        have hfz36_1:=b7z BK105.1 1
        try go_wp2_with (first|((with_reducible refine e5z (b:=.append) (xs:=#[.tmp 47,.tmp 49]) rfl ?_);at_builtin;refine Kd.g6z k55 (w0:=w) w.heap.size rfl (.tmp 47) (.tmp 49) 48 55 (.agg #[(.int .i64 0),(.int .i64 0)]) 16 rfl Try.underlying48 info55 rfl (by decide) (by omega) (.slice Ao33 x4_1.length co33) x4_1 (⟨(b0z x11_1 x13_1).f0,(b0z x11_1 x13_1).f1⟩ : S55) [.int .i64 ((b0z x11_1 x13_1).f0),.int .i64 ((b0z x11_1 x13_1).f1)] (fun k_ => some k_ ≠ (.slice (some ad104) x11_1.length co4 : Value).ownBlock ∧ k_ ≠ gb105) (fun _ => False) rfl rfl ?aP (fun _ hk => hk.elim) ?aF ?aO ?aB ?aS ?aL ?_;(case aP => exact k55_mkM _ _ _ (⟨(b0z x11_1 x13_1).f0,(b0z x11_1 x13_1).f1⟩ : S55));(case aB => exact (by repeat (first|(with_reducible first|exact HB.1|apply a3z|apply a1z|apply a2z|refine a6z ?_ GE105.1)|exact HB.1)));(case aF => exact (fun k_ hk => ⟨Kd.fresh' (Kd.R_lt (by (with_reducible repeat (first|apply Kd.R_alloc|apply Kd.a4z|apply Kd.a5z));exact HO_11.1)) k_ hk,Kd.freshB (g:=gb105) (o:=.cells #[.int .i64 ((b0z x11_1 x13_1).f0),.int .i64 ((b0z x11_1 x13_1).f1)] 55 (0,0)) (by (with_reducible repeat (first|refine a8z ?_ _|refine a9z ?_|refine a7z ?_ _));exact BK105.1) k_ hk⟩));(case aO => exact (by (with_reducible repeat (first|apply Kd.R_alloc|apply Kd.a4z|apply Kd.a5z));exact HO_4.1));(case aS => exact (b1z (by repeat (first|(with_reducible first|exact HB.1|apply a3z|apply a1z|apply a2z|refine a6z ?_ GE105.1)|exact HB.1))));(case aL => have:=LMc30.1;omega);intro v113 w37 ho hb hg hat;rw [← Ny112.1] at ho;have n0_:=a0z.mk (Kd.c9z (ok:=(fun k_ => k_ ≠ gb105)) (by (with_reducible repeat (first|apply Kd.R_alloc|apply Kd.a4z|apply Kd.a5z));exact Kd.b5z HO_11.1 (fun _ hk => ⟨hk.2,hk.1⟩)) hg hat);have n1_:=a0z.mk (f0z (g:=gb105) (o:=.cells #[.int .i64 ((b0z x11_1 x13_1).f0),.int .i64 ((b0z x11_1 x13_1).f1)] 55 (0,0)) (by (with_reducible repeat (first|refine a8z ?_ _|refine a9z ?_|refine a7z ?_ _));exact BK105.1) hg (Kd.h1z HO_4.1 (fun _ hk => hk.2)));have n2_:=a0z.mk (hb);have n3_:=a0z.mk (ho);clear HO_11;clear BK105;clear HB;clear HO_4;have HO_11:=n0_;have BK105:=n1_;have HB:=n2_;have HO114:=n3_;clear n0_ n1_ n2_ n3_;clear ho hb hg hat))
        (try simp only [← hl11_1])
        go_roundg k1
        case measure => have:=HK1.1;omega
        case rel => exact ⟨(y112),(x11_1),(wrap64 (x13_1 + 1)),(by first|rfl|(simp;done)|(simp [*];done)),H',⟨by have:=HK1.1;omega⟩,⟨by (try simp only [hl11_1]);(with_reducible repeat (first|apply Kd.R_alloc|apply Kd.a4z|apply Kd.a5z));exact Kd.b5z HO114.1 (fun _ hk => hk.1)⟩,⟨by (try simp only [hl11_1]);(with_reducible repeat (first|apply Kd.R_alloc|apply Kd.a4z|apply Kd.a5z));exact Kd.b5z HO_11.1 (fun _ hk => hk.2)⟩,⟨by repeat (first|(with_reducible first|exact HB.1|apply a3z|apply a1z|apply a2z|refine a6z ?_ GE105.1)|exact HB.1)⟩⟩
       ·rw [if_neg c30] at H
        exact absurd H (by simp)
     ·rw [if_neg c7] at H
      exact absurd H (by simp)
    ·rw [if_neg c6] at H
     exact absurd H (by simp)
   ·rw [if_neg c5] at H
    have c5b0 : decide (x13_1 < (t101.length : Int)) = false:=decide_eq_false c5
    (try (have c5b0r:=c5b0;simp only [hl11_1] at c5b0r))
    clear c5
    obtain rfl:=Option.some.inj H
    go_wp2
    go_ret
    exact ⟨_,by first|rfl|(simp [c2z,c1z] <;> rfl)|(simp [*,c2z,c1z] <;> rfl),by (with_reducible repeat (first|apply Kd.R_alloc|apply Kd.a4z|apply Kd.a5z));exact Kd.b5z HO_4.1 (fun _ hk => trivial),by repeat (first|(with_reducible first|exact HB.1|apply a3z|apply a1z|apply a2z)|exact HB.1)⟩
end Go.Proofs.Ytmdhedkgpgoneaa.Q

namespace Go.Proofs.Ytmdhedkgpgoneaa.Q
open Go.RowKit Go.Proofs.YtmdhedkgpgoneaaW.PrintWords Go.Proofs.YtmdhedkgpgoneaaW.PrintLast Go.Proofs.YtmdhedkgpgoneaaW.PrintMore
attribute [local go_sem] e4z e2z e7z e6z d8z d7z e3z e1z
set_option linter.unusedVariables false
set_option linter.unusedSimpArgs false
def impl_around.f (a0 : Int) (a1 : Int) : Option (Int × Int):=if 0 ≤ (wrap64 (32 - a1)) then (some (shl .i64 (shr .i64 a0 (wrap64 (32 - a1))) (wrap64 (32 - a1)),a1)) else (none)
set_option maxHeartbeats 8000000 in
set_option maxRecDepth 100000 in
theorem impl_around.calls (a0 : Int) (a1 : Int) (r1 : Int) (r2 : Int) (w : World) (h : impl_around.f a0 a1 = some (r1,r2)) :
  Calls Try.prog 73 #[.int .i64 a0,.int .i64 a1] w fun e w' => e = .returned (.agg #[.int .i64 r1,.int .i64 r2]) ∧ Below w.heap.size w w':=by
 have hu44:=Try.underlying44
 have HB:=a0z.mk (Below.refl w.heap.size w)
 have H : (if 0 ≤ (wrap64 (32 - a1)) then (some (shl .i64 (shr .i64 a0 (wrap64 (32 - a1))) (wrap64 (32 - a1)),a1)) else (none)) = some (r1,r2):=h
 clear h
 obtain ⟨ji3,hji3⟩ : ∃ j_ : Int,(wrap64 (32 - a1)) = j_:=⟨_,rfl⟩
 replace H : (if 0 ≤ (ji3) then (some (shl .i64 (shr .i64 a0 (ji3)) (ji3),a1)) else (none)) = some (r1,r2):=by first|(rw [hji3] at H;exact H)|(simp only [hji3] at H ⊢;exact H)
 have hji3w : (IntKind.i64.wrap (32 - a1)) = ji3:=(i64_w _).trans hji3
 by_cases c4 : 0 ≤ (ji3)
 ·rw [if_pos c4] at H
  have c4b0:=eq_true c4
  have c4b1 : decide (0 ≤ (ji3)) = true:=decide_eq_true c4
  clear c4
  obtain ⟨ji5,hji5⟩ : ∃ j_ : Int,(shr .i64 a0 (ji3)) = j_:=⟨_,rfl⟩
  replace H : (some (shl .i64 (ji5) (ji3),a1)) = some (r1,r2):=by first|(rw [hji5] at H;exact H)|(simp only [hji5] at H ⊢;exact H)
  have hji5_ : (a0 / 2 ^ min (ji3).toNat 64) = ji5:=hji5
  have hji5z : (ji3) ≤ 64 → (a0 / 2 ^ (ji3).toNat) = ji5:=shr_small hji5
  have c6b0:=eq_true (of_decide_eq_true (by first|(with_reducible assumption)|assumption) : 0 ≤ (ji3))
  obtain ⟨ji7,hji7⟩ : ∃ j_ : Int,(shl .i64 (ji5) (ji3)) = j_:=⟨_,rfl⟩
  replace H : (some (ji7,a1)) = some (r1,r2):=by first|(rw [hji7] at H;exact H)|(simp only [hji7] at H ⊢;exact H)
  have hji7_ : (IntKind.i64.wrap ((ji5) * 2 ^ min (ji3).toNat 64)) = ji7:=hji7
  have hji7z : (ji3) ≤ 64 → (IntKind.i64.wrap ((ji5) * 2 ^ (ji3).toNat)) = ji7:=shl_small hji7
  have hji7y : (wrap64 ((ji5) * 2 ^ min (ji3).toNat 64)) = ji7:=(i64_w _).symm.trans hji7_
  have hji7x : (ji3) ≤ 64 → (wrap64 ((ji5) * 2 ^ (ji3).toNat)) = ji7:=fun h_ => (i64_w _).symm.trans (hji7z h_)
  simp only [Option.some.injEq,Prod.mk.injEq] at H
  obtain ⟨rfl,rfl⟩:=H
  go_enter Try.func73,Try.ntmps73
  go_wp2_with (first|((with_reducible refine d4z (N:=4) rfl ?_);refine e0z ?hg (N:=4) ?hd (cs:=#[.int .i64 0,.int .i64 0]) (t:=44) ?hr ?_;(case hd => rfl);(case hg => rfl);(case hr => first|(go_simp;done)|(go_simp;rfl));intro gb101 hg w8 hbox hb;have n0_:=a0z.mk (b3z (by repeat (first|(with_reducible first|exact HB.1|apply a3z|apply a1z|apply a2z)|exact HB.1)) hb);have n1_:=a0z.mk (hbox);have n2_:=a0z.mk ((by rw [hg];exact (b1z (by repeat (first|(with_reducible first|exact HB.1|apply a3z|apply a1z|apply a2z)|exact HB.1))) : w.heap.size ≤ gb101));have n3_:=a0z.mk ((by rw [hg];exact (b1z (by repeat (first|(with_reducible first|exact HB.1|apply a3z|apply a1z|apply a2z)|exact HB.1))) : w.heap.size ≤ gb101));clear HB;have HB:=n0_;have BK101:=n1_;have GW101:=n2_;have GE101:=n3_;clear n0_ n1_ n2_ n3_;clear hb hbox hg;have hcz9_0 : w8.cell? ⟨gb101,0,none⟩ = some (.int .i64 0):=(b2z BK101.1 0).trans rfl;have hcz9_1 : w8.cell? ⟨gb101,1,none⟩ = some (.int .i64 0):=(b2z BK101.1 1).trans rfl;have hfz9_0:=b7z BK101.1 0;have hfz9_1:=b7z BK101.1 1))
  refine bodyPost_ret (results_cell_row rfl _ _ gb101 44 #[.int .i64 ji7,.int .i64 a1] (0,0) _ rfl (by (with_reducible repeat (first|refine a8z ?_ _|refine a9z ?_|refine a7z ?_ _));refine d6z (cs:=#[.int .i64 ji7,.int .i64 0]) ?_ 1 _ rfl;(with_reducible repeat (first|refine a8z ?_ _|refine a9z ?_|refine a7z ?_ _));refine d6z (cs:=#[.int .i64 0,.int .i64 0]) ?_ 0 _ rfl;(with_reducible repeat (first|refine a8z ?_ _|refine a9z ?_|refine a7z ?_ _));exact BK101.1) Try.underlying44 rfl (by kernel_rfl)) rfl ?_
  exact ⟨by first|rfl|(simp [c2z,c1z] <;> rfl)|(simp only [← hji3,← hji5,← hji7];first|rfl|(simp [c2z,c1z] <;> rfl))|(simp [*,c2z,c1z] <;> rfl),by repeat (first|(with_reducible first|exact HB.1|apply a3z|apply a1z|apply a2z|refine a6z ?_ GE101.1)|exact HB.1)⟩
 ·rw [if_neg c4] at H
  exact absurd H (by simp)
end Go.Proofs.Ytmdhedkgpgoneaa.Q

namespace Go.Proofs.Ytmdhedkgpgoneaa.Q
open Go.RowKit Go.Proofs.YtmdhedkgpgoneaaW.PrintWords Go.Proofs.YtmdhedkgpgoneaaW.PrintLast Go.Proofs.YtmdhedkgpgoneaaW.PrintMore
attribute [local go_sem] e4z e2z e7z e6z d8z d7z e3z e1z
set_option linter.unusedVariables false
set_option linter.unusedSimpArgs false
mutual
def impl_span_blocks.l0 : Nat → List (S44) → Int → Int → Int → Option ((List (S44)))
 | 0,_,_,_,_ => none
 | k + 1,x3,x4,x102000,x102001 => if x4 ≤ x102001 then (impl_span_blocks.l1 k x3 x4 32 x102000 x102001) else (some x3)
def impl_span_blocks.l1 : Nat → List (S44) → Int → Int → Int → Int → Option ((List (S44)))
 | 0,_,_,_,_,_ => none
 | k + 1,x3,x4,x5,x102000,x102001 => if x5 > 0 then ((impl_around.f x4 (wrap64 (x5 - 1))).bind fun bt102 => (if bt102.1 = x4 then ((impl_around.f x4 (wrap64 (x5 - 1))).bind fun bt104 => ((impl_Block_last.f bt104.1 bt104.2).bind fun t106 => (if t106 ≤ x102001 then (impl_span_blocks.l1 k x3 x4 (wrap64 (x5 - 1)) x102000 x102001) else ((impl_around.f x4 x5).bind fun bt107 => (if x3.length < 8796093022208 then ((some (x3 ++ [(⟨bt107.1,bt107.2⟩ : S44)] : List (S44))).bind fun y109 => (if 0 ≤ (wrap64 ((y109.length : Int) - 1)) then (if (wrap64 ((y109.length : Int) - 1)) < (y109.length : Int) then ((impl_Block_last.f ((b6z y109 (wrap64 ((y109.length : Int) - 1))).f0) ((b6z y109 (wrap64 ((y109.length : Int) - 1))).f1)).bind fun t113 => (impl_span_blocks.l0 k y109 (wrap64 (t113 + 1)) x102000 x102001)) else (none)) else (none))) else (none)))))) else ((impl_around.f x4 x5).bind fun bt114 => (if x3.length < 8796093022208 then ((some (x3 ++ [(⟨bt114.1,bt114.2⟩ : S44)] : List (S44))).bind fun y116 => (if 0 ≤ (wrap64 ((y116.length : Int) - 1)) then (if (wrap64 ((y116.length : Int) - 1)) < (y116.length : Int) then ((impl_Block_last.f ((b6z y116 (wrap64 ((y116.length : Int) - 1))).f0) ((b6z y116 (wrap64 ((y116.length : Int) - 1))).f1)).bind fun t120 => (impl_span_blocks.l0 k y116 (wrap64 (t120 + 1)) x102000 x102001)) else (none)) else (none))) else (none))))) else ((impl_around.f x4 x5).bind fun bt121 => (if x3.length < 8796093022208 then ((some (x3 ++ [(⟨bt121.1,bt121.2⟩ : S44)] : List (S44))).bind fun y123 => (if 0 ≤ (wrap64 ((y123.length : Int) - 1)) then (if (wrap64 ((y123.length : Int) - 1)) < (y123.length : Int) then ((impl_Block_last.f ((b6z y123 (wrap64 ((y123.length : Int) - 1))).f0) ((b6z y123 (wrap64 ((y123.length : Int) - 1))).f1)).bind fun t127 => (impl_span_blocks.l0 k y123 (wrap64 (t127 + 1)) x102000 x102001)) else (none)) else (none))) else (none)))
end
def impl_span_blocks.f (k : Nat) (a0_0 : Int) (a0_1 : Int) : Option ((List (S44))):=impl_span_blocks.l0 k ([] : List (S44)) a0_0 a0_0 a0_1
def impl_span_blocks.T5 : Bool × List (List Nat × List Nat):=(true,[([],[]),([0],[0]),([1],[1]),([2],[2]),([2],[2]),([4,2],[2,4]),([3,5,2,2],[2,3,5]),([6,2],[2,6]),([2],[2]),([7,8,2],[2,7,8]),([2,9],[2,9]),([10,6],[10]),([11],[11]),([11],[11]),([13,11],[11,13]),([12,14,11,11],[11,12,14]),([15,15,11],[11,15]),([11],[11]),([17,11],[11,17]),([16,18,11],[11,16,18]),([11,19],[11,19])])
def impl_span_blocks.B5 : List Nat:=[0,1,3,7,7,23,63,127,7,511,1023,2047,4095,4095,12287,32767,65535,4095,135167,524287,1048575]
theorem impl_span_blocks.tab5 : rtab .any (opsOf Try.f57 5) = impl_span_blocks.T5:=by kernel_rfl
theorem impl_span_blocks.bits5 : waitsOk impl_span_blocks.T5.2 impl_span_blocks.B5 = true:=by kernel_rfl
set_option maxHeartbeats 8000000 in
set_option maxRecDepth 100000 in
theorem impl_span_blocks.calls (k : Nat) (a0_0 : Int) (a0_1 : Int) (r : List (S44)) (w : World) (h : impl_span_blocks.f k a0_0 a0_1 = some r) :
  Calls Try.prog 57 #[.agg #[.int .i64 a0_0,.int .i64 a0_1]] w fun e w' => ∃ v0_ : Value,e = .returned (v0_) ∧ Kd.R k44 44 w' w.heap.size (fun _ => True) v0_ r ∧ Below w.heap.size w w':=by
 have hu55:=Try.underlying55
 have hu44:=Try.underlying44
 have hfd44_0 : ∀ (e0_ e1_ : Value) (W_ : World),(Instr.field 44 (.agg #[e0_,e1_]) 0).run Try.prog W_ = .ok (e0_) W_:=fun _ _ _ => by kernel_rfl
 have HB:=a0z.mk (Below.refl w.heap.size w)
 have H : (impl_span_blocks.l0 k ([] : List (S44)) a0_0 a0_0 a0_1) = some r:=h
 clear h
 have H':=a0z.mk H
 clear H
 go_enter Try.func57,Try.ntmps57
 go_wp2_with (first|((with_reducible refine d4z (N:=1) rfl ?_);refine e0z ?hg (N:=1) ?hd (cs:=#[.int .i64 a0_0,.int .i64 a0_1]) (t:=55) ?hr ?_;(case hd => rfl);(case hg => rfl);(case hr => first|(go_simp;done)|(go_simp;rfl));intro gb101 hg w2 hbox hb;have n0_:=a0z.mk (b3z (by repeat (first|(with_reducible first|exact HB.1|apply a3z|apply a1z|apply a2z)|exact HB.1)) hb);have n1_:=a0z.mk (hbox);have n2_:=a0z.mk ((by rw [hg];exact (b1z (by repeat (first|(with_reducible first|exact HB.1|apply a3z|apply a1z|apply a2z)|exact HB.1))) : w.heap.size ≤ gb101));have n3_:=a0z.mk ((by rw [hg];exact (b1z (by repeat (first|(with_reducible first|exact HB.1|apply a3z|apply a1z|apply a2z)|exact HB.1))) : w.heap.size ≤ gb101));clear HB;have HB:=n0_;have BK101:=n1_;have GW101:=n2_;have GE101:=n3_;clear n0_ n1_ n2_ n3_;clear hb hbox hg;have hcz3_0 : w2.cell? ⟨gb101,0,none⟩ = some (.int .i64 a0_0):=(b2z BK101.1 0).trans rfl;have hcz3_1 : w2.cell? ⟨gb101,1,none⟩ = some (.int .i64 a0_1):=(b2z BK101.1 1).trans rfl;have hfz3_0:=b7z BK101.1 0;have hfz3_1:=b7z BK101.1 1))
 go_loopg [3,4] k (fun kq v3 v4 w' => ∃ (x3_1 : List (S44)) (x4_1 : Int),v4 = .int .i64 x4_1 ∧ a0z (impl_span_blocks.l0 kq x3_1 x4_1 a0_0 a0_1 = some r) ∧ a0z (kq ≤ k) ∧ a0z (Kd.R k44 44 w' w.heap.size (fun _ => True) v3 x3_1) ∧ a0z (w'.heap[gb101]? = some (.cells #[.int .i64 a0_0,.int .i64 a0_1] 55 (0,0))) ∧ a0z (Below w.heap.size w w'))
 case atStart => exact ⟨(([] : List (S44))),(a0_0),(by first|rfl|(simp;done)|(simp [*];done)),H',⟨Nat.le_refl _⟩,⟨by first|exact Kd.R_nil _ _ _ _ _|exact Kd.N_nil _ _ _ _ _|exact Kd.V_nil _ _ _ _ _|exact Kd.Q_nil _ _ _ _ _|exact Kd.S_nil _ _ _ _ _⟩,⟨by (with_reducible repeat (first|refine a8z ?_ _|refine a9z ?_|refine a7z ?_ _));exact BK101.1⟩,⟨by repeat (first|(with_reducible first|exact HB.1|apply a3z|apply a1z|apply a2z|refine a6z ?_ GE101.1)|exact HB.1)⟩⟩
 case round =>
  clear H'
  try clear p2
  try clear hcz3_0
  try clear hcz3_1
  try clear hfz3_0
  try clear hfz3_1
  obtain ⟨x3_1,x4_1,rfl,HA,HK1,HO_3,BK101,HB⟩:=hrel
  cases gk with
  | zero => exact absurd HA.1 (by simp [impl_span_blocks.l0])
  | succ k1 =>
   have H:=HA.1
   clear HA
   simp only [impl_span_blocks.l0] at H
   by_cases c4 : x4_1 ≤ a0_1
   ·rw [if_pos c4] at H
    have c4b0 : decide (x4_1 ≤ a0_1) = true:=decide_eq_true c4
    clear c4
    have H':=a0z.mk H
    clear H
    have hcz5_0 : wr.cell? ⟨gb101,0,none⟩ = some (.int .i64 a0_0):=(b2z BK101.1 0).trans rfl
    have hcz5_1 : wr.cell? ⟨gb101,1,none⟩ = some (.int .i64 a0_1):=(b2z BK101.1 1).trans rfl
    have hfz5_0:=b7z BK101.1 0
    have hfz5_1:=b7z BK101.1 1
    go_wp2
    go_loopg [5] k1 (fun kq v5 w' => ∃ (x5_2 : Int),v5 = .int .i64 x5_2 ∧ a0z (impl_span_blocks.l1 kq x3_1 x4_1 x5_2 a0_0 a0_1 = some r) ∧ a0z (kq ≤ k1) ∧ a0z (Kd.R k44 44 w' w.heap.size (fun _ => True) u3 x3_1) ∧ a0z (w'.heap[gb101]? = some (.cells #[.int .i64 a0_0,.int .i64 a0_1] 55 (0,0))) ∧ a0z (Below w.heap.size w w'))
    case atStart => exact ⟨(32),(by first|rfl|(simp;done)|(simp [*];done)),H',⟨Nat.le_refl _⟩,⟨by (with_reducible repeat (first|apply Kd.R_alloc|apply Kd.a4z|apply Kd.a5z));exact HO_3.1⟩,⟨by (with_reducible repeat (first|refine a8z ?_ _|refine a9z ?_|refine a7z ?_ _));exact BK101.1⟩,⟨by repeat (first|(with_reducible first|exact HB.1|apply a3z|apply a1z|apply a2z|refine a6z ?_ GE101.1)|exact HB.1)⟩⟩
    case round =>
     clear H'
     try clear p2
     try clear c4
     try clear c4b0
     try clear c5
     try clear hcz3_0
     try clear hcz3_1
     try clear hcz5_0
     try clear hcz5_1
     try clear hfz3_0
     try clear hfz3_1
     try clear hfz5_0
     try clear hfz5_1
     try clear p2
     obtain ⟨x5_2,rfl,HA,HK2,HO_3,BK101,HB⟩:=hrel
     cases gk with
     | zero => exact absurd HA.1 (by simp [impl_span_blocks.l1])
     | succ k2 =>
      have H:=HA.1
      clear HA
      simp only [impl_span_blocks.l1] at H
      by_cases c6 : x5_2 > 0
      ·rw [if_pos c6] at H
       have c6b0 : decide (0 < x5_2) = true:=decide_eq_true c6
       clear c6
       replace H:=Option.bind_eq_some_iff.mp H
       obtain ⟨⟨t102,t103⟩,A70,H⟩:=H
       replace H : (if t102 = x4_1 then ((impl_around.f x4_1 (wrap64 (x5_2 - 1))).bind fun bt104 => ((impl_Block_last.f bt104.1 bt104.2).bind fun t106 => (if t106 ≤ a0_1 then (impl_span_blocks.l1 k2 x3_1 x4_1 (wrap64 (x5_2 - 1)) a0_0 a0_1) else ((impl_around.f x4_1 x5_2).bind fun bt107 => (if x3_1.length < 8796093022208 then ((some (x3_1 ++ [(⟨bt107.1,bt107.2⟩ : S44)] : List (S44))).bind fun y109 => (if 0 ≤ (wrap64 ((y109.length : Int) - 1)) then (if (wrap64 ((y109.length : Int) - 1)) < (y109.length : Int) then ((impl_Block_last.f ((b6z y109 (wrap64 ((y109.length : Int) - 1))).f0) ((b6z y109 (wrap64 ((y109.length : Int) - 1))).f1)).bind fun t113 => (impl_span_blocks.l0 k2 y109 (wrap64 (t113 + 1)) a0_0 a0_1)) else (none)) else (none))) else (none)))))) else ((impl_around.f x4_1 x5_2).bind fun bt114 => (if x3_1.length < 8796093022208 then ((some (x3_1 ++ [(⟨bt114.1,bt114.2⟩ : S44)] : List (S44))).bind fun y116 => (if 0 ≤ (wrap64 ((y116.length : Int) - 1)) then (if (wrap64 ((y116.length : Int) - 1)) < (y116.length : Int) then ((impl_Block_last.f ((b6z y116 (wrap64 ((y116.length : Int) - 1))).f0) ((b6z y116 (wrap64 ((y116.length : Int) - 1))).f1)).bind fun t120 => (impl_span_blocks.l0 k2 y116 (wrap64 (t120 + 1)) a0_0 a0_1)) else (none)) else (none))) else (none)))) = some r:=H
       have A7:=a0z.mk A70
       clear A70
       by_cases c8 : t102 = x4_1
       ·rw [if_pos c8] at H
        have c8b0 : (t102 == x4_1) = true:=beq_iff_eq.mpr c8
        have c8b1 : (t102 != x4_1) = false:=bne_eq_false_iff_eq.mpr c8
        clear c8
        replace H:=Option.bind_eq_some_iff.mp H
        obtain ⟨⟨t104,t105⟩,A90,H⟩:=H
        replace H : ((impl_Block_last.f t104 t105).bind fun t106 => (if t106 ≤ a0_1 then (impl_span_blocks.l1 k2 x3_1 x4_1 (wrap64 (x5_2 - 1)) a0_0 a0_1) else ((impl_around.f x4_1 x5_2).bind fun bt107 => (if x3_1.length < 8796093022208 then ((some (x3_1 ++ [(⟨bt107.1,bt107.2⟩ : S44)] : List (S44))).bind fun y109 => (if 0 ≤ (wrap64 ((y109.length : Int) - 1)) then (if (wrap64 ((y109.length : Int) - 1)) < (y109.length : Int) then ((impl_Block_last.f ((b6z y109 (wrap64 ((y109.length : Int) - 1))).f0) ((b6z y109 (wrap64 ((y109.length : Int) - 1))).f1)).bind fun t113 => (impl_span_blocks.l0 k2 y109 (wrap64 (t113 + 1)) a0_0 a0_1)) else (none)) else (none))) else (none))))) = some r:=H
        have A9:=a0z.mk A90
        clear A90
        replace H:=Option.bind_eq_some_iff.mp H
        obtain ⟨t106,A100,H⟩:=H
        replace H : (if t106 ≤ a0_1 then (impl_span_blocks.l1 k2 x3_1 x4_1 (wrap64 (x5_2 - 1)) a0_0 a0_1) else ((impl_around.f x4_1 x5_2).bind fun bt107 => (if x3_1.length < 8796093022208 then ((some (x3_1 ++ [(⟨bt107.1,bt107.2⟩ : S44)] : List (S44))).bind fun y109 => (if 0 ≤ (wrap64 ((y109.length : Int) - 1)) then (if (wrap64 ((y109.length : Int) - 1)) < (y109.length : Int) then ((impl_Block_last.f ((b6z y109 (wrap64 ((y109.length : Int) - 1))).f0) ((b6z y109 (wrap64 ((y109.length : Int) - 1))).f1)).bind fun t113 => (impl_span_blocks.l0 k2 y109 (wrap64 (t113 + 1)) a0_0 a0_1)) else (none)) else (none))) else (none)))) = some r:=H
        have A10:=a0z.mk A100
        clear A100
        by_cases c11 : t106 ≤ a0_1
        ·rw [if_pos c11] at H
         have c11b0 : decide (t106 ≤ a0_1) = true:=decide_eq_true c11
         clear c11
         have H':=a0z.mk H
         clear H
         try go_wp2
         have n0_:=a0z.mk (Kd.a5z HO_3.1)
         have n1_:=a0z.mk (a9z BK101.1)
         have n2_:=a0z.mk (a2z HB.1)
         clear HO_3
         clear BK101
         clear HB
         have HO_3:=n0_
         have BK101:=n1_
         have HB:=n2_
         clear n0_ n1_ n2_
         refine g9z (n:=21) (S:=fun w' => w'.cell? ⟨gb101,0,none⟩ = some (.int .i64 a0_0) ∧ w'.cell? ⟨gb101,1,none⟩ = some (.int .i64 a0_1)) (ds:=[]) #[false,false,false,false,false,false,false,false,false,false,false,false,false,false,false,false,false,false,false,false,false] (by kernel_rfl) rfl rfl ⟨(b2z BK101.1 0).trans rfl,(b2z BK101.1 1).trans rfl⟩ (fun hHeld => ?_);refine f8z impl_span_blocks.tab5 impl_span_blocks.bits5 (fun HT_ HW_ => ?_)
         generalize wr.drew = w12 at HO_3 BK101 HB hHeld ⊢
         refine pure_ (i:=0) (N:=some 12) (v:=?_) (a':=?_) #[true,false,false,false,false,false,false,false,false,false,false,false,false,false,false,false,false,false,false,false,false] rfl rfl (c0z HT_.1 (by kernel_rfl)) (fun _ _ _ h => h) (Or.inl ⟨by rfl,?_⟩) ?_ ?_
         rotate_left
         ·intro w'
          go_simp
          with_reducible rfl
         rotate_left
         ·simp only [Act.put,sA_,sZ_,sS_,i64_w,i32_w]
          rfl
         refine pure_ (i:=1) (N:=some 13) (v:=?_) (a':=?_) #[true,true,false,false,false,false,false,false,false,false,false,false,false,false,false,false,false,false,false,false,false] rfl rfl (c0z HT_.1 (by kernel_rfl)) (fun _ _ _ h => h) (Or.inl ⟨by rfl,?_⟩) ?_ ?_
         rotate_left
         ·intro w'
          go_simp
          with_reducible rfl
         rotate_left
         ·simp only [Act.put,sA_,sZ_,sS_,i64_w,i32_w]
          rfl
         refine pure_ (i:=2) (N:=some 14) (v:=?_) (a':=?_) #[true,true,true,false,false,false,false,false,false,false,false,false,false,false,false,false,false,false,false,false,false] rfl rfl (c0z HT_.1 (by kernel_rfl)) (fun _ _ _ h => h) (Or.inl ⟨by rfl,?_⟩) ?_ ?_
         rotate_left
         ·intro w'
          go_simp
          with_reducible rfl
         rotate_left
         ·simp only [Act.put,sA_,sZ_,sS_,i64_w,i32_w]
          rfl
         refine pure_ (i:=3) (N:=some 15) (v:=?_) (a':=?_) #[true,true,true,true,false,false,false,false,false,false,false,false,false,false,false,false,false,false,false,false,false] rfl rfl (c0z HT_.1 (by kernel_rfl)) (fun _ _ _ h => h) (Or.inl ⟨by rfl,?_⟩) ?_ ?_
         rotate_left
         ·intro w'
          go_simp
          with_reducible rfl
         rotate_left
         ·simp only [Act.put,sA_,sZ_,sS_,i64_w,i32_w]
          rfl
         refine pure_ (i:=4) (N:=some 16) (v:=?_) (a':=?_) #[true,true,true,true,true,false,false,false,false,false,false,false,false,false,false,false,false,false,false,false,false] rfl rfl (c0z HT_.1 (by kernel_rfl)) (fun _ _ _ h => h) (Or.inl ⟨by rfl,?_⟩) ?_ ?_
         rotate_left
         ·intro w'
          go_simp
          with_reducible rfl
         rotate_left
         ·simp only [Act.put,sA_,sZ_,sS_,i64_w,i32_w]
          rfl
         refine pure_ (i:=5) (N:=some 17) (v:=?_) (a':=?_) #[true,true,true,true,true,true,false,false,false,false,false,false,false,false,false,false,false,false,false,false,false] rfl rfl (c0z HT_.1 (by kernel_rfl)) (fun _ _ _ h => h) (Or.inl ⟨by rfl,?_⟩) ?_ ?_
         rotate_left
         ·intro w'
          go_simp
          with_reducible rfl
         rotate_left
         ·simp only [Act.put,sA_,sZ_,sS_,i64_w,i32_w]
          rfl
         refine pure_ (i:=8) (N:=some 20) (v:=?_) (a':=?_) #[true,true,true,true,true,true,false,false,true,false,false,false,false,false,false,false,false,false,false,false,false] rfl rfl (c0z HT_.1 (by kernel_rfl)) (fun _ _ _ h => h) (Or.inl ⟨by rfl,?_⟩) ?_ ?_
         rotate_left
         ·intro w'
          go_simp
          with_reducible rfl
         rotate_left
         ·simp only [Act.put,sA_,sZ_,sS_,i64_w,i32_w]
          rfl
         refine one_ (i:=6) (N:=some 18) #[true,true,true,true,true,true,true,false,true,false,false,false,false,false,false,false,false,false,false,false,false] rfl rfl (f9z HT_.1 (by kernel_rfl)) (by decide) (fun K hK => ?_)
         refine goes_ Try.func73 (by kernel_rfl) rfl #[.int .i64 x4_1,.int .i64 (wrap64 (x5_2 - 1))] (by rfl) rfl rfl (by (try simp only [List.map_toArray,List.map_cons,List.map_nil]);first|done|rfl|(simp only [List.length_drop,List.length_take];rfl)) ?_
         with_reducible refine (impl_around.calls x4_1 (wrap64 (x5_2 - 1)) t102 t103 _ A7.1).mono ?_
         rintro e w13 ⟨rfl,hb⟩
         refine ⟨_,rfl,?_⟩
         have n0_:=a0z.mk (Kd.c3z (by (with_reducible repeat (first|apply Kd.R_alloc|apply Kd.a4z|apply Kd.a5z));exact HO_3.1) hb)
         have n1_:=a0z.mk (d9z (g:=gb101) (o:=.cells #[.int .i64 a0_0,.int .i64 a0_1] 55 (0,0)) (by (with_reducible repeat (first|refine a8z ?_ _|refine a9z ?_|refine a7z ?_ _));exact BK101.1) hb)
         have n2_:=a0z.mk (b3z (by repeat (first|(with_reducible first|exact HB.1|apply a3z|apply a1z|apply a2z|refine a6z ?_ GE101.1)|exact HB.1)) hb)
         clear HO_3
         clear BK101
         clear HB
         have HO_3:=n0_
         have BK101:=n1_
         have HB:=n2_
         clear n0_ n1_ n2_
         (try clear hb)
         (try clear hb2)
         (try clear hk)
         (try clear hi)
         refine hK.out _ _ ⟨(b2z BK101.1 0).trans rfl,(b2z BK101.1 1).trans rfl⟩ (fun hHeld => ?_)
         clear hK K
         refine norm_ (a':=?_) ?_ ?_
         rotate_left
         ·show Act.put _ (some 18) _ = _
          simp only [Act.put,sA_,sZ_,sS_,i64_w,i32_w]
          rfl
         refine pure_ (i:=7) (N:=some 19) (v:=?_) (a':=?_) #[true,true,true,true,true,true,true,true,true,false,false,false,false,false,false,false,false,false,false,false,false] rfl rfl (c0z HT_.1 (by kernel_rfl)) (fun _ _ _ h => h) (Or.inl ⟨by rfl,?_⟩) ?_ ?_
         rotate_left
         ·intro w'
          go_simp
          with_reducible rfl
         rotate_left
         ·simp only [Act.put,sA_,sZ_,sS_,i64_w,i32_w]
          rfl
         refine pure_ (i:=9) (N:=some 21) (v:=?_) (a':=?_) #[true,true,true,true,true,true,true,true,true,true,false,false,false,false,false,false,false,false,false,false,false] rfl rfl (c0z HT_.1 (by kernel_rfl)) (fun _ _ _ h => h) (Or.inl ⟨by rfl,?_⟩) ?_ ?_
         rotate_left
         ·intro w'
          go_simp
          with_reducible rfl
         rotate_left
         ·simp only [Act.put,sA_,sZ_,sS_,i64_w,i32_w]
          rfl
         refine pure_ (i:=10) (N:=some 22) (v:=?_) (a':=?_) #[true,true,true,true,true,true,true,true,true,true,true,false,false,false,false,false,false,false,false,false,false] rfl rfl (c0z HT_.1 (by kernel_rfl)) (fun _ _ _ h => h) (Or.inl ⟨by rfl,?_⟩) ?_ ?_
         rotate_left
         ·intro w'
          go_simp
          with_reducible rfl
         rotate_left
         ·simp only [Act.put,sA_,sZ_,sS_,i64_w,i32_w]
          rfl
         refine pure_ (i:=11) (N:=some 23) (v:=?_) (a':=?_) #[true,true,true,true,true,true,true,true,true,true,true,true,false,false,false,false,false,false,false,false,false] rfl rfl (c0z HT_.1 (by kernel_rfl)) (fun _ _ _ h => h) (Or.inl ⟨by rfl,?_⟩) ?_ ?_
         rotate_left
         ·intro w'
          go_simp
          with_reducible rfl
         rotate_left
         ·simp only [Act.put,sA_,sZ_,sS_,i64_w,i32_w]
          rfl
         refine pure_ (i:=12) (N:=some 24) (v:=?_) (a':=?_) #[true,true,true,true,true,true,true,true,true,true,true,true,true,false,false,false,false,false,false,false,false] rfl rfl (c0z HT_.1 (by kernel_rfl)) (fun _ _ _ h => h) (Or.inl ⟨by rfl,?_⟩) ?_ ?_
         rotate_left
         ·intro w'
          go_simp
          with_reducible rfl
         rotate_left
         ·simp only [Act.put,sA_,sZ_,sS_,i64_w,i32_w]
          rfl
         refine pure_ (i:=13) (N:=some 25) (v:=?_) (a':=?_) #[true,true,true,true,true,true,true,true,true,true,true,true,true,true,false,false,false,false,false,false,false] rfl rfl (c0z HT_.1 (by kernel_rfl)) (fun _ _ _ h => h) (Or.inl ⟨by rfl,?_⟩) ?_ ?_
         rotate_left
         ·intro w'
          go_simp
          with_reducible rfl
         rotate_left
         ·simp only [Act.put,sA_,sZ_,sS_,i64_w,i32_w]
          rfl
         refine pure_ (i:=14) (N:=some 26) (v:=?_) (a':=?_) #[true,true,true,true,true,true,true,true,true,true,true,true,true,true,true,false,false,false,false,false,false] rfl rfl (c0z HT_.1 (by kernel_rfl)) (fun _ _ _ h => h) (Or.inl ⟨by rfl,?_⟩) ?_ ?_
         rotate_left
         ·intro w'
          go_simp
          with_reducible rfl
         rotate_left
         ·simp only [Act.put,sA_,sZ_,sS_,i64_w,i32_w]
          rfl
         refine pure_ (i:=17) (N:=some 29) (v:=?_) (a':=?_) #[true,true,true,true,true,true,true,true,true,true,true,true,true,true,true,false,false,true,false,false,false] rfl rfl (c0z HT_.1 (by kernel_rfl)) (fun _ _ _ h => h) (Or.inl ⟨by rfl,?_⟩) ?_ ?_
         rotate_left
         ·intro w'
          go_simp
          with_reducible rfl
         rotate_left
         ·simp only [Act.put,sA_,sZ_,sS_,i64_w,i32_w]
          rfl
         refine take_ (i:=18) (N:=some 30) (v:=?_) (a':=?_) #[true,true,true,true,true,true,true,true,true,true,true,true,true,true,true,false,false,true,true,false,false] rfl rfl (f3z HT_.1 HW_.1 (by kernel_rfl)) (fun _ _ _ h => h) (Or.inl ⟨by rfl,?_⟩) hHeld ?_ ?_
         rotate_left
         ·rintro w' ⟨s0,s1⟩
          go_simp
          with_reducible rfl
         rotate_left
         ·simp only [Act.put,sA_,sZ_,sS_,i64_w,i32_w]
          rfl
         refine one_ (i:=15) (N:=some 27) #[true,true,true,true,true,true,true,true,true,true,true,true,true,true,true,true,false,true,true,false,false] rfl rfl (f9z HT_.1 (by kernel_rfl)) (by decide) (fun K hK => ?_)
         refine goes_ Try.func73 (by kernel_rfl) rfl #[.int .i64 x4_1,.int .i64 (wrap64 (x5_2 - 1))] (by rfl) rfl rfl (by (try simp only [List.map_toArray,List.map_cons,List.map_nil]);first|done|rfl|(simp only [List.length_drop,List.length_take];rfl)) ?_
         with_reducible refine (impl_around.calls x4_1 (wrap64 (x5_2 - 1)) t104 t105 _ A9.1).mono ?_
         rintro e w14 ⟨rfl,hb⟩
         refine ⟨_,rfl,?_⟩
         have n0_:=a0z.mk (Kd.c3z (by (with_reducible repeat (first|apply Kd.R_alloc|apply Kd.a4z|apply Kd.a5z));exact HO_3.1) hb)
         have n1_:=a0z.mk (d9z (g:=gb101) (o:=.cells #[.int .i64 a0_0,.int .i64 a0_1] 55 (0,0)) (by (with_reducible repeat (first|refine a8z ?_ _|refine a9z ?_|refine a7z ?_ _));exact BK101.1) hb)
         have n2_:=a0z.mk (b3z (by repeat (first|(with_reducible first|exact HB.1|apply a3z|apply a1z|apply a2z|refine a6z ?_ GE101.1)|exact HB.1)) hb)
         clear HO_3
         clear BK101
         clear HB
         have HO_3:=n0_
         have BK101:=n1_
         have HB:=n2_
         clear n0_ n1_ n2_
         (try clear hb)
         (try clear hb2)
         (try clear hk)
         (try clear hi)
         refine hK.out _ _ ⟨(b2z BK101.1 0).trans rfl,(b2z BK101.1 1).trans rfl⟩ (fun hHeld => ?_)
         clear hK K
         refine norm_ (a':=?_) ?_ ?_
         rotate_left
         ·show Act.put _ (some 27) _ = _
          simp only [Act.put,sA_,sZ_,sS_,i64_w,i32_w]
          rfl
         refine one_ (i:=16) (N:=some 28) #[true,true,true,true,true,true,true,true,true,true,true,true,true,true,true,true,true,true,true,false,false] rfl rfl (f9z HT_.1 (by kernel_rfl)) (by decide) (fun K hK => ?_)
         refine goes_ Try.func58 (by kernel_rfl) rfl #[.agg #[.int .i64 t104,.int .i64 t105]] (by rfl) rfl rfl (by (try simp only [List.map_toArray,List.map_cons,List.map_nil]);first|done|rfl|(simp only [List.length_drop,List.length_take];rfl)) ?_
         with_reducible refine (impl_Block_last.calls t104 t105 t106 _ A10.1).mono ?_
         rintro e w15 ⟨rfl,hb⟩
         refine ⟨_,rfl,?_⟩
         have n0_:=a0z.mk (Kd.c3z (by (with_reducible repeat (first|apply Kd.R_alloc|apply Kd.a4z|apply Kd.a5z));exact HO_3.1) hb)
         have n1_:=a0z.mk (d9z (g:=gb101) (o:=.cells #[.int .i64 a0_0,.int .i64 a0_1] 55 (0,0)) (by (with_reducible repeat (first|refine a8z ?_ _|refine a9z ?_|refine a7z ?_ _));exact BK101.1) hb)
         have n2_:=a0z.mk (b3z (by repeat (first|(with_reducible first|exact HB.1|apply a3z|apply a1z|apply a2z|refine a6z ?_ GE101.1)|exact HB.1)) hb)
         clear HO_3
         clear BK101
         clear HB
         have HO_3:=n0_
         have BK101:=n1_
         have HB:=n2_
         clear n0_ n1_ n2_
         (try clear hb)
         (try clear hb2)
         (try clear hk)
         (try clear hi)
         refine hK.out _ _ ⟨(b2z BK101.1 0).trans rfl,(b2z BK101.1 1).trans rfl⟩ (fun hHeld => ?_)
         clear hK K
         refine norm_ (a':=?_) ?_ ?_
         rotate_left
         ·show Act.put _ (some 28) _ = _
          simp only [Act.put,sA_,sZ_,sS_,i64_w,i32_w]
          rfl
         refine pure_ (i:=19) (N:=some 31) (v:=?_) (a':=?_) #[true,true,true,true,true,true,true,true,true,true,true,true,true,true,true,true,true,true,true,true,false] rfl rfl (c0z HT_.1 (by kernel_rfl)) (fun _ _ _ h => h) (Or.inl ⟨by rfl,?_⟩) ?_ ?_
         rotate_left
         ·intro w'
          go_simp
          with_reducible rfl
         rotate_left
         ·simp only [Act.put,sA_,sZ_,sS_,i64_w,i32_w]
          rfl
         refine pure_ (i:=20) (N:=some 32) (v:=?_) (a':=?_) #[true,true,true,true,true,true,true,true,true,true,true,true,true,true,true,true,true,true,true,true,true] rfl rfl (c0z HT_.1 (by kernel_rfl)) (fun _ _ _ h => h) (Or.inl ⟨by rfl,?_⟩) ?_ ?_
         rotate_left
         ·intro w'
          go_simp
          with_reducible rfl
         rotate_left
         ·simp only [Act.put,sA_,sZ_,sS_,i64_w,i32_w]
          rfl
         refine done_ (g5z HT_.1 (by kernel_rfl)) ?_
         try go_wp2
         go_roundg k2
         case measure => have:=HK1.1;have:=HK2.1;omega
         case rel => exact ⟨(wrap64 (x5_2 - 1)),(by first|rfl|(simp;done)|(simp [*];done)),H',⟨by have:=HK1.1;have:=HK2.1;omega⟩,⟨by (with_reducible repeat (first|apply Kd.R_alloc|apply Kd.a4z|apply Kd.a5z));exact HO_3.1⟩,⟨by (with_reducible repeat (first|refine a8z ?_ _|refine a9z ?_|refine a7z ?_ _));exact BK101.1⟩,⟨by repeat (first|(with_reducible first|exact HB.1|apply a3z|apply a1z|apply a2z|refine a6z ?_ GE101.1)|exact HB.1)⟩⟩
        ·rw [if_neg c11] at H
         have c11b0 : decide (t106 ≤ a0_1) = false:=decide_eq_false c11
         clear c11
         replace H:=Option.bind_eq_some_iff.mp H
         obtain ⟨⟨t107,t108⟩,A160,H⟩:=H
         replace H : (if x3_1.length < 8796093022208 then ((some (x3_1 ++ [(⟨t107,t108⟩ : S44)] : List (S44))).bind fun y109 => (if 0 ≤ (wrap64 ((y109.length : Int) - 1)) then (if (wrap64 ((y109.length : Int) - 1)) < (y109.length : Int) then ((impl_Block_last.f ((b6z y109 (wrap64 ((y109.length : Int) - 1))).f0) ((b6z y109 (wrap64 ((y109.length : Int) - 1))).f1)).bind fun t113 => (impl_span_blocks.l0 k2 y109 (wrap64 (t113 + 1)) a0_0 a0_1)) else (none)) else (none))) else (none)) = some r:=H
         have A16:=a0z.mk A160
         clear A160
         by_cases c17 : x3_1.length < 8796093022208
         ·rw [if_pos c17] at H
          have LMc17:=a0z.mk c17
          clear c17
          obtain ⟨y109,hy109⟩ : ∃ y_ : List (S44),y_ = (x3_1 ++ [(⟨t107,t108⟩ : S44)]):=⟨_,rfl⟩
          replace H : (if 0 ≤ (wrap64 ((y109.length : Int) - 1)) then (if (wrap64 ((y109.length : Int) - 1)) < (y109.length : Int) then ((impl_Block_last.f ((b6z y109 (wrap64 ((y109.length : Int) - 1))).f0) ((b6z y109 (wrap64 ((y109.length : Int) - 1))).f1)).bind fun t113 => (impl_span_blocks.l0 k2 y109 (wrap64 (t113 + 1)) a0_0 a0_1)) else (none)) else (none)) = some r:=by first|(rw [hy109];with_reducible exact H)|(have H2_:=(Option.bind_some _ _).symm.trans H;rw [hy109];with_reducible exact H2_)|(have H2_:=(Option.bind_some _ _).symm.trans H;with_reducible exact H2_)|with_reducible exact H|(rw [hy109];exact H)|exact H
          have Ny109:=a0z.mk hy109
          clear hy109
          obtain ⟨ji18,hji18⟩ : ∃ j_ : Int,(wrap64 ((y109.length : Int) - 1)) = j_:=⟨_,rfl⟩
          replace H : (if 0 ≤ (ji18) then (if (ji18) < (y109.length : Int) then ((impl_Block_last.f ((b6z y109 (ji18)).f0) ((b6z y109 (ji18)).f1)).bind fun t113 => (impl_span_blocks.l0 k2 y109 (wrap64 (t113 + 1)) a0_0 a0_1)) else (none)) else (none)) = some r:=by first|(rw [hji18] at H;exact H)|(simp only [hji18] at H ⊢;exact H)
          (try rw [hji18] at A7)
          (try rw [hji18] at A9)
          (try rw [hji18] at A10)
          (try rw [hji18] at A16)
          have hji18w : (IntKind.i64.wrap ((y109.length : Int) - 1)) = ji18:=(i64_w _).trans hji18
          by_cases c19 : 0 ≤ (ji18)
          ·rw [if_pos c19] at H
           have c19b0 : decide (0 ≤ (ji18)) = true:=decide_eq_true c19
           clear c19
           by_cases c20 : (ji18) < (y109.length : Int)
           ·rw [if_pos c20] at H
            have c20b0 : decide ((ji18) < (y109.length : Int)) = true:=decide_eq_true c20
            clear c20
            replace H:=Option.bind_eq_some_iff.mp H
            obtain ⟨t113,A210,H⟩:=H
            replace H : (impl_span_blocks.l0 k2 y109 (wrap64 (t113 + 1)) a0_0 a0_1) = some r:=H
            have A21:=a0z.mk A210
            clear A210
            have H':=a0z.mk H
            clear H
            try go_wp2
            have n0_:=a0z.mk (Kd.a5z HO_3.1)
            have n1_:=a0z.mk (a9z BK101.1)
            have n2_:=a0z.mk (a2z HB.1)
            clear HO_3
            clear BK101
            clear HB
            have HO_3:=n0_
            have BK101:=n1_
            have HB:=n2_
            clear n0_ n1_ n2_
            refine g9z (n:=21) (S:=fun w' => w'.cell? ⟨gb101,0,none⟩ = some (.int .i64 a0_0) ∧ w'.cell? ⟨gb101,1,none⟩ = some (.int .i64 a0_1)) (ds:=[]) #[false,false,false,false,false,false,false,false,false,false,false,false,false,false,false,false,false,false,false,false,false] (by kernel_rfl) rfl rfl ⟨(b2z BK101.1 0).trans rfl,(b2z BK101.1 1).trans rfl⟩ (fun hHeld => ?_);refine f8z impl_span_blocks.tab5 impl_span_blocks.bits5 (fun HT_ HW_ => ?_)
            generalize wr.drew = w22 at HO_3 BK101 HB hHeld ⊢
            refine pure_ (i:=0) (N:=some 12) (v:=?_) (a':=?_) #[true,false,false,false,false,false,false,false,false,false,false,false,false,false,false,false,false,false,false,false,false] rfl rfl (c0z HT_.1 (by kernel_rfl)) (fun _ _ _ h => h) (Or.inl ⟨by rfl,?_⟩) ?_ ?_
            rotate_left
            ·intro w'
             go_simp
             with_reducible rfl
            rotate_left
            ·simp only [Act.put,sA_,sZ_,sS_,i64_w,i32_w]
             rfl
            refine pure_ (i:=1) (N:=some 13) (v:=?_) (a':=?_) #[true,true,false,false,false,false,false,false,false,false,false,false,false,false,false,false,false,false,false,false,false] rfl rfl (c0z HT_.1 (by kernel_rfl)) (fun _ _ _ h => h) (Or.inl ⟨by rfl,?_⟩) ?_ ?_
            rotate_left
            ·intro w'
             go_simp
             with_reducible rfl
            rotate_left
            ·simp only [Act.put,sA_,sZ_,sS_,i64_w,i32_w]
             rfl
            refine pure_ (i:=2) (N:=some 14) (v:=?_) (a':=?_) #[true,true,true,false,false,false,false,false,false,false,false,false,false,false,false,false,false,false,false,false,false] rfl rfl (c0z HT_.1 (by kernel_rfl)) (fun _ _ _ h => h) (Or.inl ⟨by rfl,?_⟩) ?_ ?_
            rotate_left
            ·intro w'
             go_simp
             with_reducible rfl
            rotate_left
            ·simp only [Act.put,sA_,sZ_,sS_,i64_w,i32_w]
             rfl
            refine pure_ (i:=3) (N:=some 15) (v:=?_) (a':=?_) #[true,true,true,true,false,false,false,false,false,false,false,false,false,false,false,false,false,false,false,false,false] rfl rfl (c0z HT_.1 (by kernel_rfl)) (fun _ _ _ h => h) (Or.inl ⟨by rfl,?_⟩) ?_ ?_
            rotate_left
            ·intro w'
             go_simp
             with_reducible rfl
            rotate_left
            ·simp only [Act.put,sA_,sZ_,sS_,i64_w,i32_w]
             rfl
            refine pure_ (i:=4) (N:=some 16) (v:=?_) (a':=?_) #[true,true,true,true,true,false,false,false,false,false,false,false,false,false,false,false,false,false,false,false,false] rfl rfl (c0z HT_.1 (by kernel_rfl)) (fun _ _ _ h => h) (Or.inl ⟨by rfl,?_⟩) ?_ ?_
            rotate_left
            ·intro w'
             go_simp
             with_reducible rfl
            rotate_left
            ·simp only [Act.put,sA_,sZ_,sS_,i64_w,i32_w]
             rfl
            refine pure_ (i:=5) (N:=some 17) (v:=?_) (a':=?_) #[true,true,true,true,true,true,false,false,false,false,false,false,false,false,false,false,false,false,false,false,false] rfl rfl (c0z HT_.1 (by kernel_rfl)) (fun _ _ _ h => h) (Or.inl ⟨by rfl,?_⟩) ?_ ?_
            rotate_left
            ·intro w'
             go_simp
             with_reducible rfl
            rotate_left
            ·simp only [Act.put,sA_,sZ_,sS_,i64_w,i32_w]
             rfl
            refine pure_ (i:=8) (N:=some 20) (v:=?_) (a':=?_) #[true,true,true,true,true,true,false,false,true,false,false,false,false,false,false,false,false,false,false,false,false] rfl rfl (c0z HT_.1 (by kernel_rfl)) (fun _ _ _ h => h) (Or.inl ⟨by rfl,?_⟩) ?_ ?_
            rotate_left
            ·intro w'
             go_simp
             with_reducible rfl
            rotate_left
            ·simp only [Act.put,sA_,sZ_,sS_,i64_w,i32_w]
             rfl
            refine one_ (i:=6) (N:=some 18) #[true,true,true,true,true,true,true,false,true,false,false,false,false,false,false,false,false,false,false,false,false] rfl rfl (f9z HT_.1 (by kernel_rfl)) (by decide) (fun K hK => ?_)
            refine goes_ Try.func73 (by kernel_rfl) rfl #[.int .i64 x4_1,.int .i64 (wrap64 (x5_2 - 1))] (by rfl) rfl rfl (by (try simp only [List.map_toArray,List.map_cons,List.map_nil]);first|done|rfl|(simp only [List.length_drop,List.length_take];rfl)) ?_
            with_reducible refine (impl_around.calls x4_1 (wrap64 (x5_2 - 1)) t102 t103 _ A7.1).mono ?_
            rintro e w23 ⟨rfl,hb⟩
            refine ⟨_,rfl,?_⟩
            have n0_:=a0z.mk (Kd.c3z (by (with_reducible repeat (first|apply Kd.R_alloc|apply Kd.a4z|apply Kd.a5z));exact HO_3.1) hb)
            have n1_:=a0z.mk (d9z (g:=gb101) (o:=.cells #[.int .i64 a0_0,.int .i64 a0_1] 55 (0,0)) (by (with_reducible repeat (first|refine a8z ?_ _|refine a9z ?_|refine a7z ?_ _));exact BK101.1) hb)
            have n2_:=a0z.mk (b3z (by repeat (first|(with_reducible first|exact HB.1|apply a3z|apply a1z|apply a2z|refine a6z ?_ GE101.1)|exact HB.1)) hb)
            clear HO_3
            clear BK101
            clear HB
            have HO_3:=n0_
            have BK101:=n1_
            have HB:=n2_
            clear n0_ n1_ n2_
            (try clear hb)
            (try clear hb2)
            (try clear hk)
            (try clear hi)
            refine hK.out _ _ ⟨(b2z BK101.1 0).trans rfl,(b2z BK101.1 1).trans rfl⟩ (fun hHeld => ?_)
            clear hK K
            refine norm_ (a':=?_) ?_ ?_
            rotate_left
            ·show Act.put _ (some 18) _ = _
             simp only [Act.put,sA_,sZ_,sS_,i64_w,i32_w]
             rfl
            refine pure_ (i:=7) (N:=some 19) (v:=?_) (a':=?_) #[true,true,true,true,true,true,true,true,true,false,false,false,false,false,false,false,false,false,false,false,false] rfl rfl (c0z HT_.1 (by kernel_rfl)) (fun _ _ _ h => h) (Or.inl ⟨by rfl,?_⟩) ?_ ?_
            rotate_left
            ·intro w'
             go_simp
             with_reducible rfl
            rotate_left
            ·simp only [Act.put,sA_,sZ_,sS_,i64_w,i32_w]
             rfl
            refine pure_ (i:=9) (N:=some 21) (v:=?_) (a':=?_) #[true,true,true,true,true,true,true,true,true,true,false,false,false,false,false,false,false,false,false,false,false] rfl rfl (c0z HT_.1 (by kernel_rfl)) (fun _ _ _ h => h) (Or.inl ⟨by rfl,?_⟩) ?_ ?_
            rotate_left
            ·intro w'
             go_simp
             with_reducible rfl
            rotate_left
            ·simp only [Act.put,sA_,sZ_,sS_,i64_w,i32_w]
             rfl
            refine pure_ (i:=10) (N:=some 22) (v:=?_) (a':=?_) #[true,true,true,true,true,true,true,true,true,true,true,false,false,false,false,false,false,false,false,false,false] rfl rfl (c0z HT_.1 (by kernel_rfl)) (fun _ _ _ h => h) (Or.inl ⟨by rfl,?_⟩) ?_ ?_
            rotate_left
            ·intro w'
             go_simp
             with_reducible rfl
            rotate_left
            ·simp only [Act.put,sA_,sZ_,sS_,i64_w,i32_w]
             rfl
            refine pure_ (i:=11) (N:=some 23) (v:=?_) (a':=?_) #[true,true,true,true,true,true,true,true,true,true,true,true,false,false,false,false,false,false,false,false,false] rfl rfl (c0z HT_.1 (by kernel_rfl)) (fun _ _ _ h => h) (Or.inl ⟨by rfl,?_⟩) ?_ ?_
            rotate_left
            ·intro w'
             go_simp
             with_reducible rfl
            rotate_left
            ·simp only [Act.put,sA_,sZ_,sS_,i64_w,i32_w]
             rfl
            refine pure_ (i:=12) (N:=some 24) (v:=?_) (a':=?_) #[true,true,true,true,true,true,true,true,true,true,true,true,true,false,false,false,false,false,false,false,false] rfl rfl (c0z HT_.1 (by kernel_rfl)) (fun _ _ _ h => h) (Or.inl ⟨by rfl,?_⟩) ?_ ?_
            rotate_left
            ·intro w'
             go_simp
             with_reducible rfl
            rotate_left
            ·simp only [Act.put,sA_,sZ_,sS_,i64_w,i32_w]
             rfl
            refine pure_ (i:=13) (N:=some 25) (v:=?_) (a':=?_) #[true,true,true,true,true,true,true,true,true,true,true,true,true,true,false,false,false,false,false,false,false] rfl rfl (c0z HT_.1 (by kernel_rfl)) (fun _ _ _ h => h) (Or.inl ⟨by rfl,?_⟩) ?_ ?_
            rotate_left
            ·intro w'
             go_simp
             with_reducible rfl
            rotate_left
            ·simp only [Act.put,sA_,sZ_,sS_,i64_w,i32_w]
             rfl
            refine pure_ (i:=14) (N:=some 26) (v:=?_) (a':=?_) #[true,true,true,true,true,true,true,true,true,true,true,true,true,true,true,false,false,false,false,false,false] rfl rfl (c0z HT_.1 (by kernel_rfl)) (fun _ _ _ h => h) (Or.inl ⟨by rfl,?_⟩) ?_ ?_
            rotate_left
            ·intro w'
             go_simp
             with_reducible rfl
            rotate_left
            ·simp only [Act.put,sA_,sZ_,sS_,i64_w,i32_w]
             rfl
            refine pure_ (i:=17) (N:=some 29) (v:=?_) (a':=?_) #[true,true,true,true,true,true,true,true,true,true,true,true,true,true,true,false,false,true,false,false,false] rfl rfl (c0z HT_.1 (by kernel_rfl)) (fun _ _ _ h => h) (Or.inl ⟨by rfl,?_⟩) ?_ ?_
            rotate_left
            ·intro w'
             go_simp
             with_reducible rfl
            rotate_left
            ·simp only [Act.put,sA_,sZ_,sS_,i64_w,i32_w]
             rfl
            refine take_ (i:=18) (N:=some 30) (v:=?_) (a':=?_) #[true,true,true,true,true,true,true,true,true,true,true,true,true,true,true,false,false,true,true,false,false] rfl rfl (f3z HT_.1 HW_.1 (by kernel_rfl)) (fun _ _ _ h => h) (Or.inl ⟨by rfl,?_⟩) hHeld ?_ ?_
            rotate_left
            ·rintro w' ⟨s0,s1⟩
             go_simp
             with_reducible rfl
            rotate_left
            ·simp only [Act.put,sA_,sZ_,sS_,i64_w,i32_w]
             rfl
            refine one_ (i:=15) (N:=some 27) #[true,true,true,true,true,true,true,true,true,true,true,true,true,true,true,true,false,true,true,false,false] rfl rfl (f9z HT_.1 (by kernel_rfl)) (by decide) (fun K hK => ?_)
            refine goes_ Try.func73 (by kernel_rfl) rfl #[.int .i64 x4_1,.int .i64 (wrap64 (x5_2 - 1))] (by rfl) rfl rfl (by (try simp only [List.map_toArray,List.map_cons,List.map_nil]);first|done|rfl|(simp only [List.length_drop,List.length_take];rfl)) ?_
            with_reducible refine (impl_around.calls x4_1 (wrap64 (x5_2 - 1)) t104 t105 _ A9.1).mono ?_
            rintro e w24 ⟨rfl,hb⟩
            refine ⟨_,rfl,?_⟩
            have n0_:=a0z.mk (Kd.c3z (by (with_reducible repeat (first|apply Kd.R_alloc|apply Kd.a4z|apply Kd.a5z));exact HO_3.1) hb)
            have n1_:=a0z.mk (d9z (g:=gb101) (o:=.cells #[.int .i64 a0_0,.int .i64 a0_1] 55 (0,0)) (by (with_reducible repeat (first|refine a8z ?_ _|refine a9z ?_|refine a7z ?_ _));exact BK101.1) hb)
            have n2_:=a0z.mk (b3z (by repeat (first|(with_reducible first|exact HB.1|apply a3z|apply a1z|apply a2z|refine a6z ?_ GE101.1)|exact HB.1)) hb)
            clear HO_3
            clear BK101
            clear HB
            have HO_3:=n0_
            have BK101:=n1_
            have HB:=n2_
            clear n0_ n1_ n2_
            (try clear hb)
            (try clear hb2)
            (try clear hk)
            (try clear hi)
            refine hK.out _ _ ⟨(b2z BK101.1 0).trans rfl,(b2z BK101.1 1).trans rfl⟩ (fun hHeld => ?_)
            clear hK K
            refine norm_ (a':=?_) ?_ ?_
            rotate_left
            ·show Act.put _ (some 27) _ = _
             simp only [Act.put,sA_,sZ_,sS_,i64_w,i32_w]
             rfl
            refine one_ (i:=16) (N:=some 28) #[true,true,true,true,true,true,true,true,true,true,true,true,true,true,true,true,true,true,true,false,false] rfl rfl (f9z HT_.1 (by kernel_rfl)) (by decide) (fun K hK => ?_)
            refine goes_ Try.func58 (by kernel_rfl) rfl #[.agg #[.int .i64 t104,.int .i64 t105]] (by rfl) rfl rfl (by (try simp only [List.map_toArray,List.map_cons,List.map_nil]);first|done|rfl|(simp only [List.length_drop,List.length_take];rfl)) ?_
            with_reducible refine (impl_Block_last.calls t104 t105 t106 _ A10.1).mono ?_
            rintro e w25 ⟨rfl,hb⟩
            refine ⟨_,rfl,?_⟩
            have n0_:=a0z.mk (Kd.c3z (by (with_reducible repeat (first|apply Kd.R_alloc|apply Kd.a4z|apply Kd.a5z));exact HO_3.1) hb)
            have n1_:=a0z.mk (d9z (g:=gb101) (o:=.cells #[.int .i64 a0_0,.int .i64 a0_1] 55 (0,0)) (by (with_reducible repeat (first|refine a8z ?_ _|refine a9z ?_|refine a7z ?_ _));exact BK101.1) hb)
            have n2_:=a0z.mk (b3z (by repeat (first|(with_reducible first|exact HB.1|apply a3z|apply a1z|apply a2z|refine a6z ?_ GE101.1)|exact HB.1)) hb)
            clear HO_3
            clear BK101
            clear HB
            have HO_3:=n0_
            have BK101:=n1_
            have HB:=n2_
            clear n0_ n1_ n2_
            (try clear hb)
            (try clear hb2)
            (try clear hk)
            (try clear hi)
            refine hK.out _ _ ⟨(b2z BK101.1 0).trans rfl,(b2z BK101.1 1).trans rfl⟩ (fun hHeld => ?_)
            clear hK K
            refine norm_ (a':=?_) ?_ ?_
            rotate_left
            ·show Act.put _ (some 28) _ = _
             simp only [Act.put,sA_,sZ_,sS_,i64_w,i32_w]
             rfl
            refine pure_ (i:=19) (N:=some 31) (v:=?_) (a':=?_) #[true,true,true,true,true,true,true,true,true,true,true,true,true,true,true,true,true,true,true,true,false] rfl rfl (c0z HT_.1 (by kernel_rfl)) (fun _ _ _ h => h) (Or.inl ⟨by rfl,?_⟩) ?_ ?_
            rotate_left
            ·intro w'
             go_simp
             with_reducible rfl
            rotate_left
            ·simp only [Act.put,sA_,sZ_,sS_,i64_w,i32_w]
             rfl
            refine pure_ (i:=20) (N:=some 32) (v:=?_) (a':=?_) #[true,true,true,true,true,true,true,true,true,true,true,true,true,true,true,true,true,true,true,true,true] rfl rfl (c0z HT_.1 (by kernel_rfl)) (fun _ _ _ h => h) (Or.inl ⟨by rfl,?_⟩) ?_ ?_
            rotate_left
            ·intro w'
             go_simp
             with_reducible rfl
            rotate_left
            ·simp only [Act.put,sA_,sZ_,sS_,i64_w,i32_w]
             rfl
            refine done_ (g5z HT_.1 (by kernel_rfl)) ?_
            try go_wp2_with (first|((with_reducible refine b8z (f:=73) rfl ?_);refine d2z (some 38) rfl rfl Try.func73 (by kernel_rfl) rfl #[.int .i64 x4_1,.int .i64 x5_2] rfl (by (try simp only [List.map_toArray,List.map_cons,List.map_nil]);first|done|rfl|(simp only [List.length_drop,List.length_take];rfl)) ?_;(with_reducible refine (impl_around.calls x4_1 x5_2 t107 t108 _ A16.1).mono ?_);rintro e w26 ⟨rfl,hb⟩;refine ⟨_,rfl,?_⟩;have n0_:=a0z.mk (Kd.c3z (by (with_reducible repeat (first|apply Kd.R_alloc|apply Kd.a4z|apply Kd.a5z));exact HO_3.1) hb);have n1_:=a0z.mk (d9z (g:=gb101) (o:=.cells #[.int .i64 a0_0,.int .i64 a0_1] 55 (0,0)) (by (with_reducible repeat (first|refine a8z ?_ _|refine a9z ?_|refine a7z ?_ _));exact BK101.1) hb);have n2_:=a0z.mk (b3z (by repeat (first|(with_reducible first|exact HB.1|apply a3z|apply a1z|apply a2z|refine a6z ?_ GE101.1)|exact HB.1)) hb);clear HO_3;clear BK101;clear HB;have HO_3:=n0_;have BK101:=n1_;have HB:=n2_;clear n0_ n1_ n2_;(try clear hb);(try clear hb2);(try clear hk);(try clear hi))|((with_reducible refine e5z (b:=.append) (xs:=#[.tmp 35,.tmp 39]) rfl ?_);at_builtin;refine Kd.g6z k44 (w0:=w) w.heap.size rfl (.tmp 35) (.tmp 39) 25 44 (.agg #[(.int .i64 0),(.int .i64 0)]) 16 rfl Try.underlying25 info44 rfl (by decide) (by omega) u3 x3_1 (⟨t107,t108⟩ : S44) [.int .i64 t107,.int .i64 t108] (fun _ => True) (fun _ => False) rfl rfl ?aP (fun _ hk => hk.elim) ?aF ?aO ?aB ?aS ?aL ?_;(case aP => exact k44_mkM _ _ _ (⟨t107,t108⟩ : S44));(case aB => exact (by repeat (first|(with_reducible first|exact HB.1|apply a3z|apply a1z|apply a2z|refine a6z ?_ GE101.1)|exact HB.1)));(case aF => exact (fun _ _ => trivial));(case aO => exact (by (with_reducible repeat (first|apply Kd.R_alloc|apply Kd.a4z|apply Kd.a5z));exact HO_3.1));(case aS => exact (b1z (by repeat (first|(with_reducible first|exact HB.1|apply a3z|apply a1z|apply a2z|refine a6z ?_ GE101.1)|exact HB.1))));(case aL => have:=LMc17.1;omega);intro v110 w27 ho hb hg hat;rw [← Ny109.1] at ho;have n0_:=a0z.mk (f0z (g:=gb101) (o:=.cells #[.int .i64 a0_0,.int .i64 a0_1] 55 (0,0)) (by (with_reducible repeat (first|refine a8z ?_ _|refine a9z ?_|refine a7z ?_ _));exact BK101.1) hg (Kd.R_ne HO_3.1 BK101.1 (by decide)));have n1_:=a0z.mk (hb);have n2_:=a0z.mk (ho);clear BK101;clear HB;clear HO_3;have BK101:=n0_;have HB:=n1_;have HO111:=n2_;clear n0_ n1_ n2_;clear ho hb hg hat;obtain ⟨Ao28,co28,eo28⟩:=Kd.d3z HO111.1;subst eo28;have p112 : 0 ≤ ((ji18) : Int):=of_decide_eq_true (by first|(with_reducible assumption)|assumption);have q112 : (ji18) < (y109.length : Int):=of_decide_eq_true (by first|(with_reducible assumption)|assumption);obtain ⟨ad112,e112,hx112_0,hx112_1⟩:=h2z (Kd.b4z HO111.1).2.2 (ji18) p112 q112;cases e112;replace p112:=eq_true p112;replace q112:=eq_true q112)|((with_reducible refine b8z (f:=58) rfl ?_);refine d2z (some 47) rfl rfl Try.func58 (by kernel_rfl) rfl #[.agg #[.int .i64 ((b6z y109 (ji18)).f0),.int .i64 ((b6z y109 (ji18)).f1)]] rfl (by (try simp only [List.map_toArray,List.map_cons,List.map_nil]);first|done|(simp only [hji18];rfl)|rfl|(simp only [List.length_drop,List.length_take];rfl)) ?_;(with_reducible refine (impl_Block_last.calls ((b6z y109 (ji18)).f0) ((b6z y109 (ji18)).f1) t113 _ A21.1).mono ?_);rintro e w29 ⟨rfl,hb⟩;refine ⟨_,rfl,?_⟩;have n0_:=a0z.mk (Kd.c3z (by (with_reducible repeat (first|apply Kd.R_alloc|apply Kd.a4z|apply Kd.a5z));exact HO111.1) hb);have n1_:=a0z.mk (d9z (g:=gb101) (o:=.cells #[.int .i64 a0_0,.int .i64 a0_1] 55 (0,0)) (by (with_reducible repeat (first|refine a8z ?_ _|refine a9z ?_|refine a7z ?_ _));exact BK101.1) hb);have n2_:=a0z.mk (b3z (by repeat (first|(with_reducible first|exact HB.1|apply a3z|apply a1z|apply a2z|refine a6z ?_ GE101.1)|exact HB.1)) hb);clear HO111;clear BK101;clear HB;have HO111:=n0_;have BK101:=n1_;have HB:=n2_;clear n0_ n1_ n2_;(try clear hb);(try clear hb2);(try clear hk);(try clear hi)))
            go_roundg k2
            case measure => have:=HK1.1;have:=HK2.1;omega
            case rel => exact ⟨(y109),(wrap64 (t113 + 1)),(by first|rfl|(simp;done)|(simp [*];done)),H',⟨by have:=HK1.1;have:=HK2.1;omega⟩,⟨by (with_reducible repeat (first|apply Kd.R_alloc|apply Kd.a4z|apply Kd.a5z));exact HO111.1⟩,⟨by (with_reducible repeat (first|refine a8z ?_ _|refine a9z ?_|refine a7z ?_ _));exact BK101.1⟩,⟨by repeat (first|(with_reducible first|exact HB.1|apply a3z|apply a1z|apply a2z|refine a6z ?_ GE101.1)|exact HB.1)⟩⟩
           ·rw [if_neg c20] at H
            exact absurd H (by simp)
          ·rw [if_neg c19] at H
           exact absurd H (by simp)
         ·rw [if_neg c17] at H
          exact absurd H (by simp)
       ·rw [if_neg c8] at H
        have c8b0 : (t102 == x4_1) = false:=beq_eq_false_iff_ne.mpr c8
        have c8b1 : (t102 != x4_1) = true:=bne_iff_ne.mpr c8
        replace H:=Option.bind_eq_some_iff.mp H
        obtain ⟨⟨t114,t115⟩,A300,H⟩:=H
        replace H : (if x3_1.length < 8796093022208 then ((some (x3_1 ++ [(⟨t114,t115⟩ : S44)] : List (S44))).bind fun y116 => (if 0 ≤ (wrap64 ((y116.length : Int) - 1)) then (if (wrap64 ((y116.length : Int) - 1)) < (y116.length : Int) then ((impl_Block_last.f ((b6z y116 (wrap64 ((y116.length : Int) - 1))).f0) ((b6z y116 (wrap64 ((y116.length : Int) - 1))).f1)).bind fun t120 => (impl_span_blocks.l0 k2 y116 (wrap64 (t120 + 1)) a0_0 a0_1)) else (none)) else (none))) else (none)) = some r:=H
        have A30:=a0z.mk A300
        clear A300
        by_cases c31 : x3_1.length < 8796093022208
        ·rw [if_pos c31] at H
         have LMc31:=a0z.mk c31
         clear c31
         obtain ⟨y116,hy116⟩ : ∃ y_ : List (S44),y_ = (x3_1 ++ [(⟨t114,t115⟩ : S44)]):=⟨_,rfl⟩
         replace H : (if 0 ≤ (wrap64 ((y116.length : Int) - 1)) then (if (wrap64 ((y116.length : Int) - 1)) < (y116.length : Int) then ((impl_Block_last.f ((b6z y116 (wrap64 ((y116.length : Int) - 1))).f0) ((b6z y116 (wrap64 ((y116.length : Int) - 1))).f1)).bind fun t120 => (impl_span_blocks.l0 k2 y116 (wrap64 (t120 + 1)) a0_0 a0_1)) else (none)) else (none)) = some r:=by first|(rw [hy116];with_reducible exact H)|(have H2_:=(Option.bind_some _ _).symm.trans H;rw [hy116];with_reducible exact H2_)|(have H2_:=(Option.bind_some _ _).symm.trans H;with_reducible exact H2_)|with_reducible exact H|(rw [hy116];exact H)|exact H
         have Ny116:=a0z.mk hy116
         clear hy116
         obtain ⟨ji32,hji32⟩ : ∃ j_ : Int,(wrap64 ((y116.length : Int) - 1)) = j_:=⟨_,rfl⟩
         replace H : (if 0 ≤ (ji32) then (if (ji32) < (y116.length : Int) then ((impl_Block_last.f ((b6z y116 (ji32)).f0) ((b6z y116 (ji32)).f1)).bind fun t120 => (impl_span_blocks.l0 k2 y116 (wrap64 (t120 + 1)) a0_0 a0_1)) else (none)) else (none)) = some r:=by first|(rw [hji32] at H;exact H)|(simp only [hji32] at H ⊢;exact H)
         (try rw [hji32] at A7)
         (try rw [hji32] at A30)
         have hji32w : (IntKind.i64.wrap ((y116.length : Int) - 1)) = ji32:=(i64_w _).trans hji32
         by_cases c33 : 0 ≤ (ji32)
         ·rw [if_pos c33] at H
          have c33b0 : decide (0 ≤ (ji32)) = true:=decide_eq_true c33
          clear c33
          by_cases c34 : (ji32) < (y116.length : Int)
          ·rw [if_pos c34] at H
           have c34b0 : decide ((ji32) < (y116.length : Int)) = true:=decide_eq_true c34
           clear c34
           replace H:=Option.bind_eq_some_iff.mp H
           obtain ⟨t120,A350,H⟩:=H
           replace H : (impl_span_blocks.l0 k2 y116 (wrap64 (t120 + 1)) a0_0 a0_1) = some r:=H
           have A35:=a0z.mk A350
           clear A350
           have H':=a0z.mk H
           clear H
           try go_wp2
           have n0_:=a0z.mk (Kd.a5z HO_3.1)
           have n1_:=a0z.mk (a9z BK101.1)
           have n2_:=a0z.mk (a2z HB.1)
           clear HO_3
           clear BK101
           clear HB
           have HO_3:=n0_
           have BK101:=n1_
           have HB:=n2_
           clear n0_ n1_ n2_
           refine g9z (n:=21) (S:=fun w' => True) (ds:=[]) #[false,false,false,false,false,false,false,false,false,false,false,false,false,false,false,false,false,false,false,false,false] (by kernel_rfl) rfl rfl trivial (fun hHeld => ?_);refine f8z impl_span_blocks.tab5 impl_span_blocks.bits5 (fun HT_ HW_ => ?_)
           generalize wr.drew = w36 at HO_3 BK101 HB hHeld ⊢
           refine pure_ (i:=0) (N:=some 12) (v:=?_) (a':=?_) #[true,false,false,false,false,false,false,false,false,false,false,false,false,false,false,false,false,false,false,false,false] rfl rfl (c0z HT_.1 (by kernel_rfl)) (fun _ _ _ h => h) (Or.inl ⟨by rfl,?_⟩) ?_ ?_
           rotate_left
           ·intro w'
            go_simp
            with_reducible rfl
           rotate_left
           ·simp only [Act.put,sA_,sZ_,sS_,i64_w,i32_w]
            rfl
           refine pure_ (i:=1) (N:=some 13) (v:=?_) (a':=?_) #[true,true,false,false,false,false,false,false,false,false,false,false,false,false,false,false,false,false,false,false,false] rfl rfl (c0z HT_.1 (by kernel_rfl)) (fun _ _ _ h => h) (Or.inl ⟨by rfl,?_⟩) ?_ ?_
           rotate_left
           ·intro w'
            go_simp
            with_reducible rfl
           rotate_left
           ·simp only [Act.put,sA_,sZ_,sS_,i64_w,i32_w]
            rfl
           refine pure_ (i:=2) (N:=some 14) (v:=?_) (a':=?_) #[true,true,true,false,false,false,false,false,false,false,false,false,false,false,false,false,false,false,false,false,false] rfl rfl (c0z HT_.1 (by kernel_rfl)) (fun _ _ _ h => h) (Or.inl ⟨by rfl,?_⟩) ?_ ?_
           rotate_left
           ·intro w'
            go_simp
            with_reducible rfl
           rotate_left
           ·simp only [Act.put,sA_,sZ_,sS_,i64_w,i32_w]
            rfl
           refine pure_ (i:=3) (N:=some 15) (v:=?_) (a':=?_) #[true,true,true,true,false,false,false,false,false,false,false,false,false,false,false,false,false,false,false,false,false] rfl rfl (c0z HT_.1 (by kernel_rfl)) (fun _ _ _ h => h) (Or.inl ⟨by rfl,?_⟩) ?_ ?_
           rotate_left
           ·intro w'
            go_simp
            with_reducible rfl
           rotate_left
           ·simp only [Act.put,sA_,sZ_,sS_,i64_w,i32_w]
            rfl
           refine pure_ (i:=4) (N:=some 16) (v:=?_) (a':=?_) #[true,true,true,true,true,false,false,false,false,false,false,false,false,false,false,false,false,false,false,false,false] rfl rfl (c0z HT_.1 (by kernel_rfl)) (fun _ _ _ h => h) (Or.inl ⟨by rfl,?_⟩) ?_ ?_
           rotate_left
           ·intro w'
            go_simp
            with_reducible rfl
           rotate_left
           ·simp only [Act.put,sA_,sZ_,sS_,i64_w,i32_w]
            rfl
           refine pure_ (i:=5) (N:=some 17) (v:=?_) (a':=?_) #[true,true,true,true,true,true,false,false,false,false,false,false,false,false,false,false,false,false,false,false,false] rfl rfl (c0z HT_.1 (by kernel_rfl)) (fun _ _ _ h => h) (Or.inl ⟨by rfl,?_⟩) ?_ ?_
           rotate_left
           ·intro w'
            go_simp
            with_reducible rfl
           rotate_left
           ·simp only [Act.put,sA_,sZ_,sS_,i64_w,i32_w]
            rfl
           refine pure_ (i:=8) (N:=some 20) (v:=?_) (a':=?_) #[true,true,true,true,true,true,false,false,true,false,false,false,false,false,false,false,false,false,false,false,false] rfl rfl (c0z HT_.1 (by kernel_rfl)) (fun _ _ _ h => h) (Or.inl ⟨by rfl,?_⟩) ?_ ?_
           rotate_left
           ·intro w'
            go_simp
            with_reducible rfl
           rotate_left
           ·simp only [Act.put,sA_,sZ_,sS_,i64_w,i32_w]
            rfl
           refine one_ (i:=6) (N:=some 18) #[true,true,true,true,true,true,true,false,true,false,false,false,false,false,false,false,false,false,false,false,false] rfl rfl (f9z HT_.1 (by kernel_rfl)) (by decide) (fun K hK => ?_)
           refine goes_ Try.func73 (by kernel_rfl) rfl #[.int .i64 x4_1,.int .i64 (wrap64 (x5_2 - 1))] (by rfl) rfl rfl (by (try simp only [List.map_toArray,List.map_cons,List.map_nil]);first|done|rfl|(simp only [List.length_drop,List.length_take];rfl)) ?_
           with_reducible refine (impl_around.calls x4_1 (wrap64 (x5_2 - 1)) t102 t103 _ A7.1).mono ?_
           rintro e w37 ⟨rfl,hb⟩
           refine ⟨_,rfl,?_⟩
           have n0_:=a0z.mk (Kd.c3z (by (with_reducible repeat (first|apply Kd.R_alloc|apply Kd.a4z|apply Kd.a5z));exact HO_3.1) hb)
           have n1_:=a0z.mk (d9z (g:=gb101) (o:=.cells #[.int .i64 a0_0,.int .i64 a0_1] 55 (0,0)) (by (with_reducible repeat (first|refine a8z ?_ _|refine a9z ?_|refine a7z ?_ _));exact BK101.1) hb)
           have n2_:=a0z.mk (b3z (by repeat (first|(with_reducible first|exact HB.1|apply a3z|apply a1z|apply a2z|refine a6z ?_ GE101.1)|exact HB.1)) hb)
           clear HO_3
           clear BK101
           clear HB
           have HO_3:=n0_
           have BK101:=n1_
           have HB:=n2_
           clear n0_ n1_ n2_
           (try clear hb)
           (try clear hb2)
           (try clear hk)
           (try clear hi)
           refine hK.out _ _ trivial (fun hHeld => ?_)
           clear hK K
           refine norm_ (a':=?_) ?_ ?_
           rotate_left
           ·show Act.put _ (some 18) _ = _
            simp only [Act.put,sA_,sZ_,sS_,i64_w,i32_w]
            rfl
           refine pure_ (i:=7) (N:=some 19) (v:=?_) (a':=?_) #[true,true,true,true,true,true,true,true,true,false,false,false,false,false,false,false,false,false,false,false,false] rfl rfl (c0z HT_.1 (by kernel_rfl)) (fun _ _ _ h => h) (Or.inl ⟨by rfl,?_⟩) ?_ ?_
           rotate_left
           ·intro w'
            go_simp
            with_reducible rfl
           rotate_left
           ·simp only [Act.put,sA_,sZ_,sS_,i64_w,i32_w]
            rfl
           refine pure_ (i:=9) (N:=some 21) (v:=?_) (a':=?_) #[true,true,true,true,true,true,true,true,true,true,false,false,false,false,false,false,false,false,false,false,false] rfl rfl (c0z HT_.1 (by kernel_rfl)) (fun _ _ _ h => h) (Or.inl ⟨by rfl,?_⟩) ?_ ?_
           rotate_left
           ·intro w'
            go_simp
            with_reducible rfl
           rotate_left
           ·simp only [Act.put,sA_,sZ_,sS_,i64_w,i32_w]
            rfl
           refine pure_ (i:=10) (N:=some 22) (v:=?_) (a':=?_) #[true,true,true,true,true,true,true,true,true,true,true,false,false,false,false,false,false,false,false,false,false] rfl rfl (c0z HT_.1 (by kernel_rfl)) (fun _ _ _ h => h) (Or.inl ⟨by rfl,?_⟩) ?_ ?_
           rotate_left
           ·intro w'
            go_simp
            with_reducible rfl
           rotate_left
           ·simp only [Act.put,sA_,sZ_,sS_,i64_w,i32_w]
            rfl
           refine pure_ (i:=11) (N:=some 23) (v:=?_) (a':=?_) #[true,true,true,true,true,true,true,true,true,true,true,true,false,false,false,false,false,false,false,false,false] rfl rfl (c0z HT_.1 (by kernel_rfl)) (fun _ _ _ h => h) (Or.inl ⟨by rfl,?_⟩) ?_ ?_
           rotate_left
           ·intro w'
            go_simp
            with_reducible rfl
           rotate_left
           ·simp only [Act.put,sA_,sZ_,sS_,i64_w,i32_w]
            rfl
           refine pure_ (i:=12) (N:=some 24) (v:=undef) (a':=?_) #[true,true,true,true,true,true,true,true,true,true,true,true,true,false,false,false,false,false,false,false,false] rfl rfl (c0z HT_.1 (by kernel_rfl)) (fun _ _ _ h => h) (Or.inr ⟨by rfl,rfl⟩) ?_ ?_
           rotate_left
           ·simp only [Act.put,sA_,sZ_,sS_,i64_w,i32_w]
            rfl
           refine pure_ (i:=13) (N:=some 25) (v:=undef) (a':=?_) #[true,true,true,true,true,true,true,true,true,true,true,true,true,true,false,false,false,false,false,false,false] rfl rfl (c0z HT_.1 (by kernel_rfl)) (fun _ _ _ h => h) (Or.inr ⟨by rfl,rfl⟩) ?_ ?_
           rotate_left
           ·simp only [Act.put,sA_,sZ_,sS_,i64_w,i32_w]
            rfl
           refine pure_ (i:=14) (N:=some 26) (v:=undef) (a':=?_) #[true,true,true,true,true,true,true,true,true,true,true,true,true,true,true,false,false,false,false,false,false] rfl rfl (c0z HT_.1 (by kernel_rfl)) (fun _ _ _ h => h) (Or.inr ⟨by rfl,rfl⟩) ?_ ?_
           rotate_left
           ·simp only [Act.put,sA_,sZ_,sS_,i64_w,i32_w]
            rfl
           refine pure_ (i:=15) (N:=some 27) (v:=undef) (a':=?_) #[true,true,true,true,true,true,true,true,true,true,true,true,true,true,true,true,false,false,false,false,false] rfl rfl (c0z HT_.1 (by kernel_rfl)) (fun _ _ _ h => h) (Or.inr ⟨by rfl,rfl⟩) ?_ ?_
           rotate_left
           ·simp only [Act.put,sA_,sZ_,sS_,i64_w,i32_w]
            rfl
           refine pure_ (i:=16) (N:=some 28) (v:=undef) (a':=?_) #[true,true,true,true,true,true,true,true,true,true,true,true,true,true,true,true,true,false,false,false,false] rfl rfl (c0z HT_.1 (by kernel_rfl)) (fun _ _ _ h => h) (Or.inr ⟨by rfl,rfl⟩) ?_ ?_
           rotate_left
           ·simp only [Act.put,sA_,sZ_,sS_,i64_w,i32_w]
            rfl
           refine pure_ (i:=17) (N:=some 29) (v:=undef) (a':=?_) #[true,true,true,true,true,true,true,true,true,true,true,true,true,true,true,true,true,true,false,false,false] rfl rfl (c0z HT_.1 (by kernel_rfl)) (fun _ _ _ h => h) (Or.inr ⟨by rfl,rfl⟩) ?_ ?_
           rotate_left
           ·simp only [Act.put,sA_,sZ_,sS_,i64_w,i32_w]
            rfl
           refine pure_ (i:=18) (N:=some 30) (v:=undef) (a':=?_) #[true,true,true,true,true,true,true,true,true,true,true,true,true,true,true,true,true,true,true,false,false] rfl rfl (c0z HT_.1 (by kernel_rfl)) (fun _ _ _ h => h) (Or.inr ⟨by rfl,rfl⟩) ?_ ?_
           rotate_left
           ·simp only [Act.put,sA_,sZ_,sS_,i64_w,i32_w]
            rfl
           refine pure_ (i:=19) (N:=some 31) (v:=undef) (a':=?_) #[true,true,true,true,true,true,true,true,true,true,true,true,true,true,true,true,true,true,true,true,false] rfl rfl (c0z HT_.1 (by kernel_rfl)) (fun _ _ _ h => h) (Or.inr ⟨by rfl,rfl⟩) ?_ ?_
           rotate_left
           ·simp only [Act.put,sA_,sZ_,sS_,i64_w,i32_w]
            rfl
           refine pure_ (i:=20) (N:=some 32) (v:=?_) (a':=?_) #[true,true,true,true,true,true,true,true,true,true,true,true,true,true,true,true,true,true,true,true,true] rfl rfl (c0z HT_.1 (by kernel_rfl)) (fun _ _ _ h => h) (Or.inl ⟨by rfl,?_⟩) ?_ ?_
           rotate_left
           ·intro w'
            go_simp
            with_reducible rfl
           rotate_left
           ·simp only [Act.put,sA_,sZ_,sS_,i64_w,i32_w]
            rfl
           refine done_ (g5z HT_.1 (by kernel_rfl)) ?_
           try go_wp2_with (first|((with_reducible refine b8z (f:=73) rfl ?_);refine d2z (some 38) rfl rfl Try.func73 (by kernel_rfl) rfl #[.int .i64 x4_1,.int .i64 x5_2] rfl (by (try simp only [List.map_toArray,List.map_cons,List.map_nil]);first|done|rfl|(simp only [List.length_drop,List.length_take];rfl)) ?_;(with_reducible refine (impl_around.calls x4_1 x5_2 t114 t115 _ A30.1).mono ?_);rintro e w38 ⟨rfl,hb⟩;refine ⟨_,rfl,?_⟩;have n0_:=a0z.mk (Kd.c3z (by (with_reducible repeat (first|apply Kd.R_alloc|apply Kd.a4z|apply Kd.a5z));exact HO_3.1) hb);have n1_:=a0z.mk (d9z (g:=gb101) (o:=.cells #[.int .i64 a0_0,.int .i64 a0_1] 55 (0,0)) (by (with_reducible repeat (first|refine a8z ?_ _|refine a9z ?_|refine a7z ?_ _));exact BK101.1) hb);have n2_:=a0z.mk (b3z (by repeat (first|(with_reducible first|exact HB.1|apply a3z|apply a1z|apply a2z|refine a6z ?_ GE101.1)|exact HB.1)) hb);clear HO_3;clear BK101;clear HB;have HO_3:=n0_;have BK101:=n1_;have HB:=n2_;clear n0_ n1_ n2_;(try clear hb);(try clear hb2);(try clear hk);(try clear hi))|((with_reducible refine e5z (b:=.append) (xs:=#[.tmp 35,.tmp 39]) rfl ?_);at_builtin;refine Kd.g6z k44 (w0:=w) w.heap.size rfl (.tmp 35) (.tmp 39) 25 44 (.agg #[(.int .i64 0),(.int .i64 0)]) 16 rfl Try.underlying25 info44 rfl (by decide) (by omega) u3 x3_1 (⟨t114,t115⟩ : S44) [.int .i64 t114,.int .i64 t115] (fun _ => True) (fun _ => False) rfl rfl ?aP (fun _ hk => hk.elim) ?aF ?aO ?aB ?aS ?aL ?_;(case aP => exact k44_mkM _ _ _ (⟨t114,t115⟩ : S44));(case aB => exact (by repeat (first|(with_reducible first|exact HB.1|apply a3z|apply a1z|apply a2z|refine a6z ?_ GE101.1)|exact HB.1)));(case aF => exact (fun _ _ => trivial));(case aO => exact (by (with_reducible repeat (first|apply Kd.R_alloc|apply Kd.a4z|apply Kd.a5z));exact HO_3.1));(case aS => exact (b1z (by repeat (first|(with_reducible first|exact HB.1|apply a3z|apply a1z|apply a2z|refine a6z ?_ GE101.1)|exact HB.1))));(case aL => have:=LMc31.1;omega);intro v117 w39 ho hb hg hat;rw [← Ny116.1] at ho;have n0_:=a0z.mk (f0z (g:=gb101) (o:=.cells #[.int .i64 a0_0,.int .i64 a0_1] 55 (0,0)) (by (with_reducible repeat (first|refine a8z ?_ _|refine a9z ?_|refine a7z ?_ _));exact BK101.1) hg (Kd.R_ne HO_3.1 BK101.1 (by decide)));have n1_:=a0z.mk (hb);have n2_:=a0z.mk (ho);clear BK101;clear HB;clear HO_3;have BK101:=n0_;have HB:=n1_;have HO118:=n2_;clear n0_ n1_ n2_;clear ho hb hg hat;obtain ⟨Ao40,co40,eo40⟩:=Kd.d3z HO118.1;subst eo40;have p119 : 0 ≤ ((ji32) : Int):=of_decide_eq_true (by first|(with_reducible assumption)|assumption);have q119 : (ji32) < (y116.length : Int):=of_decide_eq_true (by first|(with_reducible assumption)|assumption);obtain ⟨ad119,e119,hx119_0,hx119_1⟩:=h2z (Kd.b4z HO118.1).2.2 (ji32) p119 q119;cases e119;replace p119:=eq_true p119;replace q119:=eq_true q119)|((with_reducible refine b8z (f:=58) rfl ?_);refine d2z (some 47) rfl rfl Try.func58 (by kernel_rfl) rfl #[.agg #[.int .i64 ((b6z y116 (ji32)).f0),.int .i64 ((b6z y116 (ji32)).f1)]] rfl (by (try simp only [List.map_toArray,List.map_cons,List.map_nil]);first|done|(simp only [hji32];rfl)|rfl|(simp only [List.length_drop,List.length_take];rfl)) ?_;(with_reducible refine (impl_Block_last.calls ((b6z y116 (ji32)).f0) ((b6z y116 (ji32)).f1) t120 _ A35.1).mono ?_);rintro e w41 ⟨rfl,hb⟩;refine ⟨_,rfl,?_⟩;have n0_:=a0z.mk (Kd.c3z (by (with_reducible repeat (first|apply Kd.R_alloc|apply Kd.a4z|apply Kd.a5z));exact HO118.1) hb);have n1_:=a0z.mk (d9z (g:=gb101) (o:=.cells #[.int .i64 a0_0,.int .i64 a0_1] 55 (0,0)) (by (with_reducible repeat (first|refine a8z ?_ _|refine a9z ?_|refine a7z ?_ _));exact BK101.1) hb);have n2_:=a0z.mk (b3z (by repeat (first|(with_reducible first|exact HB.1|apply a3z|apply a1z|apply a2z|refine a6z ?_ GE101.1)|exact HB.1)) hb);clear HO118;clear BK101;clear HB;have HO118:=n0_;have BK101:=n1_;have HB:=n2_;clear n0_ n1_ n2_;(try clear hb);(try clear hb2);(try clear hk);(try clear hi)))
           go_roundg k2
           case measure => have:=HK1.1;have:=HK2.1;omega
           case rel => exact ⟨(y116),(wrap64 (t120 + 1)),(by first|rfl|(simp;done)|(simp [*];done)),H',⟨by have:=HK1.1;have:=HK2.1;omega⟩,⟨by (with_reducible repeat (first|apply Kd.R_alloc|apply Kd.a4z|apply Kd.a5z));exact HO118.1⟩,⟨by (with_reducible repeat (first|refine a8z ?_ _|refine a9z ?_|refine a7z ?_ _));exact BK101.1⟩,⟨by repeat (first|(with_reducible first|exact HB.1|apply a3z|apply a1z|apply a2z|refine a6z ?_ GE101.1)|exact HB.1)⟩⟩
          ·rw [if_neg c34] at H
           exact absurd H (by simp)
         ·rw [if_neg c33] at H
          exact absurd H (by simp)
        ·rw [if_neg c31] at H
         exact absurd H (by simp)
      ·rw [if_neg c6] at H
       have c6b0 : decide (0 < x5_2) = false:=decide_eq_false c6
       clear c6
       replace H:=Option.bind_eq_some_iff.mp H
       obtain ⟨⟨t121,t122⟩,A420,H⟩:=H
       replace H : (if x3_1.length < 8796093022208 then ((some (x3_1 ++ [(⟨t121,t122⟩ : S44)] : List (S44))).bind fun y123 => (if 0 ≤ (wrap64 ((y123.length : Int) - 1)) then (if (wrap64 ((y123.length : Int) - 1)) < (y123.length : Int) then ((impl_Block_last.f ((b6z y123 (wrap64 ((y123.length : Int) - 1))).f0) ((b6z y123 (wrap64 ((y123.length : Int) - 1))).f1)).bind fun t127 => (impl_span_blocks.l0 k2 y123 (wrap64 (t127 + 1)) a0_0 a0_1)) else (none)) else (none))) else (none)) = some r:=H
       have A42:=a0z.mk A420
       clear A420
       by_cases c43 : x3_1.length < 8796093022208
       ·rw [if_pos c43] at H
        have LMc43:=a0z.mk c43
        clear c43
        obtain ⟨y123,hy123⟩ : ∃ y_ : List (S44),y_ = (x3_1 ++ [(⟨t121,t122⟩ : S44)]):=⟨_,rfl⟩
        replace H : (if 0 ≤ (wrap64 ((y123.length : Int) - 1)) then (if (wrap64 ((y123.length : Int) - 1)) < (y123.length : Int) then ((impl_Block_last.f ((b6z y123 (wrap64 ((y123.length : Int) - 1))).f0) ((b6z y123 (wrap64 ((y123.length : Int) - 1))).f1)).bind fun t127 => (impl_span_blocks.l0 k2 y123 (wrap64 (t127 + 1)) a0_0 a0_1)) else (none)) else (none)) = some r:=by first|(rw [hy123];with_reducible exact H)|(have H2_:=(Option.bind_some _ _).symm.trans H;rw [hy123];with_reducible exact H2_)|(have H2_:=(Option.bind_some _ _).symm.trans H;with_reducible exact H2_)|with_reducible exact H|(rw [hy123];exact H)|exact H
        have Ny123:=a0z.mk hy123
        clear hy123
        obtain ⟨ji44,hji44⟩ : ∃ j_ : Int,(wrap64 ((y123.length : Int) - 1)) = j_:=⟨_,rfl⟩
        replace H : (if 0 ≤ (ji44) then (if (ji44) < (y123.length : Int) then ((impl_Block_last.f ((b6z y123 (ji44)).f0) ((b6z y123 (ji44)).f1)).bind fun t127 => (impl_span_blocks.l0 k2 y123 (wrap64 (t127 + 1)) a0_0 a0_1)) else (none)) else (none)) = some r:=by first|(rw [hji44] at H;exact H)|(simp only [hji44] at H ⊢;exact H)
        (try rw [hji44] at A42)
        have hji44w : (IntKind.i64.wrap ((y123.length : Int) - 1)) = ji44:=(i64_w _).trans hji44
        by_cases c45 : 0 ≤ (ji44)
        ·rw [if_pos c45] at H
         have c45b0 : decide (0 ≤ (ji44)) = true:=decide_eq_true c45
         clear c45
         by_cases c46 : (ji44) < (y123.length : Int)
         ·rw [if_pos c46] at H
          have c46b0 : decide ((ji44) < (y123.length : Int)) = true:=decide_eq_true c46
          clear c46
          replace H:=Option.bind_eq_some_iff.mp H
          obtain ⟨t127,A470,H⟩:=H
          replace H : (impl_span_blocks.l0 k2 y123 (wrap64 (t127 + 1)) a0_0 a0_1) = some r:=H
          have A47:=a0z.mk A470
          clear A470
          have H':=a0z.mk H
          clear H
          try go_wp2
          have n0_:=a0z.mk (Kd.a5z HO_3.1)
          have n1_:=a0z.mk (a9z BK101.1)
          have n2_:=a0z.mk (a2z HB.1)
          clear HO_3
          clear BK101
          clear HB
          have HO_3:=n0_
          have BK101:=n1_
          have HB:=n2_
          clear n0_ n1_ n2_
          refine g9z (n:=21) (S:=fun w' => True) (ds:=[]) #[false,false,false,false,false,false,false,false,false,false,false,false,false,false,false,false,false,false,false,false,false] (by kernel_rfl) rfl rfl trivial (fun hHeld => ?_);refine f8z impl_span_blocks.tab5 impl_span_blocks.bits5 (fun HT_ HW_ => ?_)
          generalize wr.drew = w48 at HO_3 BK101 HB hHeld ⊢
          refine pure_ (i:=0) (N:=some 12) (v:=?_) (a':=?_) #[true,false,false,false,false,false,false,false,false,false,false,false,false,false,false,false,false,false,false,false,false] rfl rfl (c0z HT_.1 (by kernel_rfl)) (fun _ _ _ h => h) (Or.inl ⟨by rfl,?_⟩) ?_ ?_
          rotate_left
          ·intro w'
           go_simp
           with_reducible rfl
          rotate_left
          ·simp only [Act.put,sA_,sZ_,sS_,i64_w,i32_w]
           rfl
          refine pure_ (i:=1) (N:=some 13) (v:=?_) (a':=?_) #[true,true,false,false,false,false,false,false,false,false,false,false,false,false,false,false,false,false,false,false,false] rfl rfl (c0z HT_.1 (by kernel_rfl)) (fun _ _ _ h => h) (Or.inl ⟨by rfl,?_⟩) ?_ ?_
          rotate_left
          ·intro w'
           go_simp
           with_reducible rfl
          rotate_left
          ·simp only [Act.put,sA_,sZ_,sS_,i64_w,i32_w]
           rfl
          refine pure_ (i:=2) (N:=some 14) (v:=?_) (a':=?_) #[true,true,true,false,false,false,false,false,false,false,false,false,false,false,false,false,false,false,false,false,false] rfl rfl (c0z HT_.1 (by kernel_rfl)) (fun _ _ _ h => h) (Or.inl ⟨by rfl,?_⟩) ?_ ?_
          rotate_left
          ·intro w'
           go_simp
           with_reducible rfl
          rotate_left
          ·simp only [Act.put,sA_,sZ_,sS_,i64_w,i32_w]
           rfl
          refine pure_ (i:=3) (N:=some 15) (v:=undef) (a':=?_) #[true,true,true,true,false,false,false,false,false,false,false,false,false,false,false,false,false,false,false,false,false] rfl rfl (c0z HT_.1 (by kernel_rfl)) (fun _ _ _ h => h) (Or.inr ⟨by rfl,rfl⟩) ?_ ?_
          rotate_left
          ·simp only [Act.put,sA_,sZ_,sS_,i64_w,i32_w]
           rfl
          refine pure_ (i:=4) (N:=some 16) (v:=undef) (a':=?_) #[true,true,true,true,true,false,false,false,false,false,false,false,false,false,false,false,false,false,false,false,false] rfl rfl (c0z HT_.1 (by kernel_rfl)) (fun _ _ _ h => h) (Or.inr ⟨by rfl,rfl⟩) ?_ ?_
          rotate_left
          ·simp only [Act.put,sA_,sZ_,sS_,i64_w,i32_w]
           rfl
          refine pure_ (i:=5) (N:=some 17) (v:=undef) (a':=?_) #[true,true,true,true,true,true,false,false,false,false,false,false,false,false,false,false,false,false,false,false,false] rfl rfl (c0z HT_.1 (by kernel_rfl)) (fun _ _ _ h => h) (Or.inr ⟨by rfl,rfl⟩) ?_ ?_
          rotate_left
          ·simp only [Act.put,sA_,sZ_,sS_,i64_w,i32_w]
           rfl
          refine pure_ (i:=6) (N:=some 18) (v:=undef) (a':=?_) #[true,true,true,true,true,true,true,false,false,false,false,false,false,false,false,false,false,false,false,false,false] rfl rfl (c0z HT_.1 (by kernel_rfl)) (fun _ _ _ h => h) (Or.inr ⟨by rfl,rfl⟩) ?_ ?_
          rotate_left
          ·simp only [Act.put,sA_,sZ_,sS_,i64_w,i32_w]
           rfl
          refine pure_ (i:=7) (N:=some 19) (v:=undef) (a':=?_) #[true,true,true,true,true,true,true,true,false,false,false,false,false,false,false,false,false,false,false,false,false] rfl rfl (c0z HT_.1 (by kernel_rfl)) (fun _ _ _ h => h) (Or.inr ⟨by rfl,rfl⟩) ?_ ?_
          rotate_left
          ·simp only [Act.put,sA_,sZ_,sS_,i64_w,i32_w]
           rfl
          refine pure_ (i:=8) (N:=some 20) (v:=undef) (a':=?_) #[true,true,true,true,true,true,true,true,true,false,false,false,false,false,false,false,false,false,false,false,false] rfl rfl (c0z HT_.1 (by kernel_rfl)) (fun _ _ _ h => h) (Or.inr ⟨by rfl,rfl⟩) ?_ ?_
          rotate_left
          ·simp only [Act.put,sA_,sZ_,sS_,i64_w,i32_w]
           rfl
          refine pure_ (i:=9) (N:=some 21) (v:=undef) (a':=?_) #[true,true,true,true,true,true,true,true,true,true,false,false,false,false,false,false,false,false,false,false,false] rfl rfl (c0z HT_.1 (by kernel_rfl)) (fun _ _ _ h => h) (Or.inr ⟨by rfl,rfl⟩) ?_ ?_
          rotate_left
          ·simp only [Act.put,sA_,sZ_,sS_,i64_w,i32_w]
           rfl
          refine pure_ (i:=10) (N:=some 22) (v:=?_) (a':=?_) #[true,true,true,true,true,true,true,true,true,true,true,false,false,false,false,false,false,false,false,false,false] rfl rfl (c0z HT_.1 (by kernel_rfl)) (fun _ _ _ h => h) (Or.inl ⟨by rfl,?_⟩) ?_ ?_
          rotate_left
          ·intro w'
           go_simp
           with_reducible rfl
          rotate_left
          ·simp only [Act.put,sA_,sZ_,sS_,i64_w,i32_w]
           rfl
          refine pure_ (i:=11) (N:=some 23) (v:=?_) (a':=?_) #[true,true,true,true,true,true,true,true,true,true,true,true,false,false,false,false,false,false,false,false,false] rfl rfl (c0z HT_.1 (by kernel_rfl)) (fun _ _ _ h => h) (Or.inl ⟨by rfl,?_⟩) ?_ ?_
          rotate_left
          ·intro w'
           go_simp
           with_reducible rfl
          rotate_left
          ·simp only [Act.put,sA_,sZ_,sS_,i64_w,i32_w]
           rfl
          refine pure_ (i:=12) (N:=some 24) (v:=undef) (a':=?_) #[true,true,true,true,true,true,true,true,true,true,true,true,true,false,false,false,false,false,false,false,false] rfl rfl (c0z HT_.1 (by kernel_rfl)) (fun _ _ _ h => h) (Or.inr ⟨by rfl,rfl⟩) ?_ ?_
          rotate_left
          ·simp only [Act.put,sA_,sZ_,sS_,i64_w,i32_w]
           rfl
          refine pure_ (i:=13) (N:=some 25) (v:=undef) (a':=?_) #[true,true,true,true,true,true,true,true,true,true,true,true,true,true,false,false,false,false,false,false,false] rfl rfl (c0z HT_.1 (by kernel_rfl)) (fun _ _ _ h => h) (Or.inr ⟨by rfl,rfl⟩) ?_ ?_
          rotate_left
          ·simp only [Act.put,sA_,sZ_,sS_,i64_w,i32_w]
           rfl
          refine pure_ (i:=14) (N:=some 26) (v:=undef) (a':=?_) #[true,true,true,true,true,true,true,true,true,true,true,true,true,true,true,false,false,false,false,false,false] rfl rfl (c0z HT_.1 (by kernel_rfl)) (fun _ _ _ h => h) (Or.inr ⟨by rfl,rfl⟩) ?_ ?_
          rotate_left
          ·simp only [Act.put,sA_,sZ_,sS_,i64_w,i32_w]
           rfl
          refine pure_ (i:=15) (N:=some 27) (v:=undef) (a':=?_) #[true,true,true,true,true,true,true,true,true,true,true,true,true,true,true,true,false,false,false,false,false] rfl rfl (c0z HT_.1 (by kernel_rfl)) (fun _ _ _ h => h) (Or.inr ⟨by rfl,rfl⟩) ?_ ?_
          rotate_left
          ·simp only [Act.put,sA_,sZ_,sS_,i64_w,i32_w]
           rfl
          refine pure_ (i:=16) (N:=some 28) (v:=undef) (a':=?_) #[true,true,true,true,true,true,true,true,true,true,true,true,true,true,true,true,true,false,false,false,false] rfl rfl (c0z HT_.1 (by kernel_rfl)) (fun _ _ _ h => h) (Or.inr ⟨by rfl,rfl⟩) ?_ ?_
          rotate_left
          ·simp only [Act.put,sA_,sZ_,sS_,i64_w,i32_w]
           rfl
          refine pure_ (i:=17) (N:=some 29) (v:=undef) (a':=?_) #[true,true,true,true,true,true,true,true,true,true,true,true,true,true,true,true,true,true,false,false,false] rfl rfl (c0z HT_.1 (by kernel_rfl)) (fun _ _ _ h => h) (Or.inr ⟨by rfl,rfl⟩) ?_ ?_
          rotate_left
          ·simp only [Act.put,sA_,sZ_,sS_,i64_w,i32_w]
           rfl
          refine pure_ (i:=18) (N:=some 30) (v:=undef) (a':=?_) #[true,true,true,true,true,true,true,true,true,true,true,true,true,true,true,true,true,true,true,false,false] rfl rfl (c0z HT_.1 (by kernel_rfl)) (fun _ _ _ h => h) (Or.inr ⟨by rfl,rfl⟩) ?_ ?_
          rotate_left
          ·simp only [Act.put,sA_,sZ_,sS_,i64_w,i32_w]
           rfl
          refine pure_ (i:=19) (N:=some 31) (v:=undef) (a':=?_) #[true,true,true,true,true,true,true,true,true,true,true,true,true,true,true,true,true,true,true,true,false] rfl rfl (c0z HT_.1 (by kernel_rfl)) (fun _ _ _ h => h) (Or.inr ⟨by rfl,rfl⟩) ?_ ?_
          rotate_left
          ·simp only [Act.put,sA_,sZ_,sS_,i64_w,i32_w]
           rfl
          refine pure_ (i:=20) (N:=some 32) (v:=?_) (a':=?_) #[true,true,true,true,true,true,true,true,true,true,true,true,true,true,true,true,true,true,true,true,true] rfl rfl (c0z HT_.1 (by kernel_rfl)) (fun _ _ _ h => h) (Or.inl ⟨by rfl,?_⟩) ?_ ?_
          rotate_left
          ·intro w'
           go_simp
           with_reducible rfl
          rotate_left
          ·simp only [Act.put,sA_,sZ_,sS_,i64_w,i32_w]
           rfl
          refine done_ (g5z HT_.1 (by kernel_rfl)) ?_
          try go_wp2_with (first|((with_reducible refine b8z (f:=73) rfl ?_);refine d2z (some 38) rfl rfl Try.func73 (by kernel_rfl) rfl #[.int .i64 x4_1,.int .i64 x5_2] rfl (by (try simp only [List.map_toArray,List.map_cons,List.map_nil]);first|done|rfl|(simp only [List.length_drop,List.length_take];rfl)) ?_;(with_reducible refine (impl_around.calls x4_1 x5_2 t121 t122 _ A42.1).mono ?_);rintro e w49 ⟨rfl,hb⟩;refine ⟨_,rfl,?_⟩;have n0_:=a0z.mk (Kd.c3z (by (with_reducible repeat (first|apply Kd.R_alloc|apply Kd.a4z|apply Kd.a5z));exact HO_3.1) hb);have n1_:=a0z.mk (d9z (g:=gb101) (o:=.cells #[.int .i64 a0_0,.int .i64 a0_1] 55 (0,0)) (by (with_reducible repeat (first|refine a8z ?_ _|refine a9z ?_|refine a7z ?_ _));exact BK101.1) hb);have n2_:=a0z.mk (b3z (by repeat (first|(with_reducible first|exact HB.1|apply a3z|apply a1z|apply a2z|refine a6z ?_ GE101.1)|exact HB.1)) hb);clear HO_3;clear BK101;clear HB;have HO_3:=n0_;have BK101:=n1_;have HB:=n2_;clear n0_ n1_ n2_;(try clear hb);(try clear hb2);(try clear hk);(try clear hi))|((with_reducible refine e5z (b:=.append) (xs:=#[.tmp 35,.tmp 39]) rfl ?_);at_builtin;refine Kd.g6z k44 (w0:=w) w.heap.size rfl (.tmp 35) (.tmp 39) 25 44 (.agg #[(.int .i64 0),(.int .i64 0)]) 16 rfl Try.underlying25 info44 rfl (by decide) (by omega) u3 x3_1 (⟨t121,t122⟩ : S44) [.int .i64 t121,.int .i64 t122] (fun _ => True) (fun _ => False) rfl rfl ?aP (fun _ hk => hk.elim) ?aF ?aO ?aB ?aS ?aL ?_;(case aP => exact k44_mkM _ _ _ (⟨t121,t122⟩ : S44));(case aB => exact (by repeat (first|(with_reducible first|exact HB.1|apply a3z|apply a1z|apply a2z|refine a6z ?_ GE101.1)|exact HB.1)));(case aF => exact (fun _ _ => trivial));(case aO => exact (by (with_reducible repeat (first|apply Kd.R_alloc|apply Kd.a4z|apply Kd.a5z));exact HO_3.1));(case aS => exact (b1z (by repeat (first|(with_reducible first|exact HB.1|apply a3z|apply a1z|apply a2z|refine a6z ?_ GE101.1)|exact HB.1))));(case aL => have:=LMc43.1;omega);intro v124 w50 ho hb hg hat;rw [← Ny123.1] at ho;have n0_:=a0z.mk (f0z (g:=gb101) (o:=.cells #[.int .i64 a0_0,.int .i64 a0_1] 55 (0,0)) (by (with_reducible repeat (first|refine a8z ?_ _|refine a9z ?_|refine a7z ?_ _));exact BK101.1) hg (Kd.R_ne HO_3.1 BK101.1 (by decide)));have n1_:=a0z.mk (hb);have n2_:=a0z.mk (ho);clear BK101;clear HB;clear HO_3;have BK101:=n0_;have HB:=n1_;have HO125:=n2_;clear n0_ n1_ n2_;clear ho hb hg hat;obtain ⟨Ao51,co51,eo51⟩:=Kd.d3z HO125.1;subst eo51;have p126 : 0 ≤ ((ji44) : Int):=of_decide_eq_true (by first|(with_reducible assumption)|assumption);have q126 : (ji44) < (y123.length : Int):=of_decide_eq_true (by first|(with_reducible assumption)|assumption);obtain ⟨ad126,e126,hx126_0,hx126_1⟩:=h2z (Kd.b4z HO125.1).2.2 (ji44) p126 q126;cases e126;replace p126:=eq_true p126;replace q126:=eq_true q126)|((with_reducible refine b8z (f:=58) rfl ?_);refine d2z (some 47) rfl rfl Try.func58 (by kernel_rfl) rfl #[.agg #[.int .i64 ((b6z y123 (ji44)).f0),.int .i64 ((b6z y123 (ji44)).f1)]] rfl (by (try simp only [List.map_toArray,List.map_cons,List.map_nil]);first|done|(simp only [hji44];rfl)|rfl|(simp only [List.length_drop,List.length_take];rfl)) ?_;(with_reducible refine (impl_Block_last.calls ((b6z y123 (ji44)).f0) ((b6z y123 (ji44)).f1) t127 _ A47.1).mono ?_);rintro e w52 ⟨rfl,hb⟩;refine ⟨_,rfl,?_⟩;have n0_:=a0z.mk (Kd.c3z (by (with_reducible repeat (first|apply Kd.R_alloc|apply Kd.a4z|apply Kd.a5z));exact HO125.1) hb);have n1_:=a0z.mk (d9z (g:=gb101) (o:=.cells #[.int .i64 a0_0,.int .i64 a0_1] 55 (0,0)) (by (with_reducible repeat (first|refine a8z ?_ _|refine a9z ?_|refine a7z ?_ _));exact BK101.1) hb);have n2_:=a0z.mk (b3z (by repeat (first|(with_reducible first|exact HB.1|apply a3z|apply a1z|apply a2z|refine a6z ?_ GE101.1)|exact HB.1)) hb);clear HO125;clear BK101;clear HB;have HO125:=n0_;have BK101:=n1_;have HB:=n2_;clear n0_ n1_ n2_;(try clear hb);(try clear hb2);(try clear hk);(try clear hi)))
          go_roundg k2
          case measure => have:=HK1.1;have:=HK2.1;omega
          case rel => exact ⟨(y123),(wrap64 (t127 + 1)),(by first|rfl|(simp;done)|(simp [*];done)),H',⟨by have:=HK1.1;have:=HK2.1;omega⟩,⟨by (with_reducible repeat (first|apply Kd.R_alloc|apply Kd.a4z|apply Kd.a5z));exact HO125.1⟩,⟨by (with_reducible repeat (first|refine a8z ?_ _|refine a9z ?_|refine a7z ?_ _));exact BK101.1⟩,⟨by repeat (first|(with_reducible first|exact HB.1|apply a3z|apply a1z|apply a2z|refine a6z ?_ GE101.1)|exact HB.1)⟩⟩
         ·rw [if_neg c46] at H
          exact absurd H (by simp)
        ·rw [if_neg c45] at H
         exact absurd H (by simp)
       ·rw [if_neg c43] at H
        exact absurd H (by simp)
   ·rw [if_neg c4] at H
    have c4b0 : decide (x4_1 ≤ a0_1) = false:=decide_eq_false c4
    clear c4
    obtain rfl:=Option.some.inj H
    have hcz53_0 : wr.cell? ⟨gb101,0,none⟩ = some (.int .i64 a0_0):=(b2z BK101.1 0).trans rfl
    have hcz53_1 : wr.cell? ⟨gb101,1,none⟩ = some (.int .i64 a0_1):=(b2z BK101.1 1).trans rfl
    have hfz53_0:=b7z BK101.1 0
    have hfz53_1:=b7z BK101.1 1
    go_wp2
    go_ret
    exact ⟨_,by first|rfl|(simp [c2z,c1z] <;> rfl)|(simp [*,c2z,c1z] <;> rfl),by (with_reducible repeat (first|apply Kd.R_alloc|apply Kd.a4z|apply Kd.a5z));exact HO_3.1,by repeat (first|(with_reducible first|exact HB.1|apply a3z|apply a1z|apply a2z|refine a6z ?_ GE101.1)|exact HB.1)⟩
end Go.Proofs.Ytmdhedkgpgoneaa.Q
