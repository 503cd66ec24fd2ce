/- The law FnRulesText (part 2 of 7): for every input the call answers true and its arguments read afterwards as before. No condition beyond the row's own. -/
import Derived.Test.YtgbdnbbfgcogjaaGreatDoorProg
import Derived.Below
import Derived.Deep.Draws
import Derived.Deep.AppendLies
import Derived.Maps.AppendAt
import Derived.OwnWalk
import Derived.Laws.BytesArg
import Derived.Laws.MakeOwn
import Derived.Laws.OwnMore
import Derived.Deep.OwnRows
import Derived.Tactics
import Derived.Lib.ConvBytes
import Derived.Laws.Slices
import Derived.WalkKit
import Derived.KernelRfl
import Derived.RowKit3
import Derived.Deep.LoopGhost
import Derived.Deep.QuietTactic
import Derived.BigQuiet
import Derived.WideLaws
import Derived.Deep.DeepCutAuto
import Derived.Deep.CutBlock
import Derived.Deep.RegionHeld3
import Derived.Laws.Rows
import Derived.Lib.AppendStr
import Derived.ArgAppend
import Derived.Laws.IdiomCopy
import Derived.OrdersHeld
import Derived.Laws.BitsLemmas
import Derived.RowKit
import Derived.Test.YtgbdnbbfgcogjaaGreatDoorCFnRulesText1
namespace Go.Proofs.YtgbdnbbfgcogjaaGreatDoorW.PrintLast
open Go.RowKit Go.Proofs.YtgbdnbbfgcogjaaGreatDoorW.PrintWords
theorem c80_ {w : World} {g t : Nat} {a0 a1 a2 a3 a4 a5 a6 a7 : Value} (h : w.heap[g]? = some (.cells #[a0,a1,a2,a3,a4,a5,a6,a7] t (0,0))) : w.cell? ⟨g,0,none⟩ = some a0:=(b7z h 0).trans rfl
theorem c81_ {w : World} {g t : Nat} {a0 a1 a2 a3 a4 a5 a6 a7 : Value} (h : w.heap[g]? = some (.cells #[a0,a1,a2,a3,a4,a5,a6,a7] t (0,0))) : w.cell? ⟨g,1,none⟩ = some a1:=(b7z h 1).trans rfl
theorem c82_ {w : World} {g t : Nat} {a0 a1 a2 a3 a4 a5 a6 a7 : Value} (h : w.heap[g]? = some (.cells #[a0,a1,a2,a3,a4,a5,a6,a7] t (0,0))) : w.cell? ⟨g,2,none⟩ = some a2:=(b7z h 2).trans rfl
theorem c83_ {w : World} {g t : Nat} {a0 a1 a2 a3 a4 a5 a6 a7 : Value} (h : w.heap[g]? = some (.cells #[a0,a1,a2,a3,a4,a5,a6,a7] t (0,0))) : w.cell? ⟨g,3,none⟩ = some a3:=(b7z h 3).trans rfl
theorem c84_ {w : World} {g t : Nat} {a0 a1 a2 a3 a4 a5 a6 a7 : Value} (h : w.heap[g]? = some (.cells #[a0,a1,a2,a3,a4,a5,a6,a7] t (0,0))) : w.cell? ⟨g,4,none⟩ = some a4:=(b7z h 4).trans rfl
theorem c85_ {w : World} {g t : Nat} {a0 a1 a2 a3 a4 a5 a6 a7 : Value} (h : w.heap[g]? = some (.cells #[a0,a1,a2,a3,a4,a5,a6,a7] t (0,0))) : w.cell? ⟨g,5,none⟩ = some a5:=(b7z h 5).trans rfl
theorem c86_ {w : World} {g t : Nat} {a0 a1 a2 a3 a4 a5 a6 a7 : Value} (h : w.heap[g]? = some (.cells #[a0,a1,a2,a3,a4,a5,a6,a7] t (0,0))) : w.cell? ⟨g,6,none⟩ = some a6:=(b7z h 6).trans rfl
theorem c87_ {w : World} {g t : Nat} {a0 a1 a2 a3 a4 a5 a6 a7 : Value} (h : w.heap[g]? = some (.cells #[a0,a1,a2,a3,a4,a5,a6,a7] t (0,0))) : w.cell? ⟨g,7,none⟩ = some a7:=(b7z h 7).trans rfl
theorem c20_ {w : World} {g t : Nat} {a0 a1 : Value} (h : w.heap[g]? = some (.cells #[a0,a1] t (0,0))) : w.cell? ⟨g,0,none⟩ = some a0:=(b7z h 0).trans rfl
theorem c21_ {w : World} {g t : Nat} {a0 a1 : Value} (h : w.heap[g]? = some (.cells #[a0,a1] t (0,0))) : w.cell? ⟨g,1,none⟩ = some a1:=(b7z h 1).trans rfl
theorem p8_ {w : World} {g t : Nat} {a0 a1 a2 a3 a4 a5 a6 a7 : Value} (h : w.heap[g]? = some (.cells #[.int .i64 0,.int .i64 0,.int .i64 0,.int .i64 0,.int .i64 0,.int .i64 0,.int .i64 0,.int .i64 0] t (0,0))) : ((((((((w.setCell ⟨g,0,none⟩ a0).setCell ⟨g,1,none⟩ a1).setCell ⟨g,2,none⟩ a2).setCell ⟨g,3,none⟩ a3).setCell ⟨g,4,none⟩ a4).setCell ⟨g,5,none⟩ a5).setCell ⟨g,6,none⟩ a6).setCell ⟨g,7,none⟩ a7).heap[g]? = some (.cells #[a0,a1,a2,a3,a4,a5,a6,a7] t (0,0)):=by
  refine c4z (cs:=#[a0,a1,a2,a3,a4,a5,a6,.int .i64 0]) ?_ 7 _ rfl
  refine c4z (cs:=#[a0,a1,a2,a3,a4,a5,.int .i64 0,.int .i64 0]) ?_ 6 _ rfl
  refine c4z (cs:=#[a0,a1,a2,a3,a4,.int .i64 0,.int .i64 0,.int .i64 0]) ?_ 5 _ rfl
  refine c4z (cs:=#[a0,a1,a2,a3,.int .i64 0,.int .i64 0,.int .i64 0,.int .i64 0]) ?_ 4 _ rfl
  refine c4z (cs:=#[a0,a1,a2,.int .i64 0,.int .i64 0,.int .i64 0,.int .i64 0,.int .i64 0]) ?_ 3 _ rfl
  refine c4z (cs:=#[a0,a1,.int .i64 0,.int .i64 0,.int .i64 0,.int .i64 0,.int .i64 0,.int .i64 0]) ?_ 2 _ rfl
  refine c4z (cs:=#[a0,.int .i64 0,.int .i64 0,.int .i64 0,.int .i64 0,.int .i64 0,.int .i64 0,.int .i64 0]) ?_ 1 _ rfl
  refine c4z (cs:=#[.int .i64 0,.int .i64 0,.int .i64 0,.int .i64 0,.int .i64 0,.int .i64 0,.int .i64 0,.int .i64 0]) ?_ 0 _ rfl
  exact h
theorem f8_ {α : Type} {d : Kd α} {e : Nat} {w : World} {base g : Nat} {ok : Nat → Prop} {v : Value} {xs : List α} (h : d.R e w base ok v xs) (hok : ∀ k,ok k → k ≠ g) (a0 a1 a2 a3 a4 a5 a6 a7 : Value) : d.R e ((((((((w.setCell ⟨g,0,none⟩ a0).setCell ⟨g,1,none⟩ a1).setCell ⟨g,2,none⟩ a2).setCell ⟨g,3,none⟩ a3).setCell ⟨g,4,none⟩ a4).setCell ⟨g,5,none⟩ a5).setCell ⟨g,6,none⟩ a6).setCell ⟨g,7,none⟩ a7) base ok v xs:=(Kd.R_far (p:=⟨g,7,none⟩) (Kd.R_far (p:=⟨g,6,none⟩) (Kd.R_far (p:=⟨g,5,none⟩) (Kd.R_far (p:=⟨g,4,none⟩) (Kd.R_far (p:=⟨g,3,none⟩) (Kd.R_far (p:=⟨g,2,none⟩) (Kd.R_far (p:=⟨g,1,none⟩) (Kd.R_far (p:=⟨g,0,none⟩) h hok a0) hok a1) hok a2) hok a3) hok a4) hok a5) hok a6) hok a7)
end Go.Proofs.YtgbdnbbfgcogjaaGreatDoorW.PrintLast
namespace Go.Proofs.YtgbdnbbfgcogjaaGreatDoor.Q
open Go.RowKit Go.Proofs.YtgbdnbbfgcogjaaGreatDoorW.PrintWords Go.Proofs.YtgbdnbbfgcogjaaGreatDoorW.PrintLast Go.Proofs.YtgbdnbbfgcogjaaGreatDoorW.PrintMore
attribute [local go_sem] d7z d5z d9z d8z c8z c7z d6z d4z
set_option linter.unusedVariables false
set_option linter.unusedSimpArgs false
def errW : Option Int → Value
 | none => .nilIface
 | some c => .iface 0 (.int .i64 c)
theorem b5z : errW none = .nilIface:=rfl
theorem b4z (c : Int) : errW (some c) = .iface 0 (.int .i64 c):=rfl
theorem info5 : (Tryz.prog.info? 5).map (fun i => (i.zero,i.size,i.bytes)) = some (some (.int .u8 0),1,1):=by kernel_rfl
theorem info9 : (Tryz.prog.info? 9).map (fun i => (i.zero,i.size,i.bytes)) = some (some (.string ⟨#[]⟩),1,16):=by kernel_rfl
theorem info39 : (Tryz.prog.info? 39).map (fun i => (i.zero,i.size,i.bytes)) = some (some (.agg #[(.int .i64 0),(.int .i64 0),(.int .i64 0),(.int .i64 0),(.int .i64 0),(.int .i64 0),(.int .i64 0),(.int .i64 0)]),8,64):=by kernel_rfl
-- the values' own types
structure S37 where
 f0 : Int
 f1 : Int
def z37 : S37:=⟨(0 : Int),(0 : Int)⟩
def k37 : Kd S37:=Kd.iso (Kd.pair (Kd.int .i64) (Kd.int .i64)) (fun x : S37 => (x.f0,x.f1))
theorem k37_open {w : World} {x : S37} {cs : List Value} (h : k37.K w x cs) : cs = [.int .i64 x.f0,.int .i64 x.f1]:=by
 obtain ⟨_,_,rfl,rfl,rfl⟩:=h
 exact rfl
theorem k37_openM {w : World} {base : Nat} {ok : Nat → Prop} {x : S37} {cs : List Value} (h : k37.M w base ok x cs) : cs = [.int .i64 x.f0,.int .i64 x.f1]:=by
 obtain ⟨_,_,rfl,rfl,rfl⟩:=h
 exact rfl
theorem k37_mkM (w : World) (base : Nat) (ok : Nat → Prop) (x : S37)  : k37.M w base ok x [.int .i64 x.f0,.int .i64 x.f1]:=⟨[.int .i64 x.f0],[.int .i64 x.f1],rfl,rfl,rfl⟩
structure S39 where
 f0 : Int
 f1 : Int
 f2 : S37
 f3 : S37
 f4 : Int
 f5 : Int
def z39 : S39:=⟨(0 : Int),(0 : Int),z37,z37,(0 : Int),(0 : Int)⟩
def k39 : Kd S39:=Kd.iso (Kd.pair (Kd.int .i64) (Kd.pair (Kd.int .i64) (Kd.pair k37 (Kd.pair k37 (Kd.pair (Kd.int .i64) (Kd.int .i64)))))) (fun x : S39 => (x.f0,x.f1,x.f2,x.f3,x.f4,x.f5))
theorem k39_open {w : World} {x : S39} {cs : List Value} (h : k39.K w x cs) : cs = [.int .i64 x.f0,.int .i64 x.f1,.int .i64 x.f2.f0,.int .i64 x.f2.f1,.int .i64 x.f3.f0,.int .i64 x.f3.f1,.int .i64 x.f4,.int .i64 x.f5]:=by
 obtain ⟨_,_,rfl,rfl,⟨_,_,rfl,rfl,⟨_,_,rfl,s2,⟨_,_,rfl,s4,⟨_,_,rfl,rfl,rfl⟩⟩⟩⟩⟩:=h
 obtain rfl:=k37_open s2
 obtain rfl:=k37_open s4
 exact rfl
theorem h4z {w : World} {base : Nat} {ok : Nat → Prop} {x : S39} {cs : List Value} (h : k39.M w base ok x cs) : cs = [.int .i64 x.f0,.int .i64 x.f1,.int .i64 x.f2.f0,.int .i64 x.f2.f1,.int .i64 x.f3.f0,.int .i64 x.f3.f1,.int .i64 x.f4,.int .i64 x.f5]:=by
 obtain ⟨_,_,rfl,rfl,⟨_,_,rfl,rfl,⟨_,_,rfl,s2,⟨_,_,rfl,s4,⟨_,_,rfl,rfl,rfl⟩⟩⟩⟩⟩:=h
 obtain rfl:=k37_openM s2
 obtain rfl:=k37_openM s4
 exact rfl
theorem k39_mkM (w : World) (base : Nat) (ok : Nat → Prop) (x : S39)  : k39.M w base ok x [.int .i64 x.f0,.int .i64 x.f1,.int .i64 x.f2.f0,.int .i64 x.f2.f1,.int .i64 x.f3.f0,.int .i64 x.f3.f1,.int .i64 x.f4,.int .i64 x.f5]:=⟨[.int .i64 x.f0],[.int .i64 x.f1,.int .i64 x.f2.f0,.int .i64 x.f2.f1,.int .i64 x.f3.f0,.int .i64 x.f3.f1,.int .i64 x.f4,.int .i64 x.f5],rfl,rfl,⟨[.int .i64 x.f1],[.int .i64 x.f2.f0,.int .i64 x.f2.f1,.int .i64 x.f3.f0,.int .i64 x.f3.f1,.int .i64 x.f4,.int .i64 x.f5],rfl,rfl,⟨[.int .i64 x.f2.f0,.int .i64 x.f2.f1],[.int .i64 x.f3.f0,.int .i64 x.f3.f1,.int .i64 x.f4,.int .i64 x.f5],rfl,(k37_mkM w base ok x.f2 ),⟨[.int .i64 x.f3.f0,.int .i64 x.f3.f1],[.int .i64 x.f4,.int .i64 x.f5],rfl,(k37_mkM w base ok x.f3 ),⟨[.int .i64 x.f4],[.int .i64 x.f5],rfl,rfl,rfl⟩⟩⟩⟩⟩
def a6z (xs : List S39) (i : Int) : S39:=xs.getD i.toNat z39
theorem at_T39 {w : World} {A : Option Addr} {n : Nat} {xs : List S39} (h : Kd.C k39 w A n xs) (i : Int) (h0 : 0 ≤ i) (h1 : i < n) : ∃ ad , A = some ad ∧ w.cell? (ad.add (i.toNat * 8)) = some (.int .i64 (a6z xs i).f0) ∧ w.cell? ⟨(ad.add (i.toNat * 8)).block,(ad.add (i.toNat * 8)).off + 1,none⟩ = some (.int .i64 (a6z xs i).f1) ∧ w.cell? ⟨(ad.add (i.toNat * 8)).block,(ad.add (i.toNat * 8)).off + 2,none⟩ = some (.int .i64 (a6z xs i).f2.f0) ∧ w.cell? ⟨(ad.add (i.toNat * 8)).block,(ad.add (i.toNat * 8)).off + 3,none⟩ = some (.int .i64 (a6z xs i).f2.f1) ∧ w.cell? ⟨(ad.add (i.toNat * 8)).block,(ad.add (i.toNat * 8)).off + 4,none⟩ = some (.int .i64 (a6z xs i).f3.f0) ∧ w.cell? ⟨(ad.add (i.toNat * 8)).block,(ad.add (i.toNat * 8)).off + 5,none⟩ = some (.int .i64 (a6z xs i).f3.f1) ∧ w.cell? ⟨(ad.add (i.toNat * 8)).block,(ad.add (i.toNat * 8)).off + 6,none⟩ = some (.int .i64 (a6z xs i).f4) ∧ w.cell? ⟨(ad.add (i.toNat * 8)).block,(ad.add (i.toNat * 8)).off + 7,none⟩ = some (.int .i64 (a6z xs i).f5):=by
 obtain ⟨ad,c,e,_,hK,hc0⟩:=Kd.C_get h z39 i h0 h1
 have hc : ∀ j u,c[j]? = some u → w.cell? (ad.add (i.toNat * 8 + j)) = some u:=hc0
 obtain rfl:=k39_open hK
 exact ⟨ad,e,hc 0 _ rfl,by rw [← add_field _ _ 1 (by omega)];exact hc 1 _ rfl,by rw [← add_field _ _ 2 (by omega)];exact hc 2 _ rfl,by rw [← add_field _ _ 3 (by omega)];exact hc 3 _ rfl,by rw [← add_field _ _ 4 (by omega)];exact hc 4 _ rfl,by rw [← add_field _ _ 5 (by omega)];exact hc 5 _ rfl,by rw [← add_field _ _ 6 (by omega)];exact hc 6 _ rfl,by rw [← add_field _ _ 7 (by omega)];exact hc 7 _ rfl⟩
def spec_l1In.f (a0 : Int) (a1 : Int) (a2 : Int) : Option (Bool):=if a0 ≥ a1 then (some (decide (a0 ≤ a2))) else (some false)
set_option maxHeartbeats 8000000 in
set_option maxRecDepth 100000 in
theorem spec_l1In.calls (a0 : Int) (a1 : Int) (a2 : Int) (r : Bool) (w : World) (h : spec_l1In.f a0 a1 a2 = some r) :
  Calls Tryz.prog 63 #[.int .i64 a0,.int .i64 a1,.int .i64 a2] w fun e w' => e = .returned (.bool r) ∧ Drawn0 w w':=by
 have H : (if a0 ≥ a1 then (some (decide (a0 ≤ a2))) else (some false)) = some r:=h
 clear h
 by_cases c4 : a0 ≥ a1
 ·rw [if_pos c4] at H
  have c4b0 : decide (a1 ≤ a0) = true:=decide_eq_true c4
  clear c4
  obtain rfl:=Option.some.inj H
  go_enter Tryz.func63,Tryz.ntmps63
  go_wp2
  go_ret
  exact ⟨by first|rfl|(simp;done)|(simp [*];done),by repeat (first|exact Drawn0.refl _|apply Drawn0.step)⟩
 ·rw [if_neg c4] at H
  have c4b0 : decide (a1 ≤ a0) = false:=decide_eq_false c4
  clear c4
  obtain rfl:=Option.some.inj H
  go_enter Tryz.func63,Tryz.ntmps63
  go_wp2
  go_ret
  exact ⟨by first|rfl|(simp;done)|(simp [*];done),by repeat (first|exact Drawn0.refl _|apply Drawn0.step)⟩
def spec_l1Addr.f (a0 : Int) : Option (Bool):=(spec_l1In.f a0 0 4294967295).bind fun t101 => (some t101)
set_option maxHeartbeats 8000000 in
set_option maxRecDepth 100000 in
theorem spec_l1Addr.calls (a0 : Int) (r : Bool) (w : World) (h : spec_l1Addr.f a0 = some r) :
  Calls Tryz.prog 86 #[.int .i64 a0] w fun e w' => e = .returned (.bool r) ∧ Drawn0 w w':=by
 have H : ((spec_l1In.f a0 0 4294967295).bind fun t101 => (some t101)) = some r:=h
 clear h
 replace H:=Option.bind_eq_some_iff.mp H
 obtain ⟨t101,A20,H⟩:=H
 replace H : (some t101) = some r:=H
 have A2:=a1z.mk A20
 clear A20
 obtain rfl:=Option.some.inj H
 go_enter Tryz.func86,Tryz.ntmps86
 go_wp2_with (first|((with_reducible refine b2z (f:=63) rfl ?_);refine c1z (some 4) rfl rfl Tryz.func63 (by kernel_rfl) rfl #[.int .i64 a0,.int .i64 0,.int .i64 4294967295] rfl (by (try simp only [mA_,mC_,mN_]);first|done|rfl|(simp only [lD_,lT_];rfl)) ?_;(with_reducible refine (spec_l1In.calls a0 0 4294967295 t101 _ A2.1).mono ?_);rintro e w' ⟨rfl,⟨nd,rfl⟩⟩;refine ⟨_,rfl,?_⟩))
 go_ret
 exact ⟨by first|rfl|(simp;done)|(simp [*];done),by repeat (first|exact Drawn0.refl _|apply Drawn0.step)⟩
def spec_l1Two.l0 : Nat → Int → Int → Option (Int)
 | 0,_,_ => none
 | k + 1,x0,x3 => if x0 > 0 then (spec_l1Two.l0 k (wrap64 (x0 - 1)) (wrap64 (x3 * 2))) else (some x3)
def spec_l1Two.f (k : Nat) (a0 : Int) : Option (Int):=spec_l1Two.l0 k a0 1
set_option maxHeartbeats 8000000 in
set_option maxRecDepth 100000 in
theorem spec_l1Two.calls (k : Nat) (a0 : Int) (r : Int) (w : World) (h : spec_l1Two.f k a0 = some r) :
  Calls Tryz.prog 106 #[.int .i64 a0] w fun e w' => e = .returned (.int .i64 r) ∧ Drawn0 w w':=by
 have H : (spec_l1Two.l0 k a0 1) = some r:=h
 clear h
 have H':=a1z.mk H
 clear H
 go_enter Tryz.func106,Tryz.ntmps106
 go_wp2
 go_loopg [0,3] k (fun kq v0 v3 w' => ∃ (x0_1 : Int) (x3_1 : Int),v0 = .int .i64 x0_1 ∧ v3 = .int .i64 x3_1 ∧ a1z (spec_l1Two.l0 kq x0_1 x3_1 = some r) ∧ a1z (kq ≤ k) ∧ Drawn0 w w')
 case atStart => exact ⟨(a0),(1),(by first|rfl|(simp;done)|(simp [*];done)),(by first|rfl|(simp;done)|(simp [*];done)),H',⟨Nat.le_refl _⟩,by repeat (first|exact Drawn0.refl _|apply Drawn0.step)⟩
 case round =>
  clear H'
  try clear c1
  obtain ⟨x0_1,x3_1,rfl,rfl,HA,HK1,⟨m1,rfl⟩⟩:=hrel
  cases gk with
  | zero => exact absurd HA.1 (by simp [spec_l1Two.l0])
  | succ k1 =>
   have H:=HA.1
   clear HA
   simp only [spec_l1Two.l0] at H
   by_cases c2 : x0_1 > 0
   ·rw [if_pos c2] at H
    have c2b0 : decide (0 < x0_1) = true:=decide_eq_true c2
    clear c2
    have H':=a1z.mk H
    clear H
    go_wp2
    go_roundg k1
    case measure => have:=HK1.1;omega
    case rel => exact ⟨(wrap64 (x0_1 - 1)),(wrap64 (x3_1 * 2)),(by first|rfl|(simp;done)|(simp [*];done)),(by first|rfl|(simp;done)|(simp [*];done)),H',⟨by have:=HK1.1;omega⟩,by repeat (first|exact Drawn0.refl _|apply Drawn0.step)⟩
   ·rw [if_neg c2] at H
    have c2b0 : decide (0 < x0_1) = false:=decide_eq_false c2
    clear c2
    obtain rfl:=Option.some.inj H
    go_wp2
    go_ret
    exact ⟨by first|rfl|(simp;done)|(simp [*];done),by repeat (first|exact Drawn0.refl _|apply Drawn0.step)⟩
def spec_l1Size.f (k : Nat) (a0 : Int) : Option (Int):=(spec_l1Two.f k (wrap64 (32 - a0))).bind fun t101 => (some t101)
set_option maxHeartbeats 8000000 in
set_option maxRecDepth 100000 in
theorem spec_l1Size.calls (k : Nat) (a0 : Int) (r : Int) (w : World) (h : spec_l1Size.f k a0 = some r) :
  Calls Tryz.prog 87 #[.int .i64 a0] w fun e w' => e = .returned (.int .i64 r) ∧ Drawn0 w w':=by
 have H : ((spec_l1Two.f k (wrap64 (32 - a0))).bind fun t101 => (some t101)) = some r:=h
 clear h
 replace H:=Option.bind_eq_some_iff.mp H
 obtain ⟨t101,A20,H⟩:=H
 replace H : (some t101) = some r:=H
 have A2:=a1z.mk A20
 clear A20
 obtain rfl:=Option.some.inj H
 go_enter Tryz.func87,Tryz.ntmps87
 go_wp2_with (first|((with_reducible refine b2z (f:=106) rfl ?_);refine c1z (some 5) rfl rfl Tryz.func106 (by kernel_rfl) rfl #[.int .i64 (wrap64 (32 - a0))] rfl (by (try simp only [mA_,mC_,mN_]);first|done|rfl|(simp only [lD_,lT_];rfl)) ?_;(with_reducible refine (spec_l1Two.calls k (wrap64 (32 - a0)) t101 _ A2.1).mono ?_);rintro e w' ⟨rfl,⟨nd,rfl⟩⟩;refine ⟨_,rfl,?_⟩))
 go_ret
 exact ⟨by first|rfl|(simp;done)|(simp [*];done),by repeat (first|exact Drawn0.refl _|apply Drawn0.step)⟩
def spec_BlockOk.f (k : Nat) (a0_0 : Int) (a0_1 : Int) : Option (Bool):=(spec_l1Addr.f a0_0).bind fun t102 => (if t102 = true then ((spec_l1In.f a0_1 0 32).bind fun t103 => (if t103 = true then ((spec_l1Size.f k a0_1).bind fun t104 => (if t104 = 0 then (none) else (some ((Int.tmod a0_0 t104) == 0)))) else (some false))) else (some false))
set_option maxHeartbeats 8000000 in
set_option maxRecDepth 100000 in
theorem spec_BlockOk.calls (k : Nat) (a0_0 : Int) (a0_1 : Int) (r : Bool) (w : World) (h : spec_BlockOk.f k a0_0 a0_1 = some r) :
  Calls Tryz.prog 62 #[.agg #[.int .i64 a0_0,.int .i64 a0_1]] w fun e w' => e = .returned (.bool r) ∧ Below w.heap.size w w':=by
 have hu37:=Tryz.underlying37
 have HB:=a1z.mk (Below.refl w.heap.size w)
 have H : ((spec_l1Addr.f a0_0).bind fun t102 => (if t102 = true then ((spec_l1In.f a0_1 0 32).bind fun t103 => (if t103 = true then ((spec_l1Size.f k a0_1).bind fun t104 => (if t104 = 0 then (none) else (some ((Int.tmod a0_0 t104) == 0)))) else (some false))) else (some false))) = some r:=h
 clear h
 replace H:=Option.bind_eq_some_iff.mp H
 obtain ⟨t102,A20,H⟩:=H
 replace H : (if t102 = true then ((spec_l1In.f a0_1 0 32).bind fun t103 => (if t103 = true then ((spec_l1Size.f k a0_1).bind fun t104 => (if t104 = 0 then (none) else (some ((Int.tmod a0_0 t104) == 0)))) else (some false))) else (some false)) = some r:=H
 have A2:=a1z.mk A20
 clear A20
 by_cases c3 : t102 = true
 ·subst c3
  have H1 : ((spec_l1In.f a0_1 0 32).bind fun t103 => (if t103 = true then ((spec_l1Size.f k a0_1).bind fun t104 => (if t104 = 0 then (none) else (some ((Int.tmod a0_0 t104) == 0)))) else (some false))) = some r:=by rw [if_pos rfl] at H;exact H
  clear H
  have H:=H1
  clear H1
  replace H:=Option.bind_eq_some_iff.mp H
  obtain ⟨t103,A40,H⟩:=H
  replace H : (if t103 = true then ((spec_l1Size.f k a0_1).bind fun t104 => (if t104 = 0 then (none) else (some ((Int.tmod a0_0 t104) == 0)))) else (some false)) = some r:=H
  have A4:=a1z.mk A40
  clear A40
  by_cases c5 : t103 = true
  ·subst c5
   have H1 : ((spec_l1Size.f k a0_1).bind fun t104 => (if t104 = 0 then (none) else (some ((Int.tmod a0_0 t104) == 0)))) = some r:=by rw [if_pos rfl] at H;exact H
   clear H
   have H:=H1
   clear H1
   replace H:=Option.bind_eq_some_iff.mp H
   obtain ⟨t104,A60,H⟩:=H
   replace H : (if t104 = 0 then (none) else (some ((Int.tmod a0_0 t104) == 0))) = some r:=H
   have A6:=a1z.mk A60
   clear A60
   by_cases c7 : t104 = 0
   ·rw [if_pos c7] at H
    exact absurd H (by simp)
   ·rw [if_neg c7] at H
    have c7b0 : (t104 == 0) = false:=beq_eq_false_iff_ne.mpr c7
    have c7b1 : (t104 != 0) = true:=bne_iff_ne.mpr c7
    obtain rfl:=Option.some.inj H
    go_enter Tryz.func62,Tryz.ntmps62
    go_wp2_with (first|((with_reducible refine c5z (N:=1) rfl ?_);refine d2z ?hg (N:=1) ?hd (cs:=#[.int .i64 a0_0,.int .i64 a0_1]) (t:=37) ?hr ?_;(case hd => rfl);(case hg => rfl);(case hr => first|(go_simp;done)|(go_simp;rfl));intro gb101 hg w8 hbox hb;have n0_:=a1z.mk (b1z (by repeat (first|(with_reducible first|exact HB.1|apply a3z|apply a0z|apply a2z)|exact HB.1)) hb);have n1_:=a1z.mk (hbox);have n2_:=a1z.mk ((by rw [hg];exact (b8z (by repeat (first|(with_reducible first|exact HB.1|apply a3z|apply a0z|apply a2z)|exact HB.1))) : w.heap.size ≤ gb101));have n3_:=a1z.mk ((by rw [hg];exact (b8z (by repeat (first|(with_reducible first|exact HB.1|apply a3z|apply a0z|apply a2z)|exact HB.1))) : w.heap.size ≤ gb101));clear HB;have HB:=n0_;have BK101:=n1_;have GW101:=n2_;have GE101:=n3_;clear n0_ n1_ n2_ n3_;clear hb hbox hg;have hcz9_0:=c20_ BK101.1;have hcz9_1:=c21_ BK101.1;have hfz9_0:=a4z BK101.1 0;have hfz9_1:=a4z BK101.1 1)|(go_at_call 86;(with_reducible refine (spec_l1Addr.calls a0_0 true _ A2.1).mono ?_);rintro e w' ⟨rfl,⟨nd,rfl⟩⟩;(try first|exact ⟨rfl,_,World.drewN_drewN _ _ _⟩|exact ⟨rfl,_,Eq.trans (World.drewN_drewN _ _ _) (congrArg (World.drewN _) (Nat.add_assoc _ _ _))⟩))|(go_at_call 63;(with_reducible refine (spec_l1In.calls a0_1 0 32 true _ A4.1).mono ?_);rintro e w' ⟨rfl,⟨nd,rfl⟩⟩;(try first|exact ⟨rfl,_,World.drewN_drewN _ _ _⟩|exact ⟨rfl,_,Eq.trans (World.drewN_drewN _ _ _) (congrArg (World.drewN _) (Nat.add_assoc _ _ _))⟩))|(go_at_call 87;(with_reducible refine (spec_l1Size.calls k a0_1 t104 _ A6.1).mono ?_);rintro e w' ⟨rfl,⟨nd,rfl⟩⟩;(try first|exact ⟨rfl,_,World.drewN_drewN _ _ _⟩|exact ⟨rfl,_,Eq.trans (World.drewN_drewN _ _ _) (congrArg (World.drewN _) (Nat.add_assoc _ _ _))⟩)))
    repeat (go_quiet (first|((with_reducible refine c5z (N:=1) rfl ?_);refine d2z ?hg (N:=1) ?hd (cs:=#[.int .i64 a0_0,.int .i64 a0_1]) (t:=37) ?hr ?_;(case hd => rfl);(case hg => rfl);(case hr => first|(go_simp;done)|(go_simp;rfl));intro gb101 hg w8 hbox hb;have n0_:=a1z.mk (b1z (by repeat (first|(with_reducible first|exact HB.1|apply a3z|apply a0z|apply a2z)|exact HB.1)) hb);have n1_:=a1z.mk (hbox);have n2_:=a1z.mk ((by rw [hg];exact (b8z (by repeat (first|(with_reducible first|exact HB.1|apply a3z|apply a0z|apply a2z)|exact HB.1))) : w.heap.size ≤ gb101));have n3_:=a1z.mk ((by rw [hg];exact (b8z (by repeat (first|(with_reducible first|exact HB.1|apply a3z|apply a0z|apply a2z)|exact HB.1))) : w.heap.size ≤ gb101));clear HB;have HB:=n0_;have BK101:=n1_;have GW101:=n2_;have GE101:=n3_;clear n0_ n1_ n2_ n3_;clear hb hbox hg;have hcz9_0:=c20_ BK101.1;have hcz9_1:=c21_ BK101.1;have hfz9_0:=a4z BK101.1 0;have hfz9_1:=a4z BK101.1 1)|(go_at_call 86;(with_reducible refine (spec_l1Addr.calls a0_0 true _ A2.1).mono ?_);rintro e w' ⟨rfl,⟨nd,rfl⟩⟩;(try first|exact ⟨rfl,_,World.drewN_drewN _ _ _⟩|exact ⟨rfl,_,Eq.trans (World.drewN_drewN _ _ _) (congrArg (World.drewN _) (Nat.add_assoc _ _ _))⟩))|(go_at_call 63;(with_reducible refine (spec_l1In.calls a0_1 0 32 true _ A4.1).mono ?_);rintro e w' ⟨rfl,⟨nd,rfl⟩⟩;(try first|exact ⟨rfl,_,World.drewN_drewN _ _ _⟩|exact ⟨rfl,_,Eq.trans (World.drewN_drewN _ _ _) (congrArg (World.drewN _) (Nat.add_assoc _ _ _))⟩))|(go_at_call 87;(with_reducible refine (spec_l1Size.calls k a0_1 t104 _ A6.1).mono ?_);rintro e w' ⟨rfl,⟨nd,rfl⟩⟩;(try first|exact ⟨rfl,_,World.drewN_drewN _ _ _⟩|exact ⟨rfl,_,Eq.trans (World.drewN_drewN _ _ _) (congrArg (World.drewN _) (Nat.add_assoc _ _ _))⟩)));try go_wp2_with (first|((with_reducible refine c5z (N:=1) rfl ?_);refine d2z ?hg (N:=1) ?hd (cs:=#[.int .i64 a0_0,.int .i64 a0_1]) (t:=37) ?hr ?_;(case hd => rfl);(case hg => rfl);(case hr => first|(go_simp;done)|(go_simp;rfl));intro gb101 hg w8 hbox hb;have n0_:=a1z.mk (b1z (by repeat (first|(with_reducible first|exact HB.1|apply a3z|apply a0z|apply a2z)|exact HB.1)) hb);have n1_:=a1z.mk (hbox);have n2_:=a1z.mk ((by rw [hg];exact (b8z (by repeat (first|(with_reducible first|exact HB.1|apply a3z|apply a0z|apply a2z)|exact HB.1))) : w.heap.size ≤ gb101));have n3_:=a1z.mk ((by rw [hg];exact (b8z (by repeat (first|(with_reducible first|exact HB.1|apply a3z|apply a0z|apply a2z)|exact HB.1))) : w.heap.size ≤ gb101));clear HB;have HB:=n0_;have BK101:=n1_;have GW101:=n2_;have GE101:=n3_;clear n0_ n1_ n2_ n3_;clear hb hbox hg;have hcz9_0:=c20_ BK101.1;have hcz9_1:=c21_ BK101.1;have hfz9_0:=a4z BK101.1 0;have hfz9_1:=a4z BK101.1 1)|(go_at_call 86;(with_reducible refine (spec_l1Addr.calls a0_0 true _ A2.1).mono ?_);rintro e w' ⟨rfl,⟨nd,rfl⟩⟩;(try first|exact ⟨rfl,_,World.drewN_drewN _ _ _⟩|exact ⟨rfl,_,Eq.trans (World.drewN_drewN _ _ _) (congrArg (World.drewN _) (Nat.add_assoc _ _ _))⟩))|(go_at_call 63;(with_reducible refine (spec_l1In.calls a0_1 0 32 true _ A4.1).mono ?_);rintro e w' ⟨rfl,⟨nd,rfl⟩⟩;(try first|exact ⟨rfl,_,World.drewN_drewN _ _ _⟩|exact ⟨rfl,_,Eq.trans (World.drewN_drewN _ _ _) (congrArg (World.drewN _) (Nat.add_assoc _ _ _))⟩))|(go_at_call 87;(with_reducible refine (spec_l1Size.calls k a0_1 t104 _ A6.1).mono ?_);rintro e w' ⟨rfl,⟨nd,rfl⟩⟩;(try first|exact ⟨rfl,_,World.drewN_drewN _ _ _⟩|exact ⟨rfl,_,Eq.trans (World.drewN_drewN _ _ _) (congrArg (World.drewN _) (Nat.add_assoc _ _ _))⟩))))
    go_ret
    exact ⟨by first|rfl|(simp [b5z,b4z] <;> rfl)|(simp [*,b5z,b4z] <;> rfl),by repeat (first|(with_reducible first|exact HB.1|apply a3z|apply a0z|apply a2z|refine a5z ?_ GE101.1)|exact HB.1)⟩
  ·replace c5:=Bool.eq_false_iff.mpr c5
   subst c5
   have H1 : (some false) = some r:=by rw [if_neg (show ¬ (false = true) by decide)] at H;exact H
   clear H
   have H:=H1
   clear H1
   obtain rfl:=Option.some.inj H
   go_enter Tryz.func62,Tryz.ntmps62
   go_wp2_with (first|((with_reducible refine c5z (N:=1) rfl ?_);refine d2z ?hg (N:=1) ?hd (cs:=#[.int .i64 a0_0,.int .i64 a0_1]) (t:=37) ?hr ?_;(case hd => rfl);(case hg => rfl);(case hr => first|(go_simp;done)|(go_simp;rfl));intro gb101 hg w10 hbox hb;have n0_:=a1z.mk (b1z (by repeat (first|(with_reducible first|exact HB.1|apply a3z|apply a0z|apply a2z)|exact HB.1)) hb);have n1_:=a1z.mk (hbox);have n2_:=a1z.mk ((by rw [hg];exact (b8z (by repeat (first|(with_reducible first|exact HB.1|apply a3z|apply a0z|apply a2z)|exact HB.1))) : w.heap.size ≤ gb101));have n3_:=a1z.mk ((by rw [hg];exact (b8z (by repeat (first|(with_reducible first|exact HB.1|apply a3z|apply a0z|apply a2z)|exact HB.1))) : w.heap.size ≤ gb101));clear HB;have HB:=n0_;have BK101:=n1_;have GW101:=n2_;have GE101:=n3_;clear n0_ n1_ n2_ n3_;clear hb hbox hg;have hcz11_0:=c20_ BK101.1;have hcz11_1:=c21_ BK101.1;have hfz11_0:=a4z BK101.1 0;have hfz11_1:=a4z BK101.1 1)|(go_at_call 86;(with_reducible refine (spec_l1Addr.calls a0_0 true _ A2.1).mono ?_);rintro e w' ⟨rfl,⟨nd,rfl⟩⟩;(try first|exact ⟨rfl,_,World.drewN_drewN _ _ _⟩|exact ⟨rfl,_,Eq.trans (World.drewN_drewN _ _ _) (congrArg (World.drewN _) (Nat.add_assoc _ _ _))⟩))|(go_at_call 63;(with_reducible refine (spec_l1In.calls a0_1 0 32 false _ A4.1).mono ?_);rintro e w' ⟨rfl,⟨nd,rfl⟩⟩;(try first|exact ⟨rfl,_,World.drewN_drewN _ _ _⟩|exact ⟨rfl,_,Eq.trans (World.drewN_drewN _ _ _) (congrArg (World.drewN _) (Nat.add_assoc _ _ _))⟩)))
   repeat (go_quiet (first|((with_reducible refine c5z (N:=1) rfl ?_);refine d2z ?hg (N:=1) ?hd (cs:=#[.int .i64 a0_0,.int .i64 a0_1]) (t:=37) ?hr ?_;(case hd => rfl);(case hg => rfl);(case hr => first|(go_simp;done)|(go_simp;rfl));intro gb101 hg w10 hbox hb;have n0_:=a1z.mk (b1z (by repeat (first|(with_reducible first|exact HB.1|apply a3z|apply a0z|apply a2z)|exact HB.1)) hb);have n1_:=a1z.mk (hbox);have n2_:=a1z.mk ((by rw [hg];exact (b8z (by repeat (first|(with_reducible first|exact HB.1|apply a3z|apply a0z|apply a2z)|exact HB.1))) : w.heap.size ≤ gb101));have n3_:=a1z.mk ((by rw [hg];exact (b8z (by repeat (first|(with_reducible first|exact HB.1|apply a3z|apply a0z|apply a2z)|exact HB.1))) : w.heap.size ≤ gb101));clear HB;have HB:=n0_;have BK101:=n1_;have GW101:=n2_;have GE101:=n3_;clear n0_ n1_ n2_ n3_;clear hb hbox hg;have hcz11_0:=c20_ BK101.1;have hcz11_1:=c21_ BK101.1;have hfz11_0:=a4z BK101.1 0;have hfz11_1:=a4z BK101.1 1)|(go_at_call 86;(with_reducible refine (spec_l1Addr.calls a0_0 true _ A2.1).mono ?_);rintro e w' ⟨rfl,⟨nd,rfl⟩⟩;(try first|exact ⟨rfl,_,World.drewN_drewN _ _ _⟩|exact ⟨rfl,_,Eq.trans (World.drewN_drewN _ _ _) (congrArg (World.drewN _) (Nat.add_assoc _ _ _))⟩))|(go_at_call 63;(with_reducible refine (spec_l1In.calls a0_1 0 32 false _ A4.1).mono ?_);rintro e w' ⟨rfl,⟨nd,rfl⟩⟩;(try first|exact ⟨rfl,_,World.drewN_drewN _ _ _⟩|exact ⟨rfl,_,Eq.trans (World.drewN_drewN _ _ _) (congrArg (World.drewN _) (Nat.add_assoc _ _ _))⟩)));try go_wp2_with (first|((with_reducible refine c5z (N:=1) rfl ?_);refine d2z ?hg (N:=1) ?hd (cs:=#[.int .i64 a0_0,.int .i64 a0_1]) (t:=37) ?hr ?_;(case hd => rfl);(case hg => rfl);(case hr => first|(go_simp;done)|(go_simp;rfl));intro gb101 hg w10 hbox hb;have n0_:=a1z.mk (b1z (by repeat (first|(with_reducible first|exact HB.1|apply a3z|apply a0z|apply a2z)|exact HB.1)) hb);have n1_:=a1z.mk (hbox);have n2_:=a1z.mk ((by rw [hg];exact (b8z (by repeat (first|(with_reducible first|exact HB.1|apply a3z|apply a0z|apply a2z)|exact HB.1))) : w.heap.size ≤ gb101));have n3_:=a1z.mk ((by rw [hg];exact (b8z (by repeat (first|(with_reducible first|exact HB.1|apply a3z|apply a0z|apply a2z)|exact HB.1))) : w.heap.size ≤ gb101));clear HB;have HB:=n0_;have BK101:=n1_;have GW101:=n2_;have GE101:=n3_;clear n0_ n1_ n2_ n3_;clear hb hbox hg;have hcz11_0:=c20_ BK101.1;have hcz11_1:=c21_ BK101.1;have hfz11_0:=a4z BK101.1 0;have hfz11_1:=a4z BK101.1 1)|(go_at_call 86;(with_reducible refine (spec_l1Addr.calls a0_0 true _ A2.1).mono ?_);rintro e w' ⟨rfl,⟨nd,rfl⟩⟩;(try first|exact ⟨rfl,_,World.drewN_drewN _ _ _⟩|exact ⟨rfl,_,Eq.trans (World.drewN_drewN _ _ _) (congrArg (World.drewN _) (Nat.add_assoc _ _ _))⟩))|(go_at_call 63;(with_reducible refine (spec_l1In.calls a0_1 0 32 false _ A4.1).mono ?_);rintro e w' ⟨rfl,⟨nd,rfl⟩⟩;(try first|exact ⟨rfl,_,World.drewN_drewN _ _ _⟩|exact ⟨rfl,_,Eq.trans (World.drewN_drewN _ _ _) (congrArg (World.drewN _) (Nat.add_assoc _ _ _))⟩))))
   go_ret
   exact ⟨by first|rfl|(simp [b5z,b4z] <;> rfl)|(simp [*,b5z,b4z] <;> rfl),by repeat (first|(with_reducible first|exact HB.1|apply a3z|apply a0z|apply a2z|refine a5z ?_ GE101.1)|exact HB.1)⟩
 ·replace c3:=Bool.eq_false_iff.mpr c3
  subst c3
  have H1 : (some false) = some r:=by rw [if_neg (show ¬ (false = true) by decide)] at H;exact H
  clear H
  have H:=H1
  clear H1
  obtain rfl:=Option.some.inj H
  go_enter Tryz.func62,Tryz.ntmps62
  go_wp2_with (first|((with_reducible refine c5z (N:=1) rfl ?_);refine d2z ?hg (N:=1) ?hd (cs:=#[.int .i64 a0_0,.int .i64 a0_1]) (t:=37) ?hr ?_;(case hd => rfl);(case hg => rfl);(case hr => first|(go_simp;done)|(go_simp;rfl));intro gb101 hg w12 hbox hb;have n0_:=a1z.mk (b1z (by repeat (first|(with_reducible first|exact HB.1|apply a3z|apply a0z|apply a2z)|exact HB.1)) hb);have n1_:=a1z.mk (hbox);have n2_:=a1z.mk ((by rw [hg];exact (b8z (by repeat (first|(with_reducible first|exact HB.1|apply a3z|apply a0z|apply a2z)|exact HB.1))) : w.heap.size ≤ gb101));have n3_:=a1z.mk ((by rw [hg];exact (b8z (by repeat (first|(with_reducible first|exact HB.1|apply a3z|apply a0z|apply a2z)|exact HB.1))) : w.heap.size ≤ gb101));clear HB;have HB:=n0_;have BK101:=n1_;have GW101:=n2_;have GE101:=n3_;clear n0_ n1_ n2_ n3_;clear hb hbox hg;have hcz13_0:=c20_ BK101.1;have hcz13_1:=c21_ BK101.1;have hfz13_0:=a4z BK101.1 0;have hfz13_1:=a4z BK101.1 1)|(go_at_call 86;(with_reducible refine (spec_l1Addr.calls a0_0 false _ A2.1).mono ?_);rintro e w' ⟨rfl,⟨nd,rfl⟩⟩;(try first|exact ⟨rfl,_,World.drewN_drewN _ _ _⟩|exact ⟨rfl,_,Eq.trans (World.drewN_drewN _ _ _) (congrArg (World.drewN _) (Nat.add_assoc _ _ _))⟩)))
  repeat (go_quiet (first|((with_reducible refine c5z (N:=1) rfl ?_);refine d2z ?hg (N:=1) ?hd (cs:=#[.int .i64 a0_0,.int .i64 a0_1]) (t:=37) ?hr ?_;(case hd => rfl);(case hg => rfl);(case hr => first|(go_simp;done)|(go_simp;rfl));intro gb101 hg w12 hbox hb;have n0_:=a1z.mk (b1z (by repeat (first|(with_reducible first|exact HB.1|apply a3z|apply a0z|apply a2z)|exact HB.1)) hb);have n1_:=a1z.mk (hbox);have n2_:=a1z.mk ((by rw [hg];exact (b8z (by repeat (first|(with_reducible first|exact HB.1|apply a3z|apply a0z|apply a2z)|exact HB.1))) : w.heap.size ≤ gb101));have n3_:=a1z.mk ((by rw [hg];exact (b8z (by repeat (first|(with_reducible first|exact HB.1|apply a3z|apply a0z|apply a2z)|exact HB.1))) : w.heap.size ≤ gb101));clear HB;have HB:=n0_;have BK101:=n1_;have GW101:=n2_;have GE101:=n3_;clear n0_ n1_ n2_ n3_;clear hb hbox hg;have hcz13_0:=c20_ BK101.1;have hcz13_1:=c21_ BK101.1;have hfz13_0:=a4z BK101.1 0;have hfz13_1:=a4z BK101.1 1)|(go_at_call 86;(with_reducible refine (spec_l1Addr.calls a0_0 false _ A2.1).mono ?_);rintro e w' ⟨rfl,⟨nd,rfl⟩⟩;(try first|exact ⟨rfl,_,World.drewN_drewN _ _ _⟩|exact ⟨rfl,_,Eq.trans (World.drewN_drewN _ _ _) (congrArg (World.drewN _) (Nat.add_assoc _ _ _))⟩)));try go_wp2_with (first|((with_reducible refine c5z (N:=1) rfl ?_);refine d2z ?hg (N:=1) ?hd (cs:=#[.int .i64 a0_0,.int .i64 a0_1]) (t:=37) ?hr ?_;(case hd => rfl);(case hg => rfl);(case hr => first|(go_simp;done)|(go_simp;rfl));intro gb101 hg w12 hbox hb;have n0_:=a1z.mk (b1z (by repeat (first|(with_reducible first|exact HB.1|apply a3z|apply a0z|apply a2z)|exact HB.1)) hb);have n1_:=a1z.mk (hbox);have n2_:=a1z.mk ((by rw [hg];exact (b8z (by repeat (first|(with_reducible first|exact HB.1|apply a3z|apply a0z|apply a2z)|exact HB.1))) : w.heap.size ≤ gb101));have n3_:=a1z.mk ((by rw [hg];exact (b8z (by repeat (first|(with_reducible first|exact HB.1|apply a3z|apply a0z|apply a2z)|exact HB.1))) : w.heap.size ≤ gb101));clear HB;have HB:=n0_;have BK101:=n1_;have GW101:=n2_;have GE101:=n3_;clear n0_ n1_ n2_ n3_;clear hb hbox hg;have hcz13_0:=c20_ BK101.1;have hcz13_1:=c21_ BK101.1;have hfz13_0:=a4z BK101.1 0;have hfz13_1:=a4z BK101.1 1)|(go_at_call 86;(with_reducible refine (spec_l1Addr.calls a0_0 false _ A2.1).mono ?_);rintro e w' ⟨rfl,⟨nd,rfl⟩⟩;(try first|exact ⟨rfl,_,World.drewN_drewN _ _ _⟩|exact ⟨rfl,_,Eq.trans (World.drewN_drewN _ _ _) (congrArg (World.drewN _) (Nat.add_assoc _ _ _))⟩))))
  go_ret
  exact ⟨by first|rfl|(simp [b5z,b4z] <;> rfl)|(simp [*,b5z,b4z] <;> rfl),by repeat (first|(with_reducible first|exact HB.1|apply a3z|apply a0z|apply a2z|refine a5z ?_ GE101.1)|exact HB.1)⟩
def spec_l4Ok.j0 : Nat → Bool → Int → Int → Int → Int → Int → Int → Int → Int → Option (Bool)
 | 0,_,_,_,_,_,_,_,_,_ => none
 | k + 1,x31,x102000,x102001,x102002,x102003,x102004,x102005,x102006,x102007 => if x31 = true then (some false) else (if x102000 = 2 then ((spec_l1In.f x102001 0 3).bind fun t106 => (some t106)) else (some (x102001 == 0)))
def spec_l4Ok.f (k : Nat) (a0_0 : Int) (a0_1 : Int) (a0_2 : Int) (a0_3 : Int) (a0_4 : Int) (a0_5 : Int) (a0_6 : Int) (a0_7 : Int) : Option (Bool):=(spec_BlockOk.f k a0_2 a0_3).bind fun t102 => (if t102 = true then ((spec_BlockOk.f k a0_4 a0_5).bind fun t103 => (if t103 = true then ((spec_l1In.f a0_6 0 a0_7).bind fun t104 => (if t104 = true then (if a0_7 > 65535 then (spec_l4Ok.j0 k true a0_0 a0_1 a0_2 a0_3 a0_4 a0_5 a0_6 a0_7) else ((spec_l1In.f a0_0 0 2).bind fun t105 => (spec_l4Ok.j0 k (!t105) a0_0 a0_1 a0_2 a0_3 a0_4 a0_5 a0_6 a0_7))) else (spec_l4Ok.j0 k true a0_0 a0_1 a0_2 a0_3 a0_4 a0_5 a0_6 a0_7))) else (spec_l4Ok.j0 k true a0_0 a0_1 a0_2 a0_3 a0_4 a0_5 a0_6 a0_7))) else (spec_l4Ok.j0 k true a0_0 a0_1 a0_2 a0_3 a0_4 a0_5 a0_6 a0_7))
set_option maxHeartbeats 8000000 in
set_option maxRecDepth 100000 in
theorem spec_l4Ok.calls (k : Nat) (a0_0 : Int) (a0_1 : Int) (a0_2 : Int) (a0_3 : Int) (a0_4 : Int) (a0_5 : Int) (a0_6 : Int) (a0_7 : Int) (r : Bool) (w : World) (h : spec_l4Ok.f k a0_0 a0_1 a0_2 a0_3 a0_4 a0_5 a0_6 a0_7 = some r) :
  Calls Tryz.prog 33 #[.agg #[.int .i64 a0_0,.int .i64 a0_1,.int .i64 a0_2,.int .i64 a0_3,.int .i64 a0_4,.int .i64 a0_5,.int .i64 a0_6,.int .i64 a0_7]] w fun e w' => e = .returned (.bool r) ∧ Below w.heap.size w w':=by
 have hu39:=Tryz.underlying39
 have hu37:=Tryz.underlying37
 have HB:=a1z.mk (Below.refl w.heap.size w)
 have H : ((spec_BlockOk.f k a0_2 a0_3).bind fun t102 => (if t102 = true then ((spec_BlockOk.f k a0_4 a0_5).bind fun t103 => (if t103 = true then ((spec_l1In.f a0_6 0 a0_7).bind fun t104 => (if t104 = true then (if a0_7 > 65535 then (spec_l4Ok.j0 k true a0_0 a0_1 a0_2 a0_3 a0_4 a0_5 a0_6 a0_7) else ((spec_l1In.f a0_0 0 2).bind fun t105 => (spec_l4Ok.j0 k (!t105) a0_0 a0_1 a0_2 a0_3 a0_4 a0_5 a0_6 a0_7))) else (spec_l4Ok.j0 k true a0_0 a0_1 a0_2 a0_3 a0_4 a0_5 a0_6 a0_7))) else (spec_l4Ok.j0 k true a0_0 a0_1 a0_2 a0_3 a0_4 a0_5 a0_6 a0_7))) else (spec_l4Ok.j0 k true a0_0 a0_1 a0_2 a0_3 a0_4 a0_5 a0_6 a0_7))) = some r:=h
 clear h
 have HC2:=a1z.mk H
 clear H
 go_enter Tryz.func33,Tryz.ntmps33
 go_upto_region 1 with (first|((with_reducible refine c5z (N:=1) rfl ?_);refine d2z ?hg (N:=1) ?hd (cs:=#[.int .i64 a0_0,.int .i64 a0_1,.int .i64 a0_2,.int .i64 a0_3,.int .i64 a0_4,.int .i64 a0_5,.int .i64 a0_6,.int .i64 a0_7]) (t:=39) ?hr ?_;(case hd => rfl);(case hg => rfl);(case hr => first|(go_simp;done)|(go_simp;rfl));intro gb101 hg w3 hbox hb;have n0_:=a1z.mk (b1z (by repeat (first|(with_reducible first|exact HB.1|apply a3z|apply a0z|apply a2z)|exact HB.1)) hb);have n1_:=a1z.mk (hbox);have n2_:=a1z.mk ((by rw [hg];exact (b8z (by repeat (first|(with_reducible first|exact HB.1|apply a3z|apply a0z|apply a2z)|exact HB.1))) : w.heap.size ≤ gb101));have n3_:=a1z.mk ((by rw [hg];exact (b8z (by repeat (first|(with_reducible first|exact HB.1|apply a3z|apply a0z|apply a2z)|exact HB.1))) : w.heap.size ≤ gb101));clear HB;have HB:=n0_;have BK101:=n1_;have GW101:=n2_;have GE101:=n3_;clear n0_ n1_ n2_ n3_;clear hb hbox hg))
 (try simp only [Act.put,sA_,sZ_,sS_])
 go_cut [31] (fun v31 wc => ∃ (kq : Nat) (x31_1 : Bool),v31 = .bool x31_1 ∧ a1z (spec_l4Ok.j0 kq x31_1 a0_0 a0_1 a0_2 a0_3 a0_4 a0_5 a0_6 a0_7 = some r) ∧ a1z (kq ≤ k) ∧ a1z (wc.heap[gb101]? = some (.cells #[.int .i64 a0_0,.int .i64 a0_1,.int .i64 a0_2,.int .i64 a0_3,.int .i64 a0_4,.int .i64 a0_5,.int .i64 a0_6,.int .i64 a0_7] 39 (0,0))) ∧ a1z (Below w.heap.size w wc))
 case first =>
  have H:=HC2.1
  clear HC2
  replace H:=Option.bind_eq_some_iff.mp H
  obtain ⟨t102,A40,H⟩:=H
  replace H : (if t102 = true then ((spec_BlockOk.f k a0_4 a0_5).bind fun t103 => (if t103 = true then ((spec_l1In.f a0_6 0 a0_7).bind fun t104 => (if t104 = true then (if a0_7 > 65535 then (spec_l4Ok.j0 k true a0_0 a0_1 a0_2 a0_3 a0_4 a0_5 a0_6 a0_7) else ((spec_l1In.f a0_0 0 2).bind fun t105 => (spec_l4Ok.j0 k (!t105) a0_0 a0_1 a0_2 a0_3 a0_4 a0_5 a0_6 a0_7))) else (spec_l4Ok.j0 k true a0_0 a0_1 a0_2 a0_3 a0_4 a0_5 a0_6 a0_7))) else (spec_l4Ok.j0 k true a0_0 a0_1 a0_2 a0_3 a0_4 a0_5 a0_6 a0_7))) else (spec_l4Ok.j0 k true a0_0 a0_1 a0_2 a0_3 a0_4 a0_5 a0_6 a0_7)) = some r:=H
  have A4:=a1z.mk A40
  clear A40
  by_cases c5 : t102 = true
  ·subst c5
   have H1 : ((spec_BlockOk.f k a0_4 a0_5).bind fun t103 => (if t103 = true then ((spec_l1In.f a0_6 0 a0_7).bind fun t104 => (if t104 = true then (if a0_7 > 65535 then (spec_l4Ok.j0 k true a0_0 a0_1 a0_2 a0_3 a0_4 a0_5 a0_6 a0_7) else ((spec_l1In.f a0_0 0 2).bind fun t105 => (spec_l4Ok.j0 k (!t105) a0_0 a0_1 a0_2 a0_3 a0_4 a0_5 a0_6 a0_7))) else (spec_l4Ok.j0 k true a0_0 a0_1 a0_2 a0_3 a0_4 a0_5 a0_6 a0_7))) else (spec_l4Ok.j0 k true a0_0 a0_1 a0_2 a0_3 a0_4 a0_5 a0_6 a0_7))) = some r:=by rw [if_pos rfl] at H;exact H
   clear H
   have H:=H1
   clear H1
   replace H:=Option.bind_eq_some_iff.mp H
   obtain ⟨t103,A60,H⟩:=H
   replace H : (if t103 = true then ((spec_l1In.f a0_6 0 a0_7).bind fun t104 => (if t104 = true then (if a0_7 > 65535 then (spec_l4Ok.j0 k true a0_0 a0_1 a0_2 a0_3 a0_4 a0_5 a0_6 a0_7) else ((spec_l1In.f a0_0 0 2).bind fun t105 => (spec_l4Ok.j0 k (!t105) a0_0 a0_1 a0_2 a0_3 a0_4 a0_5 a0_6 a0_7))) else (spec_l4Ok.j0 k true a0_0 a0_1 a0_2 a0_3 a0_4 a0_5 a0_6 a0_7))) else (spec_l4Ok.j0 k true a0_0 a0_1 a0_2 a0_3 a0_4 a0_5 a0_6 a0_7)) = some r:=H
   have A6:=a1z.mk A60
   clear A60
   by_cases c7 : t103 = true
   ·subst c7
    have H1 : ((spec_l1In.f a0_6 0 a0_7).bind fun t104 => (if t104 = true then (if a0_7 > 65535 then (spec_l4Ok.j0 k true a0_0 a0_1 a0_2 a0_3 a0_4 a0_5 a0_6 a0_7) else ((spec_l1In.f a0_0 0 2).bind fun t105 => (spec_l4Ok.j0 k (!t105) a0_0 a0_1 a0_2 a0_3 a0_4 a0_5 a0_6 a0_7))) else (spec_l4Ok.j0 k true a0_0 a0_1 a0_2 a0_3 a0_4 a0_5 a0_6 a0_7))) = some r:=by rw [if_pos rfl] at H;exact H
    clear H
    have H:=H1
    clear H1
    replace H:=Option.bind_eq_some_iff.mp H
    obtain ⟨t104,A80,H⟩:=H
    replace H : (if t104 = true then (if a0_7 > 65535 then (spec_l4Ok.j0 k true a0_0 a0_1 a0_2 a0_3 a0_4 a0_5 a0_6 a0_7) else ((spec_l1In.f a0_0 0 2).bind fun t105 => (spec_l4Ok.j0 k (!t105) a0_0 a0_1 a0_2 a0_3 a0_4 a0_5 a0_6 a0_7))) else (spec_l4Ok.j0 k true a0_0 a0_1 a0_2 a0_3 a0_4 a0_5 a0_6 a0_7)) = some r:=H
    have A8:=a1z.mk A80
    clear A80
    by_cases c9 : t104 = true
    ·subst c9
     have H1 : (if a0_7 > 65535 then (spec_l4Ok.j0 k true a0_0 a0_1 a0_2 a0_3 a0_4 a0_5 a0_6 a0_7) else ((spec_l1In.f a0_0 0 2).bind fun t105 => (spec_l4Ok.j0 k (!t105) a0_0 a0_1 a0_2 a0_3 a0_4 a0_5 a0_6 a0_7))) = some r:=by rw [if_pos rfl] at H;exact H
     clear H
     have H:=H1
     clear H1
     by_cases c10 : a0_7 > 65535
     ·rw [if_pos c10] at H
      have c10b0 : decide (65535 < a0_7) = true:=decide_eq_true c10
      clear c10
      (first|rw [c10b0]|(simp only [i64_w,i32_w];rw [c10b0])|skip)
      have H':=a1z.mk H
      clear H
      have hcz11_0:=c80_ BK101.1
      have hcz11_1:=c81_ BK101.1
      have hcz11_2:=c82_ BK101.1
      have hcz11_3:=c83_ BK101.1
      have hcz11_4:=c84_ BK101.1
      have hcz11_5:=c85_ BK101.1
      have hcz11_6:=c86_ BK101.1
      have hcz11_7:=c87_ BK101.1
      have hfz11_0:=a4z BK101.1 0
      have hfz11_1:=a4z BK101.1 1
      have hfz11_2:=a4z BK101.1 2
      have hfz11_3:=a4z BK101.1 3
      have hfz11_4:=a4z BK101.1 4
      have hfz11_5:=a4z BK101.1 5
      have hfz11_6:=a4z BK101.1 6
      have hfz11_7:=a4z BK101.1 7
      go_wp2_with (first|((with_reducible refine b2z (f:=62) rfl ?_);refine c1z (some 5) rfl rfl Tryz.func62 (by kernel_rfl) rfl #[.agg #[.int .i64 a0_2,.int .i64 a0_3]] rfl (by (try simp only [mA_,mC_,mN_]);first|done|rfl|(simp only [lD_,lT_];rfl)) ?_;(with_reducible refine (spec_BlockOk.calls k a0_2 a0_3 true _ A4.1).mono ?_);rintro e w12 ⟨rfl,hb⟩;refine ⟨_,rfl,?_⟩;have n0_:=a1z.mk (c0z (g:=gb101) (o:=.cells #[.int .i64 a0_0,.int .i64 a0_1,.int .i64 a0_2,.int .i64 a0_3,.int .i64 a0_4,.int .i64 a0_5,.int .i64 a0_6,.int .i64 a0_7] 39 (0,0)) (by (with_reducible repeat (first|refine a8z ?_ _|refine a9z ?_|refine blk_alloc ?_ _));exact BK101.1) hb);have n1_:=a1z.mk (b1z (by repeat (first|(with_reducible first|exact HB.1|apply a3z|apply a0z|apply a2z|refine a5z ?_ GE101.1)|exact HB.1)) hb);clear BK101 HB;have BK101:=n0_;have HB:=n1_;clear n0_ n1_;(try clear hb);have hcz13_0:=c80_ BK101.1;have hcz13_1:=c81_ BK101.1;have hcz13_2:=c82_ BK101.1;have hcz13_3:=c83_ BK101.1;have hcz13_4:=c84_ BK101.1;have hcz13_5:=c85_ BK101.1;have hcz13_6:=c86_ BK101.1;have hcz13_7:=c87_ BK101.1;have hfz13_0:=a4z BK101.1 0;have hfz13_1:=a4z BK101.1 1;have hfz13_2:=a4z BK101.1 2;have hfz13_3:=a4z BK101.1 3;have hfz13_4:=a4z BK101.1 4;have hfz13_5:=a4z BK101.1 5;have hfz13_6:=a4z BK101.1 6;have hfz13_7:=a4z BK101.1 7)|(go_at_call 62;(with_reducible refine (spec_BlockOk.calls k a0_4 a0_5 true _ A6.1).mono ?_);rintro e w14 ⟨rfl,hb⟩;have n0_:=a1z.mk (c0z (g:=gb101) (o:=.cells #[.int .i64 a0_0,.int .i64 a0_1,.int .i64 a0_2,.int .i64 a0_3,.int .i64 a0_4,.int .i64 a0_5,.int .i64 a0_6,.int .i64 a0_7] 39 (0,0)) (by (with_reducible repeat (first|refine a8z ?_ _|refine a9z ?_|refine blk_alloc ?_ _));exact BK101.1) hb);have n1_:=a1z.mk (b1z (by repeat (first|(with_reducible first|exact HB.1|apply a3z|apply a0z|apply a2z|refine a5z ?_ GE101.1)|exact HB.1)) hb);clear BK101 HB;have BK101:=n0_;have HB:=n1_;clear n0_ n1_;(try clear hb);have hcz15_0:=c80_ BK101.1;have hcz15_1:=c81_ BK101.1;have hcz15_2:=c82_ BK101.1;have hcz15_3:=c83_ BK101.1;have hcz15_4:=c84_ BK101.1;have hcz15_5:=c85_ BK101.1;have hcz15_6:=c86_ BK101.1;have hcz15_7:=c87_ BK101.1;have hfz15_0:=a4z BK101.1 0;have hfz15_1:=a4z BK101.1 1;have hfz15_2:=a4z BK101.1 2;have hfz15_3:=a4z BK101.1 3;have hfz15_4:=a4z BK101.1 4;have hfz15_5:=a4z BK101.1 5;have hfz15_6:=a4z BK101.1 6;have hfz15_7:=a4z BK101.1 7)|(go_at_call 63;(with_reducible refine (spec_l1In.calls a0_6 0 a0_7 true _ A8.1).mono ?_);rintro e w' ⟨rfl,⟨nd,rfl⟩⟩))
      go_meet
      case rel => exact ⟨_,(true),(by first|rfl|(simp;done)|(simp [*];done)),H',⟨by first|omega|exact Nat.le_refl _⟩,⟨by (with_reducible repeat (first|refine a8z ?_ _|refine a9z ?_|refine blk_alloc ?_ _));exact BK101.1⟩,⟨by repeat (first|(with_reducible first|exact HB.1|apply a3z|apply a0z|apply a2z|refine a5z ?_ GE101.1)|exact HB.1)⟩⟩
     ·rw [if_neg c10] at H
      have c10b0 : decide (65535 < a0_7) = false:=decide_eq_false c10
      clear c10
      (first|rw [c10b0]|(simp only [i64_w,i32_w];rw [c10b0])|skip)
      replace H:=Option.bind_eq_some_iff.mp H
      obtain ⟨t105,A160,H⟩:=H
      replace H : (spec_l4Ok.j0 k (!t105) a0_0 a0_1 a0_2 a0_3 a0_4 a0_5 a0_6 a0_7) = some r:=H
      have A16:=a1z.mk A160
      clear A160
      have H':=a1z.mk H
      clear H
      have hcz17_0:=c80_ BK101.1
      have hcz17_1:=c81_ BK101.1
      have hcz17_2:=c82_ BK101.1
      have hcz17_3:=c83_ BK101.1
      have hcz17_4:=c84_ BK101.1
      have hcz17_5:=c85_ BK101.1
      have hcz17_6:=c86_ BK101.1
      have hcz17_7:=c87_ BK101.1
      have hfz17_0:=a4z BK101.1 0
      have hfz17_1:=a4z BK101.1 1
      have hfz17_2:=a4z BK101.1 2
      have hfz17_3:=a4z BK101.1 3
      have hfz17_4:=a4z BK101.1 4
      have hfz17_5:=a4z BK101.1 5
      have hfz17_6:=a4z BK101.1 6
      have hfz17_7:=a4z BK101.1 7
      go_wp2_with (first|((with_reducible refine b2z (f:=62) rfl ?_);refine c1z (some 5) rfl rfl Tryz.func62 (by kernel_rfl) rfl #[.agg #[.int .i64 a0_2,.int .i64 a0_3]] rfl (by (try simp only [mA_,mC_,mN_]);first|done|rfl|(simp only [lD_,lT_];rfl)) ?_;(with_reducible refine (spec_BlockOk.calls k a0_2 a0_3 true _ A4.1).mono ?_);rintro e w18 ⟨rfl,hb⟩;refine ⟨_,rfl,?_⟩;have n0_:=a1z.mk (c0z (g:=gb101) (o:=.cells #[.int .i64 a0_0,.int .i64 a0_1,.int .i64 a0_2,.int .i64 a0_3,.int .i64 a0_4,.int .i64 a0_5,.int .i64 a0_6,.int .i64 a0_7] 39 (0,0)) (by (with_reducible repeat (first|refine a8z ?_ _|refine a9z ?_|refine blk_alloc ?_ _));exact BK101.1) hb);have n1_:=a1z.mk (b1z (by repeat (first|(with_reducible first|exact HB.1|apply a3z|apply a0z|apply a2z|refine a5z ?_ GE101.1)|exact HB.1)) hb);clear BK101 HB;have BK101:=n0_;have HB:=n1_;clear n0_ n1_;(try clear hb);have hcz19_0:=c80_ BK101.1;have hcz19_1:=c81_ BK101.1;have hcz19_2:=c82_ BK101.1;have hcz19_3:=c83_ BK101.1;have hcz19_4:=c84_ BK101.1;have hcz19_5:=c85_ BK101.1;have hcz19_6:=c86_ BK101.1;have hcz19_7:=c87_ BK101.1;have hfz19_0:=a4z BK101.1 0;have hfz19_1:=a4z BK101.1 1;have hfz19_2:=a4z BK101.1 2;have hfz19_3:=a4z BK101.1 3;have hfz19_4:=a4z BK101.1 4;have hfz19_5:=a4z BK101.1 5;have hfz19_6:=a4z BK101.1 6;have hfz19_7:=a4z BK101.1 7)|(go_at_call 62;(with_reducible refine (spec_BlockOk.calls k a0_4 a0_5 true _ A6.1).mono ?_);rintro e w20 ⟨rfl,hb⟩;have n0_:=a1z.mk (c0z (g:=gb101) (o:=.cells #[.int .i64 a0_0,.int .i64 a0_1,.int .i64 a0_2,.int .i64 a0_3,.int .i64 a0_4,.int .i64 a0_5,.int .i64 a0_6,.int .i64 a0_7] 39 (0,0)) (by (with_reducible repeat (first|refine a8z ?_ _|refine a9z ?_|refine blk_alloc ?_ _));exact BK101.1) hb);have n1_:=a1z.mk (b1z (by repeat (first|(with_reducible first|exact HB.1|apply a3z|apply a0z|apply a2z|refine a5z ?_ GE101.1)|exact HB.1)) hb);clear BK101 HB;have BK101:=n0_;have HB:=n1_;clear n0_ n1_;(try clear hb);have hcz21_0:=c80_ BK101.1;have hcz21_1:=c81_ BK101.1;have hcz21_2:=c82_ BK101.1;have hcz21_3:=c83_ BK101.1;have hcz21_4:=c84_ BK101.1;have hcz21_5:=c85_ BK101.1;have hcz21_6:=c86_ BK101.1;have hcz21_7:=c87_ BK101.1;have hfz21_0:=a4z BK101.1 0;have hfz21_1:=a4z BK101.1 1;have hfz21_2:=a4z BK101.1 2;have hfz21_3:=a4z BK101.1 3;have hfz21_4:=a4z BK101.1 4;have hfz21_5:=a4z BK101.1 5;have hfz21_6:=a4z BK101.1 6;have hfz21_7:=a4z BK101.1 7)|(go_at_call 63;(with_reducible refine (spec_l1In.calls a0_6 0 a0_7 true _ A8.1).mono ?_);rintro e w' ⟨rfl,⟨nd,rfl⟩⟩)|(go_at_call 63;(with_reducible refine (spec_l1In.calls a0_0 0 2 t105 _ A16.1).mono ?_);rintro e w' ⟨rfl,⟨nd,rfl⟩⟩))
      go_meet
      case rel => exact ⟨_,(!t105),(by first|rfl|(simp;done)|(simp [*];done)),H',⟨by first|omega|exact Nat.le_refl _⟩,⟨by (with_reducible repeat (first|refine a8z ?_ _|refine a9z ?_|refine blk_alloc ?_ _));exact BK101.1⟩,⟨by repeat (first|(with_reducible first|exact HB.1|apply a3z|apply a0z|apply a2z|refine a5z ?_ GE101.1)|exact HB.1)⟩⟩
    ·replace c9:=Bool.eq_false_iff.mpr c9
     subst c9
     have H1 : (spec_l4Ok.j0 k true a0_0 a0_1 a0_2 a0_3 a0_4 a0_5 a0_6 a0_7) = some r:=by rw [if_neg (show ¬ (false = true) by decide)] at H;exact H
     clear H
     have H:=H1
     clear H1
     have H':=a1z.mk H
     clear H
     have hcz22_0:=c80_ BK101.1
     have hcz22_1:=c81_ BK101.1
     have hcz22_2:=c82_ BK101.1
     have hcz22_3:=c83_ BK101.1
     have hcz22_4:=c84_ BK101.1
     have hcz22_5:=c85_ BK101.1
     have hcz22_6:=c86_ BK101.1
     have hcz22_7:=c87_ BK101.1
     have hfz22_0:=a4z BK101.1 0
     have hfz22_1:=a4z BK101.1 1
     have hfz22_2:=a4z BK101.1 2
     have hfz22_3:=a4z BK101.1 3
     have hfz22_4:=a4z BK101.1 4
     have hfz22_5:=a4z BK101.1 5
     have hfz22_6:=a4z BK101.1 6
     have hfz22_7:=a4z BK101.1 7
     go_wp2_with (first|((with_reducible refine b2z (f:=62) rfl ?_);refine c1z (some 5) rfl rfl Tryz.func62 (by kernel_rfl) rfl #[.agg #[.int .i64 a0_2,.int .i64 a0_3]] rfl (by (try simp only [mA_,mC_,mN_]);first|done|rfl|(simp only [lD_,lT_];rfl)) ?_;(with_reducible refine (spec_BlockOk.calls k a0_2 a0_3 true _ A4.1).mono ?_);rintro e w23 ⟨rfl,hb⟩;refine ⟨_,rfl,?_⟩;have n0_:=a1z.mk (c0z (g:=gb101) (o:=.cells #[.int .i64 a0_0,.int .i64 a0_1,.int .i64 a0_2,.int .i64 a0_3,.int .i64 a0_4,.int .i64 a0_5,.int .i64 a0_6,.int .i64 a0_7] 39 (0,0)) (by (with_reducible repeat (first|refine a8z ?_ _|refine a9z ?_|refine blk_alloc ?_ _));exact BK101.1) hb);have n1_:=a1z.mk (b1z (by repeat (first|(with_reducible first|exact HB.1|apply a3z|apply a0z|apply a2z|refine a5z ?_ GE101.1)|exact HB.1)) hb);clear BK101 HB;have BK101:=n0_;have HB:=n1_;clear n0_ n1_;(try clear hb);have hcz24_0:=c80_ BK101.1;have hcz24_1:=c81_ BK101.1;have hcz24_2:=c82_ BK101.1;have hcz24_3:=c83_ BK101.1;have hcz24_4:=c84_ BK101.1;have hcz24_5:=c85_ BK101.1;have hcz24_6:=c86_ BK101.1;have hcz24_7:=c87_ BK101.1;have hfz24_0:=a4z BK101.1 0;have hfz24_1:=a4z BK101.1 1;have hfz24_2:=a4z BK101.1 2;have hfz24_3:=a4z BK101.1 3;have hfz24_4:=a4z BK101.1 4;have hfz24_5:=a4z BK101.1 5;have hfz24_6:=a4z BK101.1 6;have hfz24_7:=a4z BK101.1 7)|(go_at_call 62;(with_reducible refine (spec_BlockOk.calls k a0_4 a0_5 true _ A6.1).mono ?_);rintro e w25 ⟨rfl,hb⟩;have n0_:=a1z.mk (c0z (g:=gb101) (o:=.cells #[.int .i64 a0_0,.int .i64 a0_1,.int .i64 a0_2,.int .i64 a0_3,.int .i64 a0_4,.int .i64 a0_5,.int .i64 a0_6,.int .i64 a0_7] 39 (0,0)) (by (with_reducible repeat (first|refine a8z ?_ _|refine a9z ?_|refine blk_alloc ?_ _));exact BK101.1) hb);have n1_:=a1z.mk (b1z (by repeat (first|(with_reducible first|exact HB.1|apply a3z|apply a0z|apply a2z|refine a5z ?_ GE101.1)|exact HB.1)) hb);clear BK101 HB;have BK101:=n0_;have HB:=n1_;clear n0_ n1_;(try clear hb);have hcz26_0:=c80_ BK101.1;have hcz26_1:=c81_ BK101.1;have hcz26_2:=c82_ BK101.1;have hcz26_3:=c83_ BK101.1;have hcz26_4:=c84_ BK101.1;have hcz26_5:=c85_ BK101.1;have hcz26_6:=c86_ BK101.1;have hcz26_7:=c87_ BK101.1;have hfz26_0:=a4z BK101.1 0;have hfz26_1:=a4z BK101.1 1;have hfz26_2:=a4z BK101.1 2;have hfz26_3:=a4z BK101.1 3;have hfz26_4:=a4z BK101.1 4;have hfz26_5:=a4z BK101.1 5;have hfz26_6:=a4z BK101.1 6;have hfz26_7:=a4z BK101.1 7)|(go_at_call 63;(with_reducible refine (spec_l1In.calls a0_6 0 a0_7 false _ A8.1).mono ?_);rintro e w' ⟨rfl,⟨nd,rfl⟩⟩))
     go_meet
     case rel => exact ⟨_,(true),(by first|rfl|(simp;done)|(simp [*];done)),H',⟨by first|omega|exact Nat.le_refl _⟩,⟨by (with_reducible repeat (first|refine a8z ?_ _|refine a9z ?_|refine blk_alloc ?_ _));exact BK101.1⟩,⟨by repeat (first|(with_reducible first|exact HB.1|apply a3z|apply a0z|apply a2z|refine a5z ?_ GE101.1)|exact HB.1)⟩⟩
   ·replace c7:=Bool.eq_false_iff.mpr c7
    subst c7
    have H1 : (spec_l4Ok.j0 k true a0_0 a0_1 a0_2 a0_3 a0_4 a0_5 a0_6 a0_7) = some r:=by rw [if_neg (show ¬ (false = true) by decide)] at H;exact H
    clear H
    have H:=H1
    clear H1
    have H':=a1z.mk H
    clear H
    have hcz27_0:=c80_ BK101.1
    have hcz27_1:=c81_ BK101.1
    have hcz27_2:=c82_ BK101.1
    have hcz27_3:=c83_ BK101.1
    have hcz27_4:=c84_ BK101.1
    have hcz27_5:=c85_ BK101.1
    have hcz27_6:=c86_ BK101.1
    have hcz27_7:=c87_ BK101.1
    have hfz27_0:=a4z BK101.1 0
    have hfz27_1:=a4z BK101.1 1
    have hfz27_2:=a4z BK101.1 2
    have hfz27_3:=a4z BK101.1 3
    have hfz27_4:=a4z BK101.1 4
    have hfz27_5:=a4z BK101.1 5
    have hfz27_6:=a4z BK101.1 6
    have hfz27_7:=a4z BK101.1 7
    go_wp2_with (first|((with_reducible refine b2z (f:=62) rfl ?_);refine c1z (some 5) rfl rfl Tryz.func62 (by kernel_rfl) rfl #[.agg #[.int .i64 a0_2,.int .i64 a0_3]] rfl (by (try simp only [mA_,mC_,mN_]);first|done|rfl|(simp only [lD_,lT_];rfl)) ?_;(with_reducible refine (spec_BlockOk.calls k a0_2 a0_3 true _ A4.1).mono ?_);rintro e w28 ⟨rfl,hb⟩;refine ⟨_,rfl,?_⟩;have n0_:=a1z.mk (c0z (g:=gb101) (o:=.cells #[.int .i64 a0_0,.int .i64 a0_1,.int .i64 a0_2,.int .i64 a0_3,.int .i64 a0_4,.int .i64 a0_5,.int .i64 a0_6,.int .i64 a0_7] 39 (0,0)) (by (with_reducible repeat (first|refine a8z ?_ _|refine a9z ?_|refine blk_alloc ?_ _));exact BK101.1) hb);have n1_:=a1z.mk (b1z (by repeat (first|(with_reducible first|exact HB.1|apply a3z|apply a0z|apply a2z|refine a5z ?_ GE101.1)|exact HB.1)) hb);clear BK101 HB;have BK101:=n0_;have HB:=n1_;clear n0_ n1_;(try clear hb);have hcz29_0:=c80_ BK101.1;have hcz29_1:=c81_ BK101.1;have hcz29_2:=c82_ BK101.1;have hcz29_3:=c83_ BK101.1;have hcz29_4:=c84_ BK101.1;have hcz29_5:=c85_ BK101.1;have hcz29_6:=c86_ BK101.1;have hcz29_7:=c87_ BK101.1;have hfz29_0:=a4z BK101.1 0;have hfz29_1:=a4z BK101.1 1;have hfz29_2:=a4z BK101.1 2;have hfz29_3:=a4z BK101.1 3;have hfz29_4:=a4z BK101.1 4;have hfz29_5:=a4z BK101.1 5;have hfz29_6:=a4z BK101.1 6;have hfz29_7:=a4z BK101.1 7)|(go_at_call 62;(with_reducible refine (spec_BlockOk.calls k a0_4 a0_5 false _ A6.1).mono ?_);rintro e w30 ⟨rfl,hb⟩;have n0_:=a1z.mk (c0z (g:=gb101) (o:=.cells #[.int .i64 a0_0,.int .i64 a0_1,.int .i64 a0_2,.int .i64 a0_3,.int .i64 a0_4,.int .i64 a0_5,.int .i64 a0_6,.int .i64 a0_7] 39 (0,0)) (by (with_reducible repeat (first|refine a8z ?_ _|refine a9z ?_|refine blk_alloc ?_ _));exact BK101.1) hb);have n1_:=a1z.mk (b1z (by repeat (first|(with_reducible first|exact HB.1|apply a3z|apply a0z|apply a2z|refine a5z ?_ GE101.1)|exact HB.1)) hb);clear BK101 HB;have BK101:=n0_;have HB:=n1_;clear n0_ n1_;(try clear hb)))
    go_meet
    case rel => exact ⟨_,(true),(by first|rfl|(simp;done)|(simp [*];done)),H',⟨by first|omega|exact Nat.le_refl _⟩,⟨by (with_reducible repeat (first|refine a8z ?_ _|refine a9z ?_|refine blk_alloc ?_ _));exact BK101.1⟩,⟨by repeat (first|(with_reducible first|exact HB.1|apply a3z|apply a0z|apply a2z|refine a5z ?_ GE101.1)|exact HB.1)⟩⟩
  ·replace c5:=Bool.eq_false_iff.mpr c5
   subst c5
   have H1 : (spec_l4Ok.j0 k true a0_0 a0_1 a0_2 a0_3 a0_4 a0_5 a0_6 a0_7) = some r:=by rw [if_neg (show ¬ (false = true) by decide)] at H;exact H
   clear H
   have H:=H1
   clear H1
   have H':=a1z.mk H
   clear H
   have hcz31_0:=c80_ BK101.1
   have hcz31_1:=c81_ BK101.1
   have hcz31_2:=c82_ BK101.1
   have hcz31_3:=c83_ BK101.1
   have hcz31_4:=c84_ BK101.1
   have hcz31_5:=c85_ BK101.1
   have hcz31_6:=c86_ BK101.1
   have hcz31_7:=c87_ BK101.1
   have hfz31_0:=a4z BK101.1 0
   have hfz31_1:=a4z BK101.1 1
   have hfz31_2:=a4z BK101.1 2
   have hfz31_3:=a4z BK101.1 3
   have hfz31_4:=a4z BK101.1 4
   have hfz31_5:=a4z BK101.1 5
   have hfz31_6:=a4z BK101.1 6
   have hfz31_7:=a4z BK101.1 7
   go_wp2_with (first|((with_reducible refine b2z (f:=62) rfl ?_);refine c1z (some 5) rfl rfl Tryz.func62 (by kernel_rfl) rfl #[.agg #[.int .i64 a0_2,.int .i64 a0_3]] rfl (by (try simp only [mA_,mC_,mN_]);first|done|rfl|(simp only [lD_,lT_];rfl)) ?_;(with_reducible refine (spec_BlockOk.calls k a0_2 a0_3 false _ A4.1).mono ?_);rintro e w32 ⟨rfl,hb⟩;refine ⟨_,rfl,?_⟩;have n0_:=a1z.mk (c0z (g:=gb101) (o:=.cells #[.int .i64 a0_0,.int .i64 a0_1,.int .i64 a0_2,.int .i64 a0_3,.int .i64 a0_4,.int .i64 a0_5,.int .i64 a0_6,.int .i64 a0_7] 39 (0,0)) (by (with_reducible repeat (first|refine a8z ?_ _|refine a9z ?_|refine blk_alloc ?_ _));exact BK101.1) hb);have n1_:=a1z.mk (b1z (by repeat (first|(with_reducible first|exact HB.1|apply a3z|apply a0z|apply a2z|refine a5z ?_ GE101.1)|exact HB.1)) hb);clear BK101 HB;have BK101:=n0_;have HB:=n1_;clear n0_ n1_;(try clear hb)))
   go_meet
   case rel => exact ⟨_,(true),(by first|rfl|(simp;done)|(simp [*];done)),H',⟨by first|omega|exact Nat.le_refl _⟩,⟨by (with_reducible repeat (first|refine a8z ?_ _|refine a9z ?_|refine blk_alloc ?_ _));exact BK101.1⟩,⟨by repeat (first|(with_reducible first|exact HB.1|apply a3z|apply a0z|apply a2z|refine a5z ?_ GE101.1)|exact HB.1)⟩⟩
 case rest =>
  clear HC2
  try clear c1
  try clear p2
  try clear c3
  try clear c5
  try clear c6
  try clear c7
  try clear c9
  try clear c10
  try clear c10b0
  try clear hcz11_0
  try clear hcz11_1
  try clear hcz11_2
  try clear hcz11_3
  try clear hcz11_4
  try clear hcz11_5
  try clear hcz11_6
  try clear hcz11_7
  try clear hcz13_0
  try clear hcz13_1
  try clear hcz13_2
  try clear hcz13_3
  try clear hcz13_4
  try clear hcz13_5
  try clear hcz13_6
  try clear hcz13_7
  try clear hcz15_0
  try clear hcz15_1
  try clear hcz15_2
  try clear hcz15_3
  try clear hcz15_4
  try clear hcz15_5
  try clear hcz15_6
  try clear hcz15_7
  try clear hcz17_0
  try clear hcz17_1
  try clear hcz17_2
  try clear hcz17_3
  try clear hcz17_4
  try clear hcz17_5
  try clear hcz17_6
  try clear hcz17_7
  try clear hcz19_0
  try clear hcz19_1
  try clear hcz19_2
  try clear hcz19_3
  try clear hcz19_4
  try clear hcz19_5
  try clear hcz19_6
  try clear hcz19_7
  try clear hcz21_0
  try clear hcz21_1
  try clear hcz21_2
  try clear hcz21_3
  try clear hcz21_4
  try clear hcz21_5
  try clear hcz21_6
  try clear hcz21_7
  try clear hcz22_0
  try clear hcz22_1
  try clear hcz22_2
  try clear hcz22_3
  try clear hcz22_4
  try clear hcz22_5
  try clear hcz22_6
  try clear hcz22_7
  try clear hcz24_0
  try clear hcz24_1
  try clear hcz24_2
  try clear hcz24_3
  try clear hcz24_4
  try clear hcz24_5
  try clear hcz24_6
  try clear hcz24_7
  try clear hcz26_0
  try clear hcz26_1
  try clear hcz26_2
  try clear hcz26_3
  try clear hcz26_4
  try clear hcz26_5
  try clear hcz26_6
  try clear hcz26_7
  try clear hcz27_0
  try clear hcz27_1
  try clear hcz27_2
  try clear hcz27_3
  try clear hcz27_4
  try clear hcz27_5
  try clear hcz27_6
  try clear hcz27_7
  try clear hcz29_0
  try clear hcz29_1
  try clear hcz29_2
  try clear hcz29_3
  try clear hcz29_4
  try clear hcz29_5
  try clear hcz29_6
  try clear hcz29_7
  try clear hcz31_0
  try clear hcz31_1
  try clear hcz31_2
  try clear hcz31_3
  try clear hcz31_4
  try clear hcz31_5
  try clear hcz31_6
  try clear hcz31_7
  try clear hfz11_0
  try clear hfz11_1
  try clear hfz11_2
  try clear hfz11_3
  try clear hfz11_4
  try clear hfz11_5
  try clear hfz11_6
  try clear hfz11_7
  try clear hfz13_0
  try clear hfz13_1
  try clear hfz13_2
  try clear hfz13_3
  try clear hfz13_4
  try clear hfz13_5
  try clear hfz13_6
  try clear hfz13_7
  try clear hfz15_0
  try clear hfz15_1
  try clear hfz15_2
  try clear hfz15_3
  try clear hfz15_4
  try clear hfz15_5
  try clear hfz15_6
  try clear hfz15_7
  try clear hfz17_0
  try clear hfz17_1
  try clear hfz17_2
  try clear hfz17_3
  try clear hfz17_4
  try clear hfz17_5
  try clear hfz17_6
  try clear hfz17_7
  try clear hfz19_0
  try clear hfz19_1
  try clear hfz19_2
  try clear hfz19_3
  try clear hfz19_4
  try clear hfz19_5
  try clear hfz19_6
  try clear hfz19_7
  try clear hfz21_0
  try clear hfz21_1
  try clear hfz21_2
  try clear hfz21_3
  try clear hfz21_4
  try clear hfz21_5
  try clear hfz21_6
  try clear hfz21_7
  try clear hfz22_0
  try clear hfz22_1
  try clear hfz22_2
  try clear hfz22_3
  try clear hfz22_4
  try clear hfz22_5
  try clear hfz22_6
  try clear hfz22_7
  try clear hfz24_0
  try clear hfz24_1
  try clear hfz24_2
  try clear hfz24_3
  try clear hfz24_4
  try clear hfz24_5
  try clear hfz24_6
  try clear hfz24_7
  try clear hfz26_0
  try clear hfz26_1
  try clear hfz26_2
  try clear hfz26_3
  try clear hfz26_4
  try clear hfz26_5
  try clear hfz26_6
  try clear hfz26_7
  try clear hfz27_0
  try clear hfz27_1
  try clear hfz27_2
  try clear hfz27_3
  try clear hfz27_4
  try clear hfz27_5
  try clear hfz27_6
  try clear hfz27_7
  try clear hfz29_0
  try clear hfz29_1
  try clear hfz29_2
  try clear hfz29_3
  try clear hfz29_4
  try clear hfz29_5
  try clear hfz29_6
  try clear hfz29_7
  try clear hfz31_0
  try clear hfz31_1
  try clear hfz31_2
  try clear hfz31_3
  try clear hfz31_4
  try clear hfz31_5
  try clear hfz31_6
  try clear hfz31_7
  obtain ⟨kq,x31_1,rfl,HA,HJ1,BK101,HB⟩:=hcut
  cases kq with
  | zero => exact absurd HA.1 (by simp [spec_l4Ok.j0])
  | succ kj1 =>
   have H:=HA.1
   clear HA
   simp only [spec_l4Ok.j0] at H
   by_cases c33 : x31_1 = true
   ·subst c33
    have H1 : (some false) = some r:=by rw [if_pos rfl] at H;exact H
    clear H
    have H:=H1
    clear H1
    obtain rfl:=Option.some.inj H
    go_wp2
    go_ret
    exact ⟨by first|rfl|(simp [b5z,b4z] <;> rfl)|(simp [*,b5z,b4z] <;> rfl),by repeat (first|(with_reducible first|exact HB.1|apply a3z|apply a0z|apply a2z|refine a5z ?_ GE101.1)|exact HB.1)⟩
   ·replace c33:=Bool.eq_false_iff.mpr c33
    subst c33
    have H1 : (if a0_0 = 2 then ((spec_l1In.f a0_1 0 3).bind fun t106 => (some t106)) else (some (a0_1 == 0))) = some r:=by rw [if_neg (show ¬ (false = true) by decide)] at H;exact H
    clear H
    have H:=H1
    clear H1
    by_cases c34 : a0_0 = 2
    ·rw [if_pos c34] at H
     have c34b0 : (a0_0 == 2) = true:=beq_iff_eq.mpr c34
     have c34b1 : (a0_0 != 2) = false:=bne_eq_false_iff_eq.mpr c34
     clear c34
     replace H:=Option.bind_eq_some_iff.mp H
     obtain ⟨t106,A350,H⟩:=H
     replace H : (some t106) = some r:=H
     have A35:=a1z.mk A350
     clear A350
     obtain rfl:=Option.some.inj H
     have hcz36_0:=c80_ BK101.1
     have hcz36_1:=c81_ BK101.1
     have hcz36_2:=c82_ BK101.1
     have hcz36_3:=c83_ BK101.1
     have hcz36_4:=c84_ BK101.1
     have hcz36_5:=c85_ BK101.1
     have hcz36_6:=c86_ BK101.1
     have hcz36_7:=c87_ BK101.1
     have hfz36_0:=a4z BK101.1 0
     have hfz36_1:=a4z BK101.1 1
     have hfz36_2:=a4z BK101.1 2
     have hfz36_3:=a4z BK101.1 3
     have hfz36_4:=a4z BK101.1 4
     have hfz36_5:=a4z BK101.1 5
     have hfz36_6:=a4z BK101.1 6
     have hfz36_7:=a4z BK101.1 7
     go_wp2_with (first|((with_reducible refine b2z (f:=63) rfl ?_);refine c1z (some 37) rfl rfl Tryz.func63 (by kernel_rfl) rfl #[.int .i64 a0_1,.int .i64 0,.int .i64 3] rfl (by (try simp only [mA_,mC_,mN_]);first|done|rfl|(simp only [lD_,lT_];rfl)) ?_;(with_reducible refine (spec_l1In.calls a0_1 0 3 t106 _ A35.1).mono ?_);rintro e w' ⟨rfl,⟨nd,rfl⟩⟩;refine ⟨_,rfl,?_⟩))
     go_ret
     exact ⟨by first|rfl|(simp [b5z,b4z] <;> rfl)|(simp [*,b5z,b4z] <;> rfl),by repeat (first|(with_reducible first|exact HB.1|apply a3z|apply a0z|apply a2z|refine a5z ?_ GE101.1)|exact HB.1)⟩
    ·rw [if_neg c34] at H
     have c34b0 : (a0_0 == 2) = false:=beq_eq_false_iff_ne.mpr c34
     have c34b1 : (a0_0 != 2) = true:=bne_iff_ne.mpr c34
     obtain rfl:=Option.some.inj H
     have hcz37_0:=c80_ BK101.1
     have hcz37_1:=c81_ BK101.1
     have hcz37_2:=c82_ BK101.1
     have hcz37_3:=c83_ BK101.1
     have hcz37_4:=c84_ BK101.1
     have hcz37_5:=c85_ BK101.1
     have hcz37_6:=c86_ BK101.1
     have hcz37_7:=c87_ BK101.1
     have hfz37_0:=a4z BK101.1 0
     have hfz37_1:=a4z BK101.1 1
     have hfz37_2:=a4z BK101.1 2
     have hfz37_3:=a4z BK101.1 3
     have hfz37_4:=a4z BK101.1 4
     have hfz37_5:=a4z BK101.1 5
     have hfz37_6:=a4z BK101.1 6
     have hfz37_7:=a4z BK101.1 7
     go_wp2
     go_ret
     exact ⟨by first|rfl|(simp [b5z,b4z] <;> rfl)|(simp [*,b5z,b4z] <;> rfl),by repeat (first|(with_reducible first|exact HB.1|apply a3z|apply a0z|apply a2z|refine a5z ?_ GE101.1)|exact HB.1)⟩
def spec_RulesOk.l0 : Nat → List (S39) → Int → Option (Bool)
 | 0,_,_ => none
 | k + 1,x0,x3 => if x3 < (x0.length : Int) then (if 0 ≤ x3 then ((spec_l4Ok.f k ((a6z x0 x3).f0) ((a6z x0 x3).f1) ((a6z x0 x3).f2.f0) ((a6z x0 x3).f2.f1) ((a6z x0 x3).f3.f0) ((a6z x0 x3).f3.f1) ((a6z x0 x3).f4) ((a6z x0 x3).f5)).bind fun t102 => (if t102 = true then (spec_RulesOk.l0 k x0 (wrap64 (x3 + 1))) else (some false))) else (none)) else (some (decide ((x0.length : Int) ≤ 8)))
def spec_RulesOk.f (k : Nat) (l0 : List (S39)) : Option (Bool):=spec_RulesOk.l0 k l0 0
set_option maxHeartbeats 8000000 in
set_option maxRecDepth 100000 in
theorem spec_RulesOk.calls (k : Nat) (A0 : Option Addr) (c0 : Nat) (l0 : List (S39)) (r : Bool) (w : World) (hr0 : Kd.C k39 w A0 l0.length l0) (hc0 : l0.length ≤ c0) (h : spec_RulesOk.f k l0 = some r) :
  Calls Tryz.prog 13 #[.slice A0 l0.length c0] w fun e w' => e = .returned (.bool r) ∧ Below w.heap.size w w':=by
 have hu39:=Tryz.underlying39
 have HR0:=a1z.mk hr0
 have HC0:=a1z.mk hc0
 clear hr0 hc0
 have HB:=a1z.mk (Below.refl w.heap.size w)
 have H : (spec_RulesOk.l0 k l0 0) = some r:=h
 clear h
 have H':=a1z.mk H
 clear H
 go_enter Tryz.func13,Tryz.ntmps13
 go_wp2
 go_loopg [3] k (fun kq v3 w' => ∃ (x3_1 : Int),v3 = .int .i64 x3_1 ∧ a1z (spec_RulesOk.l0 kq l0 x3_1 = some r) ∧ a1z (kq ≤ k) ∧ a1z (Below w.heap.size w w'))
 case atStart => exact ⟨(0),(by first|rfl|(simp;done)|(simp [*];done)),H',⟨Nat.le_refl _⟩,⟨by repeat (first|(with_reducible first|exact HB.1|apply a3z|apply a0z|apply a2z)|exact HB.1)⟩⟩
 case round =>
  clear H'
  try clear c1
  obtain ⟨x3_1,rfl,HA,HK1,HB⟩:=hrel
  cases gk with
  | zero => exact absurd HA.1 (by simp [spec_RulesOk.l0])
  | succ k1 =>
   have H:=HA.1
   clear HA
   simp only [spec_RulesOk.l0] at H
   by_cases c2 : x3_1 < (l0.length : Int)
   ·rw [if_pos c2] at H
    have c2b0 : decide (x3_1 < (l0.length : Int)) = true:=decide_eq_true c2
    clear c2
    by_cases c3 : 0 ≤ x3_1
    ·rw [if_pos c3] at H
     have c3b0 : decide (0 ≤ x3_1) = true:=decide_eq_true c3
     clear c3
     replace H:=Option.bind_eq_some_iff.mp H
     obtain ⟨t102,A40,H⟩:=H
     replace H : (if t102 = true then (spec_RulesOk.l0 k1 l0 (wrap64 (x3_1 + 1))) else (some false)) = some r:=H
     have A4:=a1z.mk A40
     clear A40
     by_cases c5 : t102 = true
     ·subst c5
      have H1 : (spec_RulesOk.l0 k1 l0 (wrap64 (x3_1 + 1))) = some r:=by rw [if_pos rfl] at H;exact H
      clear H
      have H:=H1
      clear H1
      have H':=a1z.mk H
      clear H
      have p101 : 0 ≤ (x3_1 : Int):=of_decide_eq_true (by first|(with_reducible assumption)|assumption)
      have q101 : x3_1 < (l0.length : Int):=of_decide_eq_true (by first|(with_reducible assumption)|assumption)
      obtain ⟨ad101,e101,hx101_0,hx101_1,hx101_2,hx101_3,hx101_4,hx101_5,hx101_6,hx101_7⟩:=at_T39 HR0.1 x3_1 p101 q101
      cases e101
      replace hx101_0:=(HB.1.cell (World.block_lt_of_cell? w _ hx101_0)).trans hx101_0
      replace hx101_1:=(HB.1.cell (World.block_lt_of_cell? w _ hx101_1)).trans hx101_1
      replace hx101_2:=(HB.1.cell (World.block_lt_of_cell? w _ hx101_2)).trans hx101_2
      replace hx101_3:=(HB.1.cell (World.block_lt_of_cell? w _ hx101_3)).trans hx101_3
      replace hx101_4:=(HB.1.cell (World.block_lt_of_cell? w _ hx101_4)).trans hx101_4
      replace hx101_5:=(HB.1.cell (World.block_lt_of_cell? w _ hx101_5)).trans hx101_5
      replace hx101_6:=(HB.1.cell (World.block_lt_of_cell? w _ hx101_6)).trans hx101_6
      replace hx101_7:=(HB.1.cell (World.block_lt_of_cell? w _ hx101_7)).trans hx101_7
      replace p101:=eq_true p101
      replace q101:=eq_true q101
      go_wp2_with (first|((with_reducible refine b2z (f:=33) rfl ?_);refine c1z (some 14) rfl rfl Tryz.func33 (by kernel_rfl) rfl #[.agg #[.int .i64 ((a6z l0 x3_1).f0),.int .i64 ((a6z l0 x3_1).f1),.int .i64 ((a6z l0 x3_1).f2.f0),.int .i64 ((a6z l0 x3_1).f2.f1),.int .i64 ((a6z l0 x3_1).f3.f0),.int .i64 ((a6z l0 x3_1).f3.f1),.int .i64 ((a6z l0 x3_1).f4),.int .i64 ((a6z l0 x3_1).f5)]] rfl (by (try simp only [mA_,mC_,mN_]);first|done|rfl|(simp only [lD_,lT_];rfl)) ?_;(with_reducible refine (spec_l4Ok.calls k1 ((a6z l0 x3_1).f0) ((a6z l0 x3_1).f1) ((a6z l0 x3_1).f2.f0) ((a6z l0 x3_1).f2.f1) ((a6z l0 x3_1).f3.f0) ((a6z l0 x3_1).f3.f1) ((a6z l0 x3_1).f4) ((a6z l0 x3_1).f5) true _ A4.1).mono ?_);rintro e w6 ⟨rfl,hb⟩;refine ⟨_,rfl,?_⟩;have n0_:=a1z.mk (b1z (by repeat (first|(with_reducible first|exact HB.1|apply a3z|apply a0z|apply a2z)|exact HB.1)) hb);clear HB;have HB:=n0_;clear n0_;(try clear hb)))
      go_roundg k1
      case measure => have:=HK1.1;omega
      case rel => exact ⟨(wrap64 (x3_1 + 1)),(by first|rfl|(simp;done)|(simp [*];done)),H',⟨by have:=HK1.1;omega⟩,⟨by repeat (first|(with_reducible first|exact HB.1|apply a3z|apply a0z|apply a2z)|exact HB.1)⟩⟩
     ·replace c5:=Bool.eq_false_iff.mpr c5
      subst c5
      have H1 : (some false) = some r:=by rw [if_neg (show ¬ (false = true) by decide)] at H;exact H
      clear H
      have H:=H1
      clear H1
      obtain rfl:=Option.some.inj H
      have p101 : 0 ≤ (x3_1 : Int):=of_decide_eq_true (by first|(with_reducible assumption)|assumption)
      have q101 : x3_1 < (l0.length : Int):=of_decide_eq_true (by first|(with_reducible assumption)|assumption)
      obtain ⟨ad101,e101,hx101_0,hx101_1,hx101_2,hx101_3,hx101_4,hx101_5,hx101_6,hx101_7⟩:=at_T39 HR0.1 x3_1 p101 q101
      cases e101
      replace hx101_0:=(HB.1.cell (World.block_lt_of_cell? w _ hx101_0)).trans hx101_0
      replace hx101_1:=(HB.1.cell (World.block_lt_of_cell? w _ hx101_1)).trans hx101_1
      replace hx101_2:=(HB.1.cell (World.block_lt_of_cell? w _ hx101_2)).trans hx101_2
      replace hx101_3:=(HB.1.cell (World.block_lt_of_cell? w _ hx101_3)).trans hx101_3
      replace hx101_4:=(HB.1.cell (World.block_lt_of_cell? w _ hx101_4)).trans hx101_4
      replace hx101_5:=(HB.1.cell (World.block_lt_of_cell? w _ hx101_5)).trans hx101_5
      replace hx101_6:=(HB.1.cell (World.block_lt_of_cell? w _ hx101_6)).trans hx101_6
      replace hx101_7:=(HB.1.cell (World.block_lt_of_cell? w _ hx101_7)).trans hx101_7
      replace p101:=eq_true p101
      replace q101:=eq_true q101
      go_wp2_with (first|((with_reducible refine b2z (f:=33) rfl ?_);refine c1z (some 14) rfl rfl Tryz.func33 (by kernel_rfl) rfl #[.agg #[.int .i64 ((a6z l0 x3_1).f0),.int .i64 ((a6z l0 x3_1).f1),.int .i64 ((a6z l0 x3_1).f2.f0),.int .i64 ((a6z l0 x3_1).f2.f1),.int .i64 ((a6z l0 x3_1).f3.f0),.int .i64 ((a6z l0 x3_1).f3.f1),.int .i64 ((a6z l0 x3_1).f4),.int .i64 ((a6z l0 x3_1).f5)]] rfl (by (try simp only [mA_,mC_,mN_]);first|done|rfl|(simp only [lD_,lT_];rfl)) ?_;(with_reducible refine (spec_l4Ok.calls k1 ((a6z l0 x3_1).f0) ((a6z l0 x3_1).f1) ((a6z l0 x3_1).f2.f0) ((a6z l0 x3_1).f2.f1) ((a6z l0 x3_1).f3.f0) ((a6z l0 x3_1).f3.f1) ((a6z l0 x3_1).f4) ((a6z l0 x3_1).f5) false _ A4.1).mono ?_);rintro e w7 ⟨rfl,hb⟩;refine ⟨_,rfl,?_⟩;have n0_:=a1z.mk (b1z (by repeat (first|(with_reducible first|exact HB.1|apply a3z|apply a0z|apply a2z)|exact HB.1)) hb);clear HB;have HB:=n0_;clear n0_;(try clear hb)))
      go_ret
      exact ⟨by first|rfl|(simp [b5z,b4z] <;> rfl)|(simp [*,b5z,b4z] <;> rfl),by repeat (first|(with_reducible first|exact HB.1|apply a3z|apply a0z|apply a2z)|exact HB.1)⟩
    ·rw [if_neg c3] at H
     exact absurd H (by simp)
   ·rw [if_neg c2] at H
    have c2b0 : decide (x3_1 < (l0.length : Int)) = false:=decide_eq_false c2
    clear c2
    obtain rfl:=Option.some.inj H
    go_wp2
    go_ret
    exact ⟨by first|rfl|(simp [b5z,b4z] <;> rfl)|(simp [*,b5z,b4z] <;> rfl),by repeat (first|(with_reducible first|exact HB.1|apply a3z|apply a0z|apply a2z)|exact HB.1)⟩
def spec_l1Cut.l0 : Nat → ByteArray → Int → List ByteArray → Int → Int → Option (List ByteArray)
 | 0,_,_,_,_,_ => none
 | k + 1,x0,x1,x5,x6,x7 => if x7 < (x0.size : Int) then (if 0 ≤ x7 then (if (bt x0 x7) = x1 then (if 0 ≤ x6 then (if x6 ≤ x7 then (if x7 ≤ (x0.size : Int) then (if x5.length < 8796093022208 then (spec_l1Cut.l0 k x0 x1 (x5 ++ [x0.extract (x6 : Int).toNat (x7 : Int).toNat]) (wrap64 (x7 + 1)) (wrap64 (x7 + 1))) else (none)) else (none)) else (none)) else (none)) else (spec_l1Cut.l0 k x0 x1 x5 x6 (wrap64 (x7 + 1)))) else (none)) else (if 0 ≤ x6 then (if x6 ≤ (x0.size : Int) then (if x5.length < 8796093022208 then (some (x5 ++ [x0.extract (x6 : Int).toNat x0.size])) else (none)) else (none)) else (none))
def spec_l1Cut.f (k : Nat) (a0 : ByteArray) (a1 : Int) : Option (List ByteArray):=spec_l1Cut.l0 k a0 a1 (([] : List ByteArray)) 0 0
set_option maxHeartbeats 8000000 in
set_option maxRecDepth 100000 in
theorem spec_l1Cut.calls (k : Nat) (a0 : ByteArray) (a1 : Int) (r : List ByteArray) (w : World) (h : spec_l1Cut.f k a0 a1 = some r) :
  Calls Tryz.prog 16 #[.string a0,.int .u8 a1] w fun e w' => ∃ v0_ : Value,e = .returned (v0_) ∧ Kd.R Kd.string 9 w' w.heap.size (fun _ => True) v0_ r ∧ Below w.heap.size w w':=by
 have HB:=a1z.mk (Below.refl w.heap.size w)
 have H : (spec_l1Cut.l0 k a0 a1 (([] : List ByteArray)) 0 0) = some r:=h
 clear h
 obtain ⟨y101,hy101⟩ : ∃ y_ : List ByteArray,y_ = (([] : List ByteArray)):=⟨_,rfl⟩
 replace H : (spec_l1Cut.l0 k a0 a1 y101 0 0) = some r:=by first|(rw [hy101];with_reducible exact H)|(have H2_:=(Option.bind_some _ _).symm.trans H;rw [hy101];with_reducible exact H2_)|(have H2_:=(Option.bind_some _ _).symm.trans H;with_reducible exact H2_)|with_reducible exact H|(rw [hy101];exact H)|exact H
 have Ny101:=a1z.mk hy101
 clear hy101
 have H':=a1z.mk H
 clear H
 go_enter Tryz.func16,Tryz.ntmps16
 go_wp2_with (first|((with_reducible refine c5z (N:=8) rfl ?_);refine Kd.R_lit Kd.string _ 9 ?hg (N:=8) ?hd (xs:=([] : List ByteArray)) (inner:=[]) (ok:=fun _ => True) (okp:=fun _ => True) ?hr ?hp (fun _ hk => hk) trivial (Below.refl _ _) (Nat.le_refl _) (by simp) ?_;(case hd => rfl);(case hg => rfl);(case hr => first|(go_simp;done)|(go_simp;rfl));(case hp => exact (Reps.none _ _));intro v102 w3 ho4 hb hg_ hnew_;clear hg_ hnew_;(first|rw [← Ny101.1] at ho4|(simp only [Int.reduceToNat] at ho4;rw [← Ny101.1] at ho4));have n0_:=a1z.mk (Kd.e1z ho4 (b8z (by repeat (first|(with_reducible first|exact HB.1|apply a3z|apply a0z|apply a2z)|exact HB.1))));have n1_:=a1z.mk (b1z (by repeat (first|(with_reducible first|exact HB.1|apply a3z|apply a0z|apply a2z)|exact HB.1)) hb);clear HB;have HO103:=n0_;have HB:=n1_;clear n0_ n1_;clear hb ho4))
 go_loopg [5,6,7] k (fun kq v5 v6 v7 w' => ∃ (x5_1 : List ByteArray) (x6_1 : Int) (x7_1 : Int),v6 = .int .i64 x6_1 ∧ v7 = .int .i64 x7_1 ∧ a1z (spec_l1Cut.l0 kq a0 a1 x5_1 x6_1 x7_1 = some r) ∧ a1z (kq ≤ k) ∧ a1z (Kd.R Kd.string 9 w' w.heap.size (fun _ => True) v5 x5_1) ∧ a1z (Below w.heap.size w w'))
 case atStart => exact ⟨(y101),(0),(0),(by first|rfl|(simp;done)|(simp [*];done)),(by first|rfl|(simp;done)|(simp [*];done)),H',⟨Nat.le_refl _⟩,⟨by (with_reducible repeat (first|apply Kd.R_alloc|apply Kd.b6z|apply Kd.b9z));exact HO103.1⟩,⟨by repeat (first|(with_reducible first|exact HB.1|apply a3z|apply a0z|apply a2z)|exact HB.1)⟩⟩
 case round =>
  clear H'
  try clear c1
  try clear p2
  obtain ⟨x5_1,x6_1,x7_1,rfl,rfl,HA,HK1,HO_5,HB⟩:=hrel
  cases gk with
  | zero => exact absurd HA.1 (by simp [spec_l1Cut.l0])
  | succ k1 =>
   have H:=HA.1
   clear HA
   simp only [spec_l1Cut.l0] at H
   by_cases c5 : x7_1 < (a0.size : Int)
   ·rw [if_pos c5] at H
    have c5b0 : decide (x7_1 < (a0.size : Int)) = true:=decide_eq_true c5
    clear c5
    by_cases c6 : 0 ≤ x7_1
    ·rw [if_pos c6] at H
     have c6b0 : decide (0 ≤ x7_1) = true:=decide_eq_true c6
     clear c6
     by_cases c8 : (bt a0 x7_1) = a1
     ·rw [if_pos c8] at H
      have c8b0 : ((bt a0 x7_1) == a1) = true:=beq_iff_eq.mpr c8
      have c8b1 : ((bt a0 x7_1) != a1) = false:=bne_eq_false_iff_eq.mpr c8
      clear c8
      by_cases c9 : 0 ≤ x6_1
      ·rw [if_pos c9] at H
       have c9b0:=eq_true c9
       have c9b1 : decide (0 ≤ x6_1) = true:=decide_eq_true c9
       clear c9
       by_cases c10 : x6_1 ≤ x7_1
       ·rw [if_pos c10] at H
        have c10b0:=eq_true c10
        have c10b1 : decide (x6_1 ≤ x7_1) = true:=decide_eq_true c10
        clear c10
        by_cases c11 : x7_1 ≤ (a0.size : Int)
        ·rw [if_pos c11] at H
         have c11b0:=eq_true c11
         have c11b1 : decide (x7_1 ≤ (a0.size : Int)) = true:=decide_eq_true c11
         clear c11
         by_cases c12 : x5_1.length < 8796093022208
         ·rw [if_pos c12] at H
          have LMc12:=a1z.mk c12
          clear c12
          obtain ⟨y104,hy104⟩ : ∃ y_ : List ByteArray,y_ = (x5_1 ++ [a0.extract (x6_1 : Int).toNat (x7_1 : Int).toNat]):=⟨_,rfl⟩
          replace H : (spec_l1Cut.l0 k1 a0 a1 y104 (wrap64 (x7_1 + 1)) (wrap64 (x7_1 + 1))) = some r:=by first|(rw [hy104];with_reducible exact H)|(have H2_:=(Option.bind_some _ _).symm.trans H;rw [hy104];with_reducible exact H2_)|(have H2_:=(Option.bind_some _ _).symm.trans H;with_reducible exact H2_)|with_reducible exact H|(rw [hy104];exact H)|exact H
          have Ny104:=a1z.mk hy104
          clear hy104
          have H':=a1z.mk H
          clear H
          have p7 : 0 ≤ (x7_1 : Int):=of_decide_eq_true (by first|(with_reducible assumption)|assumption)
          have q7 : x7_1 < (a0.size : Int):=of_decide_eq_true (by first|(with_reducible assumption)|assumption)
          have hx7:=bt_at a0 x7_1
          replace p7:=eq_true p7
          replace q7:=eq_true q7
          go_wp2_with (first|((with_reducible refine g7z (b:=.append) (xs:=#[.tmp 20,.tmp 25]) rfl ?_);at_builtin;refine Kd.R_append Kd.string (w0:=w) w.heap.size rfl (.tmp 20) (.tmp 25) 34 9 (.string ⟨#[]⟩) 16 rfl Tryz.underlying34 info9 rfl (by decide) (by omega) u5 x5_1 (a0.extract (x6_1 : Int).toNat (x7_1 : Int).toNat) [.string (a0.extract (x6_1 : Int).toNat (x7_1 : Int).toNat)] (fun _ => True) (fun _ => False) rfl rfl ?aP (fun _ hk => hk.elim) ?aF ?aO ?aB ?aS ?aL ?_;(case aP => exact rfl);(case aB => exact (by repeat (first|(with_reducible first|exact HB.1|apply a3z|apply a0z|apply a2z)|exact HB.1)));(case aF => exact (fun _ _ => trivial));(case aO => exact (by (with_reducible repeat (first|apply Kd.R_alloc|apply Kd.b6z|apply Kd.b9z));exact HO_5.1));(case aS => exact (b8z (by repeat (first|(with_reducible first|exact HB.1|apply a3z|apply a0z|apply a2z)|exact HB.1))));(case aL => have:=LMc12.1;omega);intro v105 w13 ho hb hg hat;rw [← Ny104.1] at ho;have n0_:=a1z.mk (hb);have n1_:=a1z.mk (ho);clear HB HO_5;have HB:=n0_;have HO106:=n1_;clear n0_ n1_;clear ho hb hg hat))
          go_roundg k1
          case measure => have:=HK1.1;omega
          case rel => exact ⟨(y104),(wrap64 (x7_1 + 1)),(wrap64 (x7_1 + 1)),(by first|rfl|(simp;done)|(simp [*];done)),(by first|rfl|(simp;done)|(simp [*];done)),H',⟨by have:=HK1.1;omega⟩,⟨by (with_reducible repeat (first|apply Kd.R_alloc|apply Kd.b6z|apply Kd.b9z));exact HO106.1⟩,⟨by repeat (first|(with_reducible first|exact HB.1|apply a3z|apply a0z|apply a2z)|exact HB.1)⟩⟩
         ·rw [if_neg c12] at H
          exact absurd H (by simp)
        ·rw [if_neg c11] at H
         exact absurd H (by simp)
       ·rw [if_neg c10] at H
        exact absurd H (by simp)
      ·rw [if_neg c9] at H
       exact absurd H (by simp)
     ·rw [if_neg c8] at H
      have c8b0 : ((bt a0 x7_1) == a1) = false:=beq_eq_false_iff_ne.mpr c8
      have c8b1 : ((bt a0 x7_1) != a1) = true:=bne_iff_ne.mpr c8
      have H':=a1z.mk H
      clear H
      have p7 : 0 ≤ (x7_1 : Int):=of_decide_eq_true (by first|(with_reducible assumption)|assumption)
      have q7 : x7_1 < (a0.size : Int):=of_decide_eq_true (by first|(with_reducible assumption)|assumption)
      have hx7:=bt_at a0 x7_1
      replace p7:=eq_true p7
      replace q7:=eq_true q7
      go_wp2
      go_roundg k1
      case measure => have:=HK1.1;omega
      case rel => exact ⟨(x5_1),(x6_1),(wrap64 (x7_1 + 1)),(by first|rfl|(simp;done)|(simp [*];done)),(by first|rfl|(simp;done)|(simp [*];done)),H',⟨by have:=HK1.1;omega⟩,⟨by (with_reducible repeat (first|apply Kd.R_alloc|apply Kd.b6z|apply Kd.b9z));exact HO_5.1⟩,⟨by repeat (first|(with_reducible first|exact HB.1|apply a3z|apply a0z|apply a2z)|exact HB.1)⟩⟩
    ·rw [if_neg c6] at H
     exact absurd H (by simp)
   ·rw [if_neg c5] at H
    have c5b0 : decide (x7_1 < (a0.size : Int)) = false:=decide_eq_false c5
    clear c5
    by_cases c14 : 0 ≤ x6_1
    ·rw [if_pos c14] at H
     have c14b0:=eq_true c14
     have c14b1 : decide (0 ≤ x6_1) = true:=decide_eq_true c14
     clear c14
     by_cases c15 : x6_1 ≤ (a0.size : Int)
     ·rw [if_pos c15] at H
      have c15b0:=eq_true c15
      have c15b1 : decide (x6_1 ≤ (a0.size : Int)) = true:=decide_eq_true c15
      clear c15
      by_cases c16 : x5_1.length < 8796093022208
      ·rw [if_pos c16] at H
       have LMc16:=a1z.mk c16
       clear c16
       obtain ⟨y107,hy107⟩ : ∃ y_ : List ByteArray,y_ = (x5_1 ++ [a0.extract (x6_1 : Int).toNat a0.size]):=⟨_,rfl⟩
       replace H : (some y107) = some r:=by first|(rw [hy107];with_reducible exact H)|(have H2_:=(Option.bind_some _ _).symm.trans H;rw [hy107];with_reducible exact H2_)|(have H2_:=(Option.bind_some _ _).symm.trans H;with_reducible exact H2_)|with_reducible exact H|(rw [hy107];exact H)|exact H
       have Ny107:=a1z.mk hy107
       clear hy107
       obtain rfl:=Option.some.inj H
       go_wp2_with (first|((with_reducible refine g7z (b:=.append) (xs:=#[.tmp 29,.tmp 33]) rfl ?_);at_builtin;refine Kd.R_append Kd.string (w0:=w) w.heap.size rfl (.tmp 29) (.tmp 33) 34 9 (.string ⟨#[]⟩) 16 rfl Tryz.underlying34 info9 rfl (by decide) (by omega) u5 x5_1 (a0.extract (x6_1 : Int).toNat a0.size) [.string (a0.extract (x6_1 : Int).toNat a0.size)] (fun _ => True) (fun _ => False) rfl rfl ?aP (fun _ hk => hk.elim) ?aF ?aO ?aB ?aS ?aL ?_;(case aP => exact rfl);(case aB => exact (by repeat (first|(with_reducible first|exact HB.1|apply a3z|apply a0z|apply a2z)|exact HB.1)));(case aF => exact (fun _ _ => trivial));(case aO => exact (by (with_reducible repeat (first|apply Kd.R_alloc|apply Kd.b6z|apply Kd.b9z));exact HO_5.1));(case aS => exact (b8z (by repeat (first|(with_reducible first|exact HB.1|apply a3z|apply a0z|apply a2z)|exact HB.1))));(case aL => have:=LMc16.1;omega);intro v108 w17 ho hb hg hat;rw [← Ny107.1] at ho;have n0_:=a1z.mk (hb);have n1_:=a1z.mk (ho);clear HB HO_5;have HB:=n0_;have HO109:=n1_;clear n0_ n1_;clear ho hb hg hat))
       go_ret
       exact ⟨_,by first|rfl|(simp [b5z,b4z] <;> rfl)|(simp [*,b5z,b4z] <;> rfl),by (with_reducible repeat (first|apply Kd.R_alloc|apply Kd.b6z|apply Kd.b9z));exact HO109.1,by repeat (first|(with_reducible first|exact HB.1|apply a3z|apply a0z|apply a2z)|exact HB.1)⟩
      ·rw [if_neg c16] at H
       exact absurd H (by simp)
     ·rw [if_neg c15] at H
      exact absurd H (by simp)
    ·rw [if_neg c14] at H
     exact absurd H (by simp)
mutual
def spec_l1Num.j0 : Nat → ByteArray → Bool → Option (Int)
 | 0,_,_ => none
 | k + 1,x0,x22 => if x22 = true then (some (-1)) else (spec_l1Num.l0 k x0 0 0)
def spec_l1Num.l0 : Nat → ByteArray → Int → Int → Option (Int)
 | 0,_,_,_ => none
 | k + 1,x0,x3,x4 => if x4 < (x0.size : Int) then (if 0 ≤ x4 then (if (bt x0 x4) < 48 then (some (-1)) else (if (bt x0 x4) > 57 then (some (-1)) else (spec_l1Num.l0 k x0 (wrap64 ((wrap64 (x3 * 10)) + (((bt x0 x4) - 48) % 256))) (wrap64 (x4 + 1))))) else (none)) else (some x3)
end
def spec_l1Num.f (k : Nat) (a0 : ByteArray) : Option (Int):=if (a0.size : Int) = 0 then (spec_l1Num.j0 k a0 true) else (if (a0.size : Int) > 9 then (spec_l1Num.j0 k a0 true) else (if (a0.size : Int) > 1 then (if 0 < (a0.size : Int) then (spec_l1Num.j0 k a0 ((bt a0 0) == 48)) else (none)) else (spec_l1Num.j0 k a0 false)))
set_option maxHeartbeats 8000000 in
set_option maxRecDepth 100000 in
theorem spec_l1Num.calls (k : Nat) (a0 : ByteArray) (r : Int) (w : World) (h : spec_l1Num.f k a0 = some r) :
  Calls Tryz.prog 37 #[.string a0] w fun e w' => e = .returned (.int .i64 r) ∧ Drawn0 w w':=by
 have H : (if (a0.size : Int) = 0 then (spec_l1Num.j0 k a0 true) else (if (a0.size : Int) > 9 then (spec_l1Num.j0 k a0 true) else (if (a0.size : Int) > 1 then (if 0 < (a0.size : Int) then (spec_l1Num.j0 k a0 ((bt a0 0) == 48)) else (none)) else (spec_l1Num.j0 k a0 false)))) = some r:=h
 clear h
 have HC2:=a1z.mk H
 clear H
 go_enter Tryz.func37,Tryz.ntmps37
 go_upto_region 1 with (fail)
 go_cut [22] (fun v22 wc => ∃ (kq : Nat) (x22_1 : Bool),v22 = .bool x22_1 ∧ a1z (spec_l1Num.j0 kq a0 x22_1 = some r) ∧ a1z (kq ≤ k) ∧ Drawn0 w wc)
 case first =>
  have H:=HC2.1
  clear HC2
  by_cases c3 : (a0.size : Int) = 0
  ·rw [if_pos c3] at H
   have c3b0 : ((a0.size : Int) == 0) = true:=beq_iff_eq.mpr c3
   have c3b1 : ((a0.size : Int) != 0) = false:=bne_eq_false_iff_eq.mpr c3
   clear c3
   (first|rw [c3b0]|(simp only [i64_w,i32_w];rw [c3b0])|skip)
   have H':=a1z.mk H
   clear H
   go_wp2
   go_meet
   case rel => exact ⟨_,(true),(by first|rfl|(simp;done)|(simp [*];done)),H',⟨by first|omega|exact Nat.le_refl _⟩,by repeat (first|exact Drawn0.refl _|apply Drawn0.step)⟩
  ·rw [if_neg c3] at H
   have c3b0 : ((a0.size : Int) == 0) = false:=beq_eq_false_iff_ne.mpr c3
   have c3b1 : ((a0.size : Int) != 0) = true:=bne_iff_ne.mpr c3
   (first|rw [c3b0]|(simp only [i64_w,i32_w];rw [c3b0])|skip)
   by_cases c4 : (a0.size : Int) > 9
   ·rw [if_pos c4] at H
    have c4b0 : decide (9 < (a0.size : Int)) = true:=decide_eq_true c4
    have c4b1 : decide (9 < a0.size) = true:=decide_eq_true (by omega)
    clear c4
    have H':=a1z.mk H
    clear H
    go_wp2
    go_meet
    case rel => exact ⟨_,(true),(by first|rfl|(simp;done)|(simp [*];done)),H',⟨by first|omega|exact Nat.le_refl _⟩,by repeat (first|exact Drawn0.refl _|apply Drawn0.step)⟩
   ·rw [if_neg c4] at H
    have c4b0 : decide (9 < (a0.size : Int)) = false:=decide_eq_false c4
    have c4b1 : decide (9 < a0.size) = false:=decide_eq_false (by omega)
    clear c4
    by_cases c5 : (a0.size : Int) > 1
    ·rw [if_pos c5] at H
     have c5b0 : decide (1 < (a0.size : Int)) = true:=decide_eq_true c5
     have c5b1 : decide (1 < a0.size) = true:=decide_eq_true (by omega)
     clear c5
     by_cases c6 : 0 < (a0.size : Int)
     ·rw [if_pos c6] at H
      have c6b0 : decide (0 < (a0.size : Int)) = true:=decide_eq_true c6
      have c6b1 : decide (0 < a0.size) = true:=decide_eq_true (by omega)
      clear c6
      have H':=a1z.mk H
      clear H
      have p7 : 0 ≤ (0 : Int):=(by omega)
      have q7 : 0 < a0.size:=(by have : (0 : Int) < (a0.size : Int):=of_decide_eq_true (by first|(with_reducible assumption)|assumption);omega)
      have hx7 : ∀ h : 0 < a0.size,((a0[0]'h).toNat : Int) = bt a0 0:=bt_at a0 0
      clear p7
      have qi7 : (0 < (a0.size : Int)) = True:=eq_true (of_decide_eq_true (by first|(with_reducible assumption)|assumption))
      replace q7:=eq_true q7
      go_wp2
      go_meet
      case rel => exact ⟨_,(((bt a0 0) == 48)),(by first|rfl|(simp;done)|(simp [*];done)),H',⟨by first|omega|exact Nat.le_refl _⟩,by repeat (first|exact Drawn0.refl _|apply Drawn0.step)⟩
     ·rw [if_neg c6] at H
      exact absurd H (by simp)
    ·rw [if_neg c5] at H
     have c5b0 : decide (1 < (a0.size : Int)) = false:=decide_eq_false c5
     have c5b1 : decide (1 < a0.size) = false:=decide_eq_false (by omega)
     clear c5
     have H':=a1z.mk H
     clear H
     go_wp2
     go_meet
     case rel => exact ⟨_,(false),(by first|rfl|(simp;done)|(simp [*];done)),H',⟨by first|omega|exact Nat.le_refl _⟩,by repeat (first|exact Drawn0.refl _|apply Drawn0.step)⟩
 case rest =>
  clear HC2
  try clear p2
  try clear c3
  try clear c3b0
  try clear c3b1
  try clear c4
  try clear c4b0
  try clear c4b1
  try clear c5
  try clear c5b0
  try clear c5b1
  try clear c6
  try clear c6b0
  try clear c6b1
  try clear p7
  try clear q7
  try clear hx7
  try clear qi7
  try clear p7
  try clear q7
  obtain ⟨kq,x22_1,rfl,HA,HJ1,⟨mc1,rfl⟩⟩:=hcut
  cases kq with
  | zero => exact absurd HA.1 (by simp [spec_l1Num.j0])
  | succ kj1 =>
   have H:=HA.1
   clear HA
   simp only [spec_l1Num.j0] at H
   by_cases c8 : x22_1 = true
   ·subst c8
    have H1 : (some (-1)) = some r:=by rw [if_pos rfl] at H;exact H
    clear H
    have H:=H1
    clear H1
    obtain rfl:=Option.some.inj H
    go_wp2
    go_ret
    exact ⟨by first|rfl|(simp;done)|(simp [*];done),by repeat (first|exact Drawn0.refl _|apply Drawn0.step)⟩
   ·replace c8:=Bool.eq_false_iff.mpr c8
    subst c8
    have H1 : (spec_l1Num.l0 kj1 a0 0 0) = some r:=by rw [if_neg (show ¬ (false = true) by decide)] at H;exact H
    clear H
    have H:=H1
    clear H1
    have H':=a1z.mk H
    clear H
    go_wp2
    go_loopg [3,4] kj1 (fun kq v3 v4 w' => ∃ (x3_2 : Int) (x4_2 : Int),v3 = .int .i64 x3_2 ∧ v4 = .int .i64 x4_2 ∧ a1z (spec_l1Num.l0 kq a0 x3_2 x4_2 = some r) ∧ a1z (kq ≤ kj1) ∧ Drawn0 w w')
    case atStart => exact ⟨(0),(0),(by first|rfl|(simp;done)|(simp [*];done)),(by first|rfl|(simp;done)|(simp [*];done)),H',⟨Nat.le_refl _⟩,by repeat (first|exact Drawn0.refl _|apply Drawn0.step)⟩
    case round =>
     clear H'
     try clear c1
     try clear p2
     try clear c3
     try clear c3b0
     try clear c3b1
     try clear c4
     try clear c4b0
     try clear c4b1
     try clear c5
     try clear c5b0
     try clear c5b1
     try clear c6
     try clear c6b0
     try clear c6b1
     try clear p7
     try clear q7
     try clear hx7
     try clear qi7
     try clear c8
     try clear p2
     try clear p7
     try clear q7
     obtain ⟨x3_2,x4_2,rfl,rfl,HA,HK2,⟨m2,rfl⟩⟩:=hrel
     cases gk with
     | zero => exact absurd HA.1 (by simp [spec_l1Num.l0])
     | succ k2 =>
      have H:=HA.1
      clear HA
      simp only [spec_l1Num.l0] at H
      by_cases c9 : x4_2 < (a0.size : Int)
      ·rw [if_pos c9] at H
       have c9b0 : decide (x4_2 < (a0.size : Int)) = true:=decide_eq_true c9
       clear c9
       by_cases c10 : 0 ≤ x4_2
       ·rw [if_pos c10] at H
        have c10b0 : decide (0 ≤ x4_2) = true:=decide_eq_true c10
        clear c10
        by_cases c12 : (bt a0 x4_2) < 48
        ·rw [if_pos c12] at H
         have c12b0 : decide ((bt a0 x4_2) < 48) = true:=decide_eq_true c12
         clear c12
         obtain rfl:=Option.some.inj H
         have p11 : 0 ≤ (x4_2 : Int):=of_decide_eq_true (by first|(with_reducible assumption)|assumption)
         have q11 : x4_2 < (a0.size : Int):=of_decide_eq_true (by first|(with_reducible assumption)|assumption)
         have hx11:=bt_at a0 x4_2
         replace p11:=eq_true p11
         replace q11:=eq_true q11
         go_wp2
         go_ret
         exact ⟨by first|rfl|(simp;done)|(simp [*];done),by repeat (first|exact Drawn0.refl _|apply Drawn0.step)⟩
        ·rw [if_neg c12] at H
         have c12b0 : decide ((bt a0 x4_2) < 48) = false:=decide_eq_false c12
         clear c12
         by_cases c14 : (bt a0 x4_2) > 57
         ·rw [if_pos c14] at H
          have c14b0 : decide (57 < (bt a0 x4_2)) = true:=decide_eq_true c14
          clear c14
          obtain rfl:=Option.some.inj H
          have p11 : 0 ≤ (x4_2 : Int):=of_decide_eq_true (by first|(with_reducible assumption)|assumption)
          have q11 : x4_2 < (a0.size : Int):=of_decide_eq_true (by first|(with_reducible assumption)|assumption)
          have hx11:=bt_at a0 x4_2
          replace p11:=eq_true p11
          replace q11:=eq_true q11
          have p13 : 0 ≤ (x4_2 : Int):=of_decide_eq_true (by first|(with_reducible assumption)|assumption)
          have q13 : x4_2 < (a0.size : Int):=of_decide_eq_true (by first|(with_reducible assumption)|assumption)
          have hx13:=bt_at a0 x4_2
          replace p13:=eq_true p13
          replace q13:=eq_true q13
          go_wp2
          go_ret
          exact ⟨by first|rfl|(simp;done)|(simp [*];done),by repeat (first|exact Drawn0.refl _|apply Drawn0.step)⟩
         ·rw [if_neg c14] at H
          have c14b0 : decide (57 < (bt a0 x4_2)) = false:=decide_eq_false c14
          clear c14
          have H':=a1z.mk H
          clear H
          have p11 : 0 ≤ (x4_2 : Int):=of_decide_eq_true (by first|(with_reducible assumption)|assumption)
          have q11 : x4_2 < (a0.size : Int):=of_decide_eq_true (by first|(with_reducible assumption)|assumption)
          have hx11:=bt_at a0 x4_2
          replace p11:=eq_true p11
          replace q11:=eq_true q11
          have p13 : 0 ≤ (x4_2 : Int):=of_decide_eq_true (by first|(with_reducible assumption)|assumption)
          have q13 : x4_2 < (a0.size : Int):=of_decide_eq_true (by first|(with_reducible assumption)|assumption)
          have hx13:=bt_at a0 x4_2
          replace p13:=eq_true p13
          replace q13:=eq_true q13
          have p15 : 0 ≤ (x4_2 : Int):=of_decide_eq_true (by first|(with_reducible assumption)|assumption)
          have q15 : x4_2 < (a0.size : Int):=of_decide_eq_true (by first|(with_reducible assumption)|assumption)
          have hx15:=bt_at a0 x4_2
          replace p15:=eq_true p15
          replace q15:=eq_true q15
          go_wp2
          go_roundg k2
          case measure => have:=HJ1.1;have:=HK2.1;omega
          case rel => exact ⟨(wrap64 ((wrap64 (x3_2 * 10)) + (((bt a0 x4_2) - 48) % 256))),(wrap64 (x4_2 + 1)),(by first|rfl|(simp;done)|(simp [*];done)),(by first|rfl|(simp;done)|(simp [*];done)),H',⟨by have:=HJ1.1;have:=HK2.1;omega⟩,by repeat (first|exact Drawn0.refl _|apply Drawn0.step)⟩
       ·rw [if_neg c10] at H
        exact absurd H (by simp)
      ·rw [if_neg c9] at H
       have c9b0 : decide (x4_2 < (a0.size : Int)) = false:=decide_eq_false c9
       clear c9
       obtain rfl:=Option.some.inj H
       go_wp2
       go_ret
       exact ⟨by first|rfl|(simp;done)|(simp [*];done),by repeat (first|exact Drawn0.refl _|apply Drawn0.step)⟩
def spec_AddrGet.l0 : Nat → List ByteArray → Int → Int → Option (Int × Bool)
 | 0,_,_,_ => none
 | k + 1,x4,x5,x6 => if x6 < 4 then (if 0 ≤ x6 then (if x6 < (x4.length : Int) then ((spec_l1Num.f k (rdOf ByteArray.empty x4 x6)).bind fun t105 => ((spec_l1In.f t105 0 255).bind fun t106 => (if t106 = true then (spec_AddrGet.l0 k x4 (wrap64 ((wrap64 (x5 * 256)) + t105)) (wrap64 (x6 + 1))) else (some (0,false))))) else (none)) else (none)) else (some (x5,true))
def spec_AddrGet.f (k : Nat) (a0 : ByteArray) : Option (Int × Bool):=(spec_l1Cut.f k a0 46).bind fun t101 => (if (t101.length : Int) = 4 then (spec_AddrGet.l0 k t101 0 0) else (some (0,false)))
set_option maxHeartbeats 8000000 in
set_option maxRecDepth 100000 in
theorem spec_AddrGet.calls (k : Nat) (a0 : ByteArray) (r1 : Int) (r2 : Bool) (w : World) (h : spec_AddrGet.f k a0 = some (r1,r2)) :
  Calls Tryz.prog 66 #[.string a0] w fun e w' => e = .returned (.tuple #[.int .i64 r1,.bool r2]) ∧ Below w.heap.size w w':=by
 have HB:=a1z.mk (Below.refl w.heap.size w)
 have H : ((spec_l1Cut.f k a0 46).bind fun t101 => (if (t101.length : Int) = 4 then (spec_AddrGet.l0 k t101 0 0) else (some (0,false)))) = some (r1,r2):=h
 clear h
 replace H:=Option.bind_eq_some_iff.mp H
 obtain ⟨t101,A20,H⟩:=H
 replace H : (if (t101.length : Int) = 4 then (spec_AddrGet.l0 k t101 0 0) else (some (0,false))) = some (r1,r2):=H
 have A2:=a1z.mk A20
 clear A20
 by_cases c3 : (t101.length : Int) = 4
 ·rw [if_pos c3] at H
  have c3b0 : ((t101.length : Int) == 4) = true:=beq_iff_eq.mpr c3
  have c3b1 : ((t101.length : Int) != 4) = false:=bne_eq_false_iff_eq.mpr c3
  clear c3
  have H':=a1z.mk H
  clear H
  go_enter Tryz.func66,Tryz.ntmps66
  go_wp2_with (first|((with_reducible refine b2z (f:=16) rfl ?_);refine c1z (some 9) rfl rfl Tryz.func16 (by kernel_rfl) rfl #[.string a0,.int .u8 46] rfl (by (try simp only [mA_,mC_,mN_]);first|done|rfl|(simp only [lD_,lT_];rfl)) ?_;(with_reducible refine (spec_l1Cut.calls k a0 46 t101 _ A2.1).mono ?_);rintro e w4 ⟨v102,rfl,ho0,hb⟩;refine ⟨_,rfl,?_⟩;have n0_:=a1z.mk (Kd.e1z ho0 (b8z (by repeat (first|(with_reducible first|exact HB.1|apply a3z|apply a0z|apply a2z)|exact HB.1))));have n1_:=a1z.mk (b1z (by repeat (first|(with_reducible first|exact HB.1|apply a3z|apply a0z|apply a2z)|exact HB.1)) hb);clear HB;have HO103:=n0_;have HB:=n1_;clear n0_ n1_;(try clear hb);(try clear ho0);obtain ⟨Ao5,co5,eo5⟩:=Kd.e0z HO103.1;subst eo5))
  go_loopg [5,6] k (fun kq v5 v6 w' => ∃ (x5_1 : Int) (x6_1 : Int),v5 = .int .i64 x5_1 ∧ v6 = .int .i64 x6_1 ∧ a1z (spec_AddrGet.l0 kq t101 x5_1 x6_1 = some (r1,r2)) ∧ a1z (kq ≤ k) ∧ a1z (Kd.R Kd.string 9 w' w.heap.size (fun _ => True) (.slice Ao5 t101.length co5) t101) ∧ a1z (Below w.heap.size w w'))
  case atStart => exact ⟨(0),(0),(by first|rfl|(simp;done)|(simp [*];done)),(by first|rfl|(simp;done)|(simp [*];done)),H',⟨Nat.le_refl _⟩,⟨by (with_reducible repeat (first|apply Kd.R_alloc|apply Kd.b6z|apply Kd.b9z));exact HO103.1⟩,⟨by repeat (first|(with_reducible first|exact HB.1|apply a3z|apply a0z|apply a2z)|exact HB.1)⟩⟩
  case round =>
   clear H'
   try clear c1
   try clear p2
   try clear c3
   try clear c3b0
   try clear c3b1
   obtain ⟨x5_1,x6_1,rfl,rfl,HA,HK1,HO_4,HB⟩:=hrel
   cases gk with
   | zero => exact absurd HA.1 (by simp [spec_AddrGet.l0])
   | succ k1 =>
    have H:=HA.1
    clear HA
    simp only [spec_AddrGet.l0] at H
    by_cases c6 : x6_1 < 4
    ·rw [if_pos c6] at H
     have c6b0 : decide (x6_1 < 4) = true:=decide_eq_true c6
     clear c6
     by_cases c7 : 0 ≤ x6_1
     ·rw [if_pos c7] at H
      have c7b0 : decide (0 ≤ x6_1) = true:=decide_eq_true c7
      clear c7
      by_cases c8 : x6_1 < (t101.length : Int)
      ·rw [if_pos c8] at H
       have c8b0 : decide (x6_1 < (t101.length : Int)) = true:=decide_eq_true c8
       clear c8
       replace H:=Option.bind_eq_some_iff.mp H
       obtain ⟨t105,A90,H⟩:=H
       replace H : ((spec_l1In.f t105 0 255).bind fun t106 => (if t106 = true then (spec_AddrGet.l0 k1 t101 (wrap64 ((wrap64 (x5_1 * 256)) + t105)) (wrap64 (x6_1 + 1))) else (some (0,false)))) = some (r1,r2):=H
       have A9:=a1z.mk A90
       clear A90
       replace H:=Option.bind_eq_some_iff.mp H
       obtain ⟨t106,A100,H⟩:=H
       replace H : (if t106 = true then (spec_AddrGet.l0 k1 t101 (wrap64 ((wrap64 (x5_1 * 256)) + t105)) (wrap64 (x6_1 + 1))) else (some (0,false))) = some (r1,r2):=H
       have A10:=a1z.mk A100
       clear A100
       by_cases c11 : t106 = true
       ·subst c11
        have H1 : (spec_AddrGet.l0 k1 t101 (wrap64 ((wrap64 (x5_1 * 256)) + t105)) (wrap64 (x6_1 + 1))) = some (r1,r2):=by rw [if_pos rfl] at H;exact H
        clear H
        have H:=H1
        clear H1
        have H':=a1z.mk H
        clear H
        have p104 : 0 ≤ (x6_1 : Int):=of_decide_eq_true (by first|(with_reducible assumption)|assumption)
        have q104 : x6_1 < (t101.length : Int):=of_decide_eq_true (by first|(with_reducible assumption)|assumption)
        obtain ⟨ad104,e104,hx104_0⟩:=Kd.e7z (Kd.c2z HO_4.1).2.2 x6_1 p104 q104
        cases e104
        replace p104:=eq_true p104
        replace q104:=eq_true q104
        go_wp2_with (first|((with_reducible refine b2z (f:=37) rfl ?_);refine c1z (some 21) rfl rfl Tryz.func37 (by kernel_rfl) rfl #[.string (rdOf ByteArray.empty t101 x6_1)] rfl (by (try simp only [mA_,mC_,mN_]);first|done|rfl|(simp only [lD_,lT_];rfl)) ?_;(with_reducible refine (spec_l1Num.calls k1 (rdOf ByteArray.empty t101 x6_1) t105 _ A9.1).mono ?_);rintro e w' ⟨rfl,⟨nd,rfl⟩⟩;refine ⟨_,rfl,?_⟩)|((with_reducible refine b2z (f:=63) rfl ?_);refine c1z (some 23) rfl rfl Tryz.func63 (by kernel_rfl) rfl #[.int .i64 t105,.int .i64 0,.int .i64 255] rfl (by (try simp only [mA_,mC_,mN_]);first|done|rfl|(simp only [lD_,lT_];rfl)) ?_;(with_reducible refine (spec_l1In.calls t105 0 255 true _ A10.1).mono ?_);rintro e w' ⟨rfl,⟨nd,rfl⟩⟩;refine ⟨_,rfl,?_⟩))
        go_roundg k1
        case measure => have:=HK1.1;omega
        case rel => exact ⟨(wrap64 ((wrap64 (x5_1 * 256)) + t105)),(wrap64 (x6_1 + 1)),(by first|rfl|(simp;done)|(simp [*];done)),(by first|rfl|(simp;done)|(simp [*];done)),H',⟨by have:=HK1.1;omega⟩,⟨by (with_reducible repeat (first|apply Kd.R_alloc|apply Kd.b6z|apply Kd.b9z));exact HO_4.1⟩,⟨by repeat (first|(with_reducible first|exact HB.1|apply a3z|apply a0z|apply a2z)|exact HB.1)⟩⟩
       ·replace c11:=Bool.eq_false_iff.mpr c11
        subst c11
        have H1 : (some (0,false)) = some (r1,r2):=by rw [if_neg (show ¬ (false = true) by decide)] at H;exact H
        clear H
        have H:=H1
        clear H1
        simp only [Option.some.injEq,Prod.mk.injEq] at H
        obtain ⟨rfl,rfl⟩:=H
        have p104 : 0 ≤ (x6_1 : Int):=of_decide_eq_true (by first|(with_reducible assumption)|assumption)
        have q104 : x6_1 < (t101.length : Int):=of_decide_eq_true (by first|(with_reducible assumption)|assumption)
        obtain ⟨ad104,e104,hx104_0⟩:=Kd.e7z (Kd.c2z HO_4.1).2.2 x6_1 p104 q104
        cases e104
        replace p104:=eq_true p104
        replace q104:=eq_true q104
        go_wp2_with (first|((with_reducible refine b2z (f:=37) rfl ?_);refine c1z (some 21) rfl rfl Tryz.func37 (by kernel_rfl) rfl #[.string (rdOf ByteArray.empty t101 x6_1)] rfl (by (try simp only [mA_,mC_,mN_]);first|done|rfl|(simp only [lD_,lT_];rfl)) ?_;(with_reducible refine (spec_l1Num.calls k1 (rdOf ByteArray.empty t101 x6_1) t105 _ A9.1).mono ?_);rintro e w' ⟨rfl,⟨nd,rfl⟩⟩;refine ⟨_,rfl,?_⟩)|((with_reducible refine b2z (f:=63) rfl ?_);refine c1z (some 23) rfl rfl Tryz.func63 (by kernel_rfl) rfl #[.int .i64 t105,.int .i64 0,.int .i64 255] rfl (by (try simp only [mA_,mC_,mN_]);first|done|rfl|(simp only [lD_,lT_];rfl)) ?_;(with_reducible refine (spec_l1In.calls t105 0 255 false _ A10.1).mono ?_);rintro e w' ⟨rfl,⟨nd,rfl⟩⟩;refine ⟨_,rfl,?_⟩))
        go_ret2
        exact ⟨by first|rfl|(simp [b5z,b4z] <;> rfl)|(simp [*,b5z,b4z] <;> rfl),by repeat (first|(with_reducible first|exact HB.1|apply a3z|apply a0z|apply a2z)|exact HB.1)⟩
      ·rw [if_neg c8] at H
       exact absurd H (by simp)
     ·rw [if_neg c7] at H
      exact absurd H (by simp)
    ·rw [if_neg c6] at H
     have c6b0 : decide (x6_1 < 4) = false:=decide_eq_false c6
     clear c6
     simp only [Option.some.injEq,Prod.mk.injEq] at H
     obtain ⟨rfl,rfl⟩:=H
     go_wp2
     go_ret2
     exact ⟨by first|rfl|(simp [b5z,b4z] <;> rfl)|(simp [*,b5z,b4z] <;> rfl),by repeat (first|(with_reducible first|exact HB.1|apply a3z|apply a0z|apply a2z)|exact HB.1)⟩
 ·rw [if_neg c3] at H
  have c3b0 : ((t101.length : Int) == 4) = false:=beq_eq_false_iff_ne.mpr c3
  have c3b1 : ((t101.length : Int) != 4) = true:=bne_iff_ne.mpr c3
  simp only [Option.some.injEq,Prod.mk.injEq] at H
  obtain ⟨rfl,rfl⟩:=H
  go_enter Tryz.func66,Tryz.ntmps66
  go_wp2_with (first|((with_reducible refine b2z (f:=16) rfl ?_);refine c1z (some 9) rfl rfl Tryz.func16 (by kernel_rfl) rfl #[.string a0,.int .u8 46] rfl (by (try simp only [mA_,mC_,mN_]);first|done|rfl|(simp only [lD_,lT_];rfl)) ?_;(with_reducible refine (spec_l1Cut.calls k a0 46 t101 _ A2.1).mono ?_);rintro e w12 ⟨v102,rfl,ho0,hb⟩;refine ⟨_,rfl,?_⟩;have n0_:=a1z.mk (Kd.e1z ho0 (b8z (by repeat (first|(with_reducible first|exact HB.1|apply a3z|apply a0z|apply a2z)|exact HB.1))));have n1_:=a1z.mk (b1z (by repeat (first|(with_reducible first|exact HB.1|apply a3z|apply a0z|apply a2z)|exact HB.1)) hb);clear HB;have HO103:=n0_;have HB:=n1_;clear n0_ n1_;(try clear hb);(try clear ho0);obtain ⟨Ao13,co13,eo13⟩:=Kd.e0z HO103.1;subst eo13))
  go_ret2
  exact ⟨by first|rfl|(simp [b5z,b4z] <;> rfl)|(simp [*,b5z,b4z] <;> rfl),by repeat (first|(with_reducible first|exact HB.1|apply a3z|apply a0z|apply a2z)|exact HB.1)⟩
def spec_BlockGet.f (k : Nat) (a0 : ByteArray) : Option (Int × Int × Bool):=(spec_l1Cut.f k a0 47).bind fun t102 => (if (t102.length : Int) = 2 then (if 0 < (t102.length : Int) then ((spec_AddrGet.f k (rdOf ByteArray.empty t102 0)).bind fun bt106 => (if 1 < (t102.length : Int) then ((spec_l1Num.f k (rdOf ByteArray.empty t102 1)).bind fun t109 => (if bt106.2 = true then ((spec_BlockOk.f k bt106.1 t109).bind fun t111 => (if t111 = true then (some (bt106.1,t109,true)) else (some (0,0,false)))) else (some (0,0,false)))) else (none))) else (none)) else (some (0,0,false)))
set_option maxHeartbeats 8000000 in
set_option maxRecDepth 100000 in
theorem spec_BlockGet.calls (k : Nat) (a0 : ByteArray) (r1 : Int) (r2 : Int) (r3 : Bool) (w : World) (h : spec_BlockGet.f k a0 = some (r1,r2,r3)) :
  Calls Tryz.prog 36 #[.string a0] w fun e w' => e = .returned (.tuple #[.agg #[.int .i64 r1,.int .i64 r2],.bool r3]) ∧ Below w.heap.size w w':=by
 have hu37:=Tryz.underlying37
 have HB:=a1z.mk (Below.refl w.heap.size w)
 have H : ((spec_l1Cut.f k a0 47).bind fun t102 => (if (t102.length : Int) = 2 then (if 0 < (t102.length : Int) then ((spec_AddrGet.f k (rdOf ByteArray.empty t102 0)).bind fun bt106 => (if 1 < (t102.length : Int) then ((spec_l1Num.f k (rdOf ByteArray.empty t102 1)).bind fun t109 => (if bt106.2 = true then ((spec_BlockOk.f k bt106.1 t109).bind fun t111 => (if t111 = true then (some (bt106.1,t109,true)) else (some (0,0,false)))) else (some (0,0,false)))) else (none))) else (none)) else (some (0,0,false)))) = some (r1,r2,r3):=h
 clear h
 replace H:=Option.bind_eq_some_iff.mp H
 obtain ⟨t102,A20,H⟩:=H
 replace H : (if (t102.length : Int) = 2 then (if 0 < (t102.length : Int) then ((spec_AddrGet.f k (rdOf ByteArray.empty t102 0)).bind fun bt106 => (if 1 < (t102.length : Int) then ((spec_l1Num.f k (rdOf ByteArray.empty t102 1)).bind fun t109 => (if bt106.2 = true then ((spec_BlockOk.f k bt106.1 t109).bind fun t111 => (if t111 = true then (some (bt106.1,t109,true)) else (some (0,0,false)))) else (some (0,0,false)))) else (none))) else (none)) else (some (0,0,false))) = some (r1,r2,r3):=H
 have A2:=a1z.mk A20
 clear A20
 by_cases c3 : (t102.length : Int) = 2
 ·rw [if_pos c3] at H
  have c3b0 : ((t102.length : Int) == 2) = true:=beq_iff_eq.mpr c3
  have c3b1 : ((t102.length : Int) != 2) = false:=bne_eq_false_iff_eq.mpr c3
  clear c3
  by_cases c4 : 0 < (t102.length : Int)
  ·rw [if_pos c4] at H
   have c4b0 : decide (0 < (t102.length : Int)) = true:=decide_eq_true c4
   have c4b1 : decide (0 < t102.length) = true:=decide_eq_true (by omega)
   clear c4
   replace H:=Option.bind_eq_some_iff.mp H
   obtain ⟨⟨t106,t107⟩,A50,H⟩:=H
   replace H : (if 1 < (t102.length : Int) then ((spec_l1Num.f k (rdOf ByteArray.empty t102 1)).bind fun t109 => (if t107 = true then ((spec_BlockOk.f k t106 t109).bind fun t111 => (if t111 = true then (some (t106,t109,true)) else (some (0,0,false)))) else (some (0,0,false)))) else (none)) = some (r1,r2,r3):=H
   have A5:=a1z.mk A50
   clear A50
   by_cases c6 : 1 < (t102.length : Int)
   ·rw [if_pos c6] at H
    have c6b0 : decide (1 < (t102.length : Int)) = true:=decide_eq_true c6
    have c6b1 : decide (1 < t102.length) = true:=decide_eq_true (by omega)
    clear c6
    replace H:=Option.bind_eq_some_iff.mp H
    obtain ⟨t109,A70,H⟩:=H
    replace H : (if t107 = true then ((spec_BlockOk.f k t106 t109).bind fun t111 => (if t111 = true then (some (t106,t109,true)) else (some (0,0,false)))) else (some (0,0,false))) = some (r1,r2,r3):=H
    have A7:=a1z.mk A70
    clear A70
    by_cases c8 : t107 = true
    ·subst c8
     have H1 : ((spec_BlockOk.f k t106 t109).bind fun t111 => (if t111 = true then (some (t106,t109,true)) else (some (0,0,false)))) = some (r1,r2,r3):=by rw [if_pos rfl] at H;exact H
     clear H
     have H:=H1
     clear H1
     replace H:=Option.bind_eq_some_iff.mp H
     obtain ⟨t111,A90,H⟩:=H
     replace H : (if t111 = true then (some (t106,t109,true)) else (some (0,0,false))) = some (r1,r2,r3):=H
     have A9:=a1z.mk A90
     clear A90
     by_cases c10 : t111 = true
     ·subst c10
      have H1 : (some (t106,t109,true)) = some (r1,r2,r3):=by rw [if_pos rfl] at H;exact H
      clear H
      have H:=H1
      clear H1
      simp only [Option.some.injEq,Prod.mk.injEq] at H
      obtain ⟨rfl,rfl,rfl⟩:=H
      go_enter Tryz.func36,Tryz.ntmps36
      go_wp2_with (first|((with_reducible refine c5z (N:=2) rfl ?_);refine d2z ?hg (N:=2) ?hd (cs:=#[.int .i64 0,.int .i64 0]) (t:=37) ?hr ?_;(case hd => rfl);(case hg => rfl);(case hr => first|(go_simp;done)|(go_simp;rfl));intro gb101 hg w11 hbox hb;have n0_:=a1z.mk (b1z (by repeat (first|(with_reducible first|exact HB.1|apply a3z|apply a0z|apply a2z)|exact HB.1)) hb);have n1_:=a1z.mk (hbox);have n2_:=a1z.mk ((by rw [hg];exact (b8z (by repeat (first|(with_reducible first|exact HB.1|apply a3z|apply a0z|apply a2z)|exact HB.1))) : w.heap.size ≤ gb101));have n3_:=a1z.mk ((by rw [hg];exact (b8z (by repeat (first|(with_reducible first|exact HB.1|apply a3z|apply a0z|apply a2z)|exact HB.1))) : w.heap.size ≤ gb101));clear HB;have HB:=n0_;have BK101:=n1_;have GW101:=n2_;have GE101:=n3_;clear n0_ n1_ n2_ n3_;clear hb hbox hg)|((with_reducible refine b2z (f:=16) rfl ?_);refine c1z (some 9) rfl rfl Tryz.func16 (by kernel_rfl) rfl #[.string a0,.int .u8 47] rfl (by (try simp only [mA_,mC_,mN_]);first|done|rfl|(simp only [lD_,lT_];rfl)) ?_;(with_reducible refine (spec_l1Cut.calls k a0 47 t102 _ A2.1).mono ?_);rintro e w12 ⟨v103,rfl,ho0,hb⟩;refine ⟨_,rfl,?_⟩;have n0_:=a1z.mk (Kd.e1z ho0 (b8z (by repeat (first|(with_reducible first|exact HB.1|apply a3z|apply a0z|apply a2z|refine a5z ?_ GE101.1)|exact HB.1))));have n1_:=a1z.mk (c0z (g:=gb101) (o:=.cells #[.int .i64 0,.int .i64 0] 37 (0,0)) (by (with_reducible repeat (first|refine a8z ?_ _|refine a9z ?_|refine blk_alloc ?_ _));exact BK101.1) hb);have n2_:=a1z.mk (b1z (by repeat (first|(with_reducible first|exact HB.1|apply a3z|apply a0z|apply a2z|refine a5z ?_ GE101.1)|exact HB.1)) hb);clear BK101 HB;have HO104:=n0_;have BK101:=n1_;have HB:=n2_;clear n0_ n1_ n2_;(try clear hb);(try clear ho0);obtain ⟨Ao13,co13,eo13⟩:=Kd.e0z HO104.1;subst eo13;have p105 : 0 ≤ (0 : Int):=(by omega);have q105 : 0 < (t102.length : Int):=of_decide_eq_true (by first|(with_reducible assumption)|assumption);obtain ⟨ad105,e105,hx105_0⟩:=Kd.e7z (Kd.c2z HO104.1).2.2 0 p105 q105;cases e105;have qi105 : (0 < t102.length) = True:=eq_true (by omega);(try rw [show ((0 : Int)).toNat = 0 from rfl] at hx105_0);(try rw [Addr.add_zero'] at hx105_0);replace p105:=eq_true p105;replace q105:=eq_true q105)|((with_reducible refine b2z (f:=66) rfl ?_);refine c1z (some 18) rfl rfl Tryz.func66 (by kernel_rfl) rfl #[.string (rdOf ByteArray.empty t102 0)] rfl (by (try simp only [mA_,mC_,mN_]);first|done|rfl|(simp only [lD_,lT_];rfl)) ?_;(with_reducible refine (spec_AddrGet.calls k (rdOf ByteArray.empty t102 0) t106 true _ A5.1).mono ?_);rintro e w14 ⟨rfl,hb⟩;refine ⟨_,rfl,?_⟩;have n0_:=a1z.mk (Kd.d3z (by (with_reducible repeat (first|apply Kd.R_alloc|apply Kd.b6z|apply Kd.b9z));exact HO104.1) hb);have n1_:=a1z.mk (c0z (g:=gb101) (o:=.cells #[.int .i64 0,.int .i64 0] 37 (0,0)) (by (with_reducible repeat (first|refine a8z ?_ _|refine a9z ?_|refine blk_alloc ?_ _));exact BK101.1) hb);have n2_:=a1z.mk (b1z (by repeat (first|(with_reducible first|exact HB.1|apply a3z|apply a0z|apply a2z|refine a5z ?_ GE101.1)|exact HB.1)) hb);clear HO104 BK101 HB;have HO104:=n0_;have BK101:=n1_;have HB:=n2_;clear n0_ n1_ n2_;(try clear hb);have p108 : 0 ≤ (1 : Int):=(by omega);have q108 : 1 < (t102.length : Int):=of_decide_eq_true (by first|(with_reducible assumption)|assumption);obtain ⟨ad108,e108,hx108_0⟩:=Kd.e7z (Kd.c2z HO104.1).2.2 1 p108 q108;obtain rfl : ad105 = ad108:=(by injection e108);(try simp only [show (1 : Int).toNat = 1 from rfl,Nat.reduceMul,Nat.reduceEqDiff,Go.Addr.add,↓reduceIte] at hx108_0);have qi108 : (1 < t102.length) = True:=eq_true (by omega);(try rw [show ((1 : Int)).toNat = 1 from rfl] at hx108_0);replace p108:=eq_true p108;replace q108:=eq_true q108)|((with_reducible refine b2z (f:=37) rfl ?_);refine c1z (some 25) rfl rfl Tryz.func37 (by kernel_rfl) rfl #[.string (rdOf ByteArray.empty t102 1)] rfl (by (try simp only [mA_,mC_,mN_]);first|done|rfl|(simp only [lD_,lT_];rfl)) ?_;(with_reducible refine (spec_l1Num.calls k (rdOf ByteArray.empty t102 1) t109 _ A7.1).mono ?_);rintro e w' ⟨rfl,⟨nd,rfl⟩⟩;refine ⟨_,rfl,?_⟩;(try (rw [drewN_self w14];generalize hq_ : World.drewN w14 _ = w14;have n0_ : a1z (Kd.R Kd.string 9 w14 w.heap.size (fun _ => True) (.slice (some ad105) t102.length co13) t102):=⟨by rw [← hq_];exact (by (with_reducible repeat (first|apply Kd.R_alloc|apply Kd.b6z|apply Kd.b9z));exact HO104.1)⟩;have n1_ : a1z (w14.heap[gb101]? = some (.cells #[.int .i64 0,.int .i64 0] 37 (0,0))):=⟨by rw [← hq_];exact (by (with_reducible repeat (first|refine a8z ?_ _|refine a9z ?_|refine blk_alloc ?_ _));exact BK101.1)⟩;have n2_ : a1z (Below w.heap.size w w14):=⟨by rw [← hq_];exact (by repeat (first|(with_reducible first|exact HB.1|apply a3z|apply a0z|apply a2z|refine a5z ?_ GE101.1)|exact HB.1))⟩;clear HO104 BK101 HB hq_;have HO104:=n0_;have BK101:=n1_;have HB:=n2_;clear n0_ n1_ n2_)))|((with_reducible refine c5z (N:=7) rfl ?_);refine d2z ?hg (N:=7) ?hd (cs:=#[.int .i64 0,.int .i64 0]) (t:=37) ?hr ?_;(case hd => rfl);(case hg => rfl);(case hr => first|(go_simp;done)|(go_simp;rfl));intro gb110 hg w15 hbox hb;have n0_:=a1z.mk (Kd.d3z (by (with_reducible repeat (first|apply Kd.R_alloc|apply Kd.b6z|apply Kd.b9z));exact HO104.1) hb);have n1_:=a1z.mk (c0z (g:=gb101) (o:=.cells #[.int .i64 0,.int .i64 0] 37 (0,0)) (by (with_reducible repeat (first|refine a8z ?_ _|refine a9z ?_|refine blk_alloc ?_ _));exact BK101.1) hb);have n2_:=a1z.mk (b1z (by repeat (first|(with_reducible first|exact HB.1|apply a3z|apply a0z|apply a2z|refine a5z ?_ GE101.1)|exact HB.1)) hb);have n3_:=a1z.mk (hbox);have n4_:=a1z.mk ((by rw [hg];exact (b8z (by repeat (first|(with_reducible first|exact HB.1|apply a3z|apply a0z|apply a2z|refine a5z ?_ GE101.1)|exact HB.1))) : w.heap.size ≤ gb110));have n5_:=a1z.mk ((by rw [hg];exact (b8z (by repeat (first|(with_reducible first|exact HB.1|apply a3z|apply a0z|apply a2z|refine a5z ?_ GE101.1)|exact HB.1))) : w.heap.size ≤ gb110));have n6_:=a1z.mk ((by rw [hg];exact Nat.ne_of_lt (f6z (g:=gb101) (o:=.cells #[.int .i64 0,.int .i64 0] 37 (0,0)) (by (with_reducible repeat (first|refine a8z ?_ _|refine a9z ?_|refine blk_alloc ?_ _));exact BK101.1)) : gb101 ≠ gb110));have n7_:=a1z.mk ((by rw [hg];exact Nat.ne_of_gt (f6z (g:=gb101) (o:=.cells #[.int .i64 0,.int .i64 0] 37 (0,0)) (by (with_reducible repeat (first|refine a8z ?_ _|refine a9z ?_|refine blk_alloc ?_ _));exact BK101.1)) : gb110 ≠ gb101));clear HO104 BK101 HB;have HO104:=n0_;have BK101:=n1_;have HB:=n2_;have BK110:=n3_;have GW110:=n4_;have GE110:=n5_;have NB101_110:=n6_;have NB110_101:=n7_;clear n0_ n1_ n2_ n3_ n4_ n5_ n6_ n7_;clear hb hbox hg;have hnb16:=NB110_101.1;have hnc16:=NB101_110.1;have hcz17_0:=c20_ BK110.1;have hcz17_1:=c21_ BK110.1;have hfz17_0:=a4z BK110.1 0;have hfz17_1:=a4z BK110.1 1)|(go_at_call 62;(with_reducible refine (spec_BlockOk.calls k t106 t109 true _ A9.1).mono ?_);rintro e w18 ⟨rfl,hb⟩;have n0_:=a1z.mk (Kd.d3z (by (with_reducible repeat (first|apply Kd.R_alloc|apply Kd.b6z|apply Kd.b9z));exact (Kd.c9z (Kd.R_far (p:=⟨gb110,1,none⟩) (Kd.R_far (p:=⟨gb110,0,none⟩) (Kd.g9z HO104.1 BK110.1 (by decide)) (fun _ hk => hk.2) (.int .i64 t106)) (fun _ hk => hk.2) (.int .i64 t109)) (fun _ h_ => h_.1))) hb);have n1_:=a1z.mk (c0z (g:=gb101) (o:=.cells #[.int .i64 0,.int .i64 0] 37 (0,0)) (by (with_reducible repeat (first|refine a8z ?_ _|refine a9z ?_|refine blk_alloc ?_ _|refine f3z ?_ NB101_110.1 _));exact BK101.1) hb);have n2_:=a1z.mk (c0z (g:=gb110) (o:=.cells #[.int .i64 t106,.int .i64 t109] 37 (0,0)) (by (with_reducible repeat (first|refine a8z ?_ _|refine a9z ?_|refine blk_alloc ?_ _));refine c4z (cs:=#[.int .i64 t106,.int .i64 0]) ?_ 1 _ rfl;(with_reducible repeat (first|refine a8z ?_ _|refine a9z ?_|refine blk_alloc ?_ _));refine c4z (cs:=#[.int .i64 0,.int .i64 0]) ?_ 0 _ rfl;(with_reducible repeat (first|refine a8z ?_ _|refine a9z ?_|refine blk_alloc ?_ _));exact BK110.1) hb);have n3_:=a1z.mk (b1z (by repeat (first|(with_reducible first|exact HB.1|apply a3z|apply a0z|apply a2z|refine a5z ?_ GE101.1|refine a5z ?_ GE110.1)|exact HB.1)) hb);clear HO104 BK101 BK110 HB;have HO104:=n0_;have BK101:=n1_;have BK110:=n2_;have HB:=n3_;clear n0_ n1_ n2_ n3_;(try clear hb);(try clear hk);have hcz19_0:=c20_ BK110.1;have hcz19_1:=c21_ BK110.1;have hfz19_0:=a4z BK110.1 0;have hfz19_1:=a4z BK110.1 1;have hcz20_0:=c20_ BK101.1;have hcz20_1:=c21_ BK101.1;have hfz20_0:=a4z BK101.1 0;have hfz20_1:=a4z BK101.1 1))
      refine bodyPost_ret (f5z rfl _ _ gb101 37 #[.int .i64 t106,.int .i64 t109] (0,0) _ rfl (by (with_reducible repeat (first|refine a8z ?_ _|refine a9z ?_|refine blk_alloc ?_ _));refine c4z (cs:=#[.int .i64 t106,.int .i64 0]) ?_ 1 _ rfl;(with_reducible repeat (first|refine a8z ?_ _|refine a9z ?_|refine blk_alloc ?_ _));refine c4z (cs:=#[.int .i64 0,.int .i64 0]) ?_ 0 _ rfl;(with_reducible repeat (first|refine a8z ?_ _|refine a9z ?_|refine blk_alloc ?_ _));exact BK101.1) Tryz.underlying37 rfl (by kernel_rfl)) rfl ?_
      exact ⟨by first|rfl|(simp [b5z,b4z] <;> rfl)|(simp [*,b5z,b4z] <;> rfl),by repeat (first|(with_reducible first|exact HB.1|apply a3z|apply a0z|apply a2z|refine a5z ?_ GE101.1|refine a5z ?_ GE110.1)|exact HB.1)⟩
     ·replace c10:=Bool.eq_false_iff.mpr c10
      subst c10
      have H1 : (some (0,0,false)) = some (r1,r2,r3):=by rw [if_neg (show ¬ (false = true) by decide)] at H;exact H
      clear H
      have H:=H1
      clear H1
      simp only [Option.some.injEq,Prod.mk.injEq] at H
      obtain ⟨rfl,rfl,rfl⟩:=H
      go_enter Tryz.func36,Tryz.ntmps36
      go_wp2_with (first|((with_reducible refine c5z (N:=2) rfl ?_);refine d2z ?hg (N:=2) ?hd (cs:=#[.int .i64 0,.int .i64 0]) (t:=37) ?hr ?_;(case hd => rfl);(case hg => rfl);(case hr => first|(go_simp;done)|(go_simp;rfl));intro gb101 hg w21 hbox hb;have n0_:=a1z.mk (b1z (by repeat (first|(with_reducible first|exact HB.1|apply a3z|apply a0z|apply a2z)|exact HB.1)) hb);have n1_:=a1z.mk (hbox);have n2_:=a1z.mk ((by rw [hg];exact (b8z (by repeat (first|(with_reducible first|exact HB.1|apply a3z|apply a0z|apply a2z)|exact HB.1))) : w.heap.size ≤ gb101));have n3_:=a1z.mk ((by rw [hg];exact (b8z (by repeat (first|(with_reducible first|exact HB.1|apply a3z|apply a0z|apply a2z)|exact HB.1))) : w.heap.size ≤ gb101));clear HB;have HB:=n0_;have BK101:=n1_;have GW101:=n2_;have GE101:=n3_;clear n0_ n1_ n2_ n3_;clear hb hbox hg)|((with_reducible refine b2z (f:=16) rfl ?_);refine c1z (some 9) rfl rfl Tryz.func16 (by kernel_rfl) rfl #[.string a0,.int .u8 47] rfl (by (try simp only [mA_,mC_,mN_]);first|done|rfl|(simp only [lD_,lT_];rfl)) ?_;(with_reducible refine (spec_l1Cut.calls k a0 47 t102 _ A2.1).mono ?_);rintro e w22 ⟨v103,rfl,ho0,hb⟩;refine ⟨_,rfl,?_⟩;have n0_:=a1z.mk (Kd.e1z ho0 (b8z (by repeat (first|(with_reducible first|exact HB.1|apply a3z|apply a0z|apply a2z|refine a5z ?_ GE101.1)|exact HB.1))));have n1_:=a1z.mk (c0z (g:=gb101) (o:=.cells #[.int .i64 0,.int .i64 0] 37 (0,0)) (by (with_reducible repeat (first|refine a8z ?_ _|refine a9z ?_|refine blk_alloc ?_ _));exact BK101.1) hb);have n2_:=a1z.mk (b1z (by repeat (first|(with_reducible first|exact HB.1|apply a3z|apply a0z|apply a2z|refine a5z ?_ GE101.1)|exact HB.1)) hb);clear BK101 HB;have HO104:=n0_;have BK101:=n1_;have HB:=n2_;clear n0_ n1_ n2_;(try clear hb);(try clear ho0);obtain ⟨Ao23,co23,eo23⟩:=Kd.e0z HO104.1;subst eo23;have p105 : 0 ≤ (0 : Int):=(by omega);have q105 : 0 < (t102.length : Int):=of_decide_eq_true (by first|(with_reducible assumption)|assumption);obtain ⟨ad105,e105,hx105_0⟩:=Kd.e7z (Kd.c2z HO104.1).2.2 0 p105 q105;cases e105;have qi105 : (0 < t102.length) = True:=eq_true (by omega);(try rw [show ((0 : Int)).toNat = 0 from rfl] at hx105_0);(try rw [Addr.add_zero'] at hx105_0);replace p105:=eq_true p105;replace q105:=eq_true q105)|((with_reducible refine b2z (f:=66) rfl ?_);refine c1z (some 18) rfl rfl Tryz.func66 (by kernel_rfl) rfl #[.string (rdOf ByteArray.empty t102 0)] rfl (by (try simp only [mA_,mC_,mN_]);first|done|rfl|(simp only [lD_,lT_];rfl)) ?_;(with_reducible refine (spec_AddrGet.calls k (rdOf ByteArray.empty t102 0) t106 true _ A5.1).mono ?_);rintro e w24 ⟨rfl,hb⟩;refine ⟨_,rfl,?_⟩;have n0_:=a1z.mk (Kd.d3z (by (with_reducible repeat (first|apply Kd.R_alloc|apply Kd.b6z|apply Kd.b9z));exact HO104.1) hb);have n1_:=a1z.mk (c0z (g:=gb101) (o:=.cells #[.int .i64 0,.int .i64 0] 37 (0,0)) (by (with_reducible repeat (first|refine a8z ?_ _|refine a9z ?_|refine blk_alloc ?_ _));exact BK101.1) hb);have n2_:=a1z.mk (b1z (by repeat (first|(with_reducible first|exact HB.1|apply a3z|apply a0z|apply a2z|refine a5z ?_ GE101.1)|exact HB.1)) hb);clear HO104 BK101 HB;have HO104:=n0_;have BK101:=n1_;have HB:=n2_;clear n0_ n1_ n2_;(try clear hb);have p108 : 0 ≤ (1 : Int):=(by omega);have q108 : 1 < (t102.length : Int):=of_decide_eq_true (by first|(with_reducible assumption)|assumption);obtain ⟨ad108,e108,hx108_0⟩:=Kd.e7z (Kd.c2z HO104.1).2.2 1 p108 q108;obtain rfl : ad105 = ad108:=(by injection e108);(try simp only [show (1 : Int).toNat = 1 from rfl,Nat.reduceMul,Nat.reduceEqDiff,Go.Addr.add,↓reduceIte] at hx108_0);have qi108 : (1 < t102.length) = True:=eq_true (by omega);(try rw [show ((1 : Int)).toNat = 1 from rfl] at hx108_0);replace p108:=eq_true p108;replace q108:=eq_true q108)|((with_reducible refine b2z (f:=37) rfl ?_);refine c1z (some 25) rfl rfl Tryz.func37 (by kernel_rfl) rfl #[.string (rdOf ByteArray.empty t102 1)] rfl (by (try simp only [mA_,mC_,mN_]);first|done|rfl|(simp only [lD_,lT_];rfl)) ?_;(with_reducible refine (spec_l1Num.calls k (rdOf ByteArray.empty t102 1) t109 _ A7.1).mono ?_);rintro e w' ⟨rfl,⟨nd,rfl⟩⟩;refine ⟨_,rfl,?_⟩;(try (rw [drewN_self w24];generalize hq_ : World.drewN w24 _ = w24;have n0_ : a1z (Kd.R Kd.string 9 w24 w.heap.size (fun _ => True) (.slice (some ad105) t102.length co23) t102):=⟨by rw [← hq_];exact (by (with_reducible repeat (first|apply Kd.R_alloc|apply Kd.b6z|apply Kd.b9z));exact HO104.1)⟩;have n1_ : a1z (w24.heap[gb101]? = some (.cells #[.int .i64 0,.int .i64 0] 37 (0,0))):=⟨by rw [← hq_];exact (by (with_reducible repeat (first|refine a8z ?_ _|refine a9z ?_|refine blk_alloc ?_ _));exact BK101.1)⟩;have n2_ : a1z (Below w.heap.size w w24):=⟨by rw [← hq_];exact (by repeat (first|(with_reducible first|exact HB.1|apply a3z|apply a0z|apply a2z|refine a5z ?_ GE101.1)|exact HB.1))⟩;clear HO104 BK101 HB hq_;have HO104:=n0_;have BK101:=n1_;have HB:=n2_;clear n0_ n1_ n2_)))|((with_reducible refine c5z (N:=7) rfl ?_);refine d2z ?hg (N:=7) ?hd (cs:=#[.int .i64 0,.int .i64 0]) (t:=37) ?hr ?_;(case hd => rfl);(case hg => rfl);(case hr => first|(go_simp;done)|(go_simp;rfl));intro gb110 hg w25 hbox hb;have n0_:=a1z.mk (Kd.d3z (by (with_reducible repeat (first|apply Kd.R_alloc|apply Kd.b6z|apply Kd.b9z));exact HO104.1) hb);have n1_:=a1z.mk (c0z (g:=gb101) (o:=.cells #[.int .i64 0,.int .i64 0] 37 (0,0)) (by (with_reducible repeat (first|refine a8z ?_ _|refine a9z ?_|refine blk_alloc ?_ _));exact BK101.1) hb);have n2_:=a1z.mk (b1z (by repeat (first|(with_reducible first|exact HB.1|apply a3z|apply a0z|apply a2z|refine a5z ?_ GE101.1)|exact HB.1)) hb);have n3_:=a1z.mk (hbox);have n4_:=a1z.mk ((by rw [hg];exact (b8z (by repeat (first|(with_reducible first|exact HB.1|apply a3z|apply a0z|apply a2z|refine a5z ?_ GE101.1)|exact HB.1))) : w.heap.size ≤ gb110));have n5_:=a1z.mk ((by rw [hg];exact (b8z (by repeat (first|(with_reducible first|exact HB.1|apply a3z|apply a0z|apply a2z|refine a5z ?_ GE101.1)|exact HB.1))) : w.heap.size ≤ gb110));have n6_:=a1z.mk ((by rw [hg];exact Nat.ne_of_lt (f6z (g:=gb101) (o:=.cells #[.int .i64 0,.int .i64 0] 37 (0,0)) (by (with_reducible repeat (first|refine a8z ?_ _|refine a9z ?_|refine blk_alloc ?_ _));exact BK101.1)) : gb101 ≠ gb110));have n7_:=a1z.mk ((by rw [hg];exact Nat.ne_of_gt (f6z (g:=gb101) (o:=.cells #[.int .i64 0,.int .i64 0] 37 (0,0)) (by (with_reducible repeat (first|refine a8z ?_ _|refine a9z ?_|refine blk_alloc ?_ _));exact BK101.1)) : gb110 ≠ gb101));clear HO104 BK101 HB;have HO104:=n0_;have BK101:=n1_;have HB:=n2_;have BK110:=n3_;have GW110:=n4_;have GE110:=n5_;have NB101_110:=n6_;have NB110_101:=n7_;clear n0_ n1_ n2_ n3_ n4_ n5_ n6_ n7_;clear hb hbox hg;have hnb26:=NB110_101.1;have hnc26:=NB101_110.1;have hcz27_0:=c20_ BK110.1;have hcz27_1:=c21_ BK110.1;have hfz27_0:=a4z BK110.1 0;have hfz27_1:=a4z BK110.1 1)|(go_at_call 62;(with_reducible refine (spec_BlockOk.calls k t106 t109 false _ A9.1).mono ?_);rintro e w28 ⟨rfl,hb⟩;have n0_:=a1z.mk (Kd.d3z (by (with_reducible repeat (first|apply Kd.R_alloc|apply Kd.b6z|apply Kd.b9z));exact (Kd.c9z (Kd.R_far (p:=⟨gb110,1,none⟩) (Kd.R_far (p:=⟨gb110,0,none⟩) (Kd.g9z HO104.1 BK110.1 (by decide)) (fun _ hk => hk.2) (.int .i64 t106)) (fun _ hk => hk.2) (.int .i64 t109)) (fun _ h_ => h_.1))) hb);have n1_:=a1z.mk (c0z (g:=gb101) (o:=.cells #[.int .i64 0,.int .i64 0] 37 (0,0)) (by (with_reducible repeat (first|refine a8z ?_ _|refine a9z ?_|refine blk_alloc ?_ _|refine f3z ?_ NB101_110.1 _));exact BK101.1) hb);have n2_:=a1z.mk (c0z (g:=gb110) (o:=.cells #[.int .i64 t106,.int .i64 t109] 37 (0,0)) (by (with_reducible repeat (first|refine a8z ?_ _|refine a9z ?_|refine blk_alloc ?_ _));refine c4z (cs:=#[.int .i64 t106,.int .i64 0]) ?_ 1 _ rfl;(with_reducible repeat (first|refine a8z ?_ _|refine a9z ?_|refine blk_alloc ?_ _));refine c4z (cs:=#[.int .i64 0,.int .i64 0]) ?_ 0 _ rfl;(with_reducible repeat (first|refine a8z ?_ _|refine a9z ?_|refine blk_alloc ?_ _));exact BK110.1) hb);have n3_:=a1z.mk (b1z (by repeat (first|(with_reducible first|exact HB.1|apply a3z|apply a0z|apply a2z|refine a5z ?_ GE101.1|refine a5z ?_ GE110.1)|exact HB.1)) hb);clear HO104 BK101 BK110 HB;have HO104:=n0_;have BK101:=n1_;have BK110:=n2_;have HB:=n3_;clear n0_ n1_ n2_ n3_;(try clear hb);(try clear hk);have hcz29_0:=c20_ BK101.1;have hcz29_1:=c21_ BK101.1;have hfz29_0:=a4z BK101.1 0;have hfz29_1:=a4z BK101.1 1))
      refine bodyPost_ret (f5z rfl _ _ gb101 37 #[.int .i64 0,.int .i64 0] (0,0) _ rfl (by (with_reducible repeat (first|refine a8z ?_ _|refine a9z ?_|refine blk_alloc ?_ _));refine c4z (cs:=#[.int .i64 0,.int .i64 0]) ?_ 1 _ rfl;(with_reducible repeat (first|refine a8z ?_ _|refine a9z ?_|refine blk_alloc ?_ _));refine c4z (cs:=#[.int .i64 0,.int .i64 0]) ?_ 0 _ rfl;(with_reducible repeat (first|refine a8z ?_ _|refine a9z ?_|refine blk_alloc ?_ _));exact BK101.1) Tryz.underlying37 rfl (by kernel_rfl)) rfl ?_
      exact ⟨by first|rfl|(simp [b5z,b4z] <;> rfl)|(simp [*,b5z,b4z] <;> rfl),by repeat (first|(with_reducible first|exact HB.1|apply a3z|apply a0z|apply a2z|refine a5z ?_ GE101.1|refine a5z ?_ GE110.1)|exact HB.1)⟩
    ·replace c8:=Bool.eq_false_iff.mpr c8
     subst c8
     have H1 : (some (0,0,false)) = some (r1,r2,r3):=by rw [if_neg (show ¬ (false = true) by decide)] at H;exact H
     clear H
     have H:=H1
     clear H1
     simp only [Option.some.injEq,Prod.mk.injEq] at H
     obtain ⟨rfl,rfl,rfl⟩:=H
     go_enter Tryz.func36,Tryz.ntmps36
     go_wp2_with (first|((with_reducible refine c5z (N:=2) rfl ?_);refine d2z ?hg (N:=2) ?hd (cs:=#[.int .i64 0,.int .i64 0]) (t:=37) ?hr ?_;(case hd => rfl);(case hg => rfl);(case hr => first|(go_simp;done)|(go_simp;rfl));intro gb101 hg w30 hbox hb;have n0_:=a1z.mk (b1z (by repeat (first|(with_reducible first|exact HB.1|apply a3z|apply a0z|apply a2z)|exact HB.1)) hb);have n1_:=a1z.mk (hbox);have n2_:=a1z.mk ((by rw [hg];exact (b8z (by repeat (first|(with_reducible first|exact HB.1|apply a3z|apply a0z|apply a2z)|exact HB.1))) : w.heap.size ≤ gb101));have n3_:=a1z.mk ((by rw [hg];exact (b8z (by repeat (first|(with_reducible first|exact HB.1|apply a3z|apply a0z|apply a2z)|exact HB.1))) : w.heap.size ≤ gb101));clear HB;have HB:=n0_;have BK101:=n1_;have GW101:=n2_;have GE101:=n3_;clear n0_ n1_ n2_ n3_;clear hb hbox hg)|((with_reducible refine b2z (f:=16) rfl ?_);refine c1z (some 9) rfl rfl Tryz.func16 (by kernel_rfl) rfl #[.string a0,.int .u8 47] rfl (by (try simp only [mA_,mC_,mN_]);first|done|rfl|(simp only [lD_,lT_];rfl)) ?_;(with_reducible refine (spec_l1Cut.calls k a0 47 t102 _ A2.1).mono ?_);rintro e w31 ⟨v103,rfl,ho0,hb⟩;refine ⟨_,rfl,?_⟩;have n0_:=a1z.mk (Kd.e1z ho0 (b8z (by repeat (first|(with_reducible first|exact HB.1|apply a3z|apply a0z|apply a2z|refine a5z ?_ GE101.1)|exact HB.1))));have n1_:=a1z.mk (c0z (g:=gb101) (o:=.cells #[.int .i64 0,.int .i64 0] 37 (0,0)) (by (with_reducible repeat (first|refine a8z ?_ _|refine a9z ?_|refine blk_alloc ?_ _));exact BK101.1) hb);have n2_:=a1z.mk (b1z (by repeat (first|(with_reducible first|exact HB.1|apply a3z|apply a0z|apply a2z|refine a5z ?_ GE101.1)|exact HB.1)) hb);clear BK101 HB;have HO104:=n0_;have BK101:=n1_;have HB:=n2_;clear n0_ n1_ n2_;(try clear hb);(try clear ho0);obtain ⟨Ao32,co32,eo32⟩:=Kd.e0z HO104.1;subst eo32;have p105 : 0 ≤ (0 : Int):=(by omega);have q105 : 0 < (t102.length : Int):=of_decide_eq_true (by first|(with_reducible assumption)|assumption);obtain ⟨ad105,e105,hx105_0⟩:=Kd.e7z (Kd.c2z HO104.1).2.2 0 p105 q105;cases e105;have qi105 : (0 < t102.length) = True:=eq_true (by omega);(try rw [show ((0 : Int)).toNat = 0 from rfl] at hx105_0);(try rw [Addr.add_zero'] at hx105_0);replace p105:=eq_true p105;replace q105:=eq_true q105)|((with_reducible refine b2z (f:=66) rfl ?_);refine c1z (some 18) rfl rfl Tryz.func66 (by kernel_rfl) rfl #[.string (rdOf ByteArray.empty t102 0)] rfl (by (try simp only [mA_,mC_,mN_]);first|done|rfl|(simp only [lD_,lT_];rfl)) ?_;(with_reducible refine (spec_AddrGet.calls k (rdOf ByteArray.empty t102 0) t106 false _ A5.1).mono ?_);rintro e w33 ⟨rfl,hb⟩;refine ⟨_,rfl,?_⟩;have n0_:=a1z.mk (Kd.d3z (by (with_reducible repeat (first|apply Kd.R_alloc|apply Kd.b6z|apply Kd.b9z));exact HO104.1) hb);have n1_:=a1z.mk (c0z (g:=gb101) (o:=.cells #[.int .i64 0,.int .i64 0] 37 (0,0)) (by (with_reducible repeat (first|refine a8z ?_ _|refine a9z ?_|refine blk_alloc ?_ _));exact BK101.1) hb);have n2_:=a1z.mk (b1z (by repeat (first|(with_reducible first|exact HB.1|apply a3z|apply a0z|apply a2z|refine a5z ?_ GE101.1)|exact HB.1)) hb);clear HO104 BK101 HB;have HO104:=n0_;have BK101:=n1_;have HB:=n2_;clear n0_ n1_ n2_;(try clear hb);have p108 : 0 ≤ (1 : Int):=(by omega);have q108 : 1 < (t102.length : Int):=of_decide_eq_true (by first|(with_reducible assumption)|assumption);obtain ⟨ad108,e108,hx108_0⟩:=Kd.e7z (Kd.c2z HO104.1).2.2 1 p108 q108;obtain rfl : ad105 = ad108:=(by injection e108);(try simp only [show (1 : Int).toNat = 1 from rfl,Nat.reduceMul,Nat.reduceEqDiff,Go.Addr.add,↓reduceIte] at hx108_0);have qi108 : (1 < t102.length) = True:=eq_true (by omega);(try rw [show ((1 : Int)).toNat = 1 from rfl] at hx108_0);replace p108:=eq_true p108;replace q108:=eq_true q108)|((with_reducible refine b2z (f:=37) rfl ?_);refine c1z (some 25) rfl rfl Tryz.func37 (by kernel_rfl) rfl #[.string (rdOf ByteArray.empty t102 1)] rfl (by (try simp only [mA_,mC_,mN_]);first|done|rfl|(simp only [lD_,lT_];rfl)) ?_;(with_reducible refine (spec_l1Num.calls k (rdOf ByteArray.empty t102 1) t109 _ A7.1).mono ?_);rintro e w' ⟨rfl,⟨nd,rfl⟩⟩;refine ⟨_,rfl,?_⟩;(try (rw [drewN_self w33];generalize hq_ : World.drewN w33 _ = w33;have n0_ : a1z (Kd.R Kd.string 9 w33 w.heap.size (fun _ => True) (.slice (some ad105) t102.length co32) t102):=⟨by rw [← hq_];exact (by (with_reducible repeat (first|apply Kd.R_alloc|apply Kd.b6z|apply Kd.b9z));exact HO104.1)⟩;have n1_ : a1z (w33.heap[gb101]? = some (.cells #[.int .i64 0,.int .i64 0] 37 (0,0))):=⟨by rw [← hq_];exact (by (with_reducible repeat (first|refine a8z ?_ _|refine a9z ?_|refine blk_alloc ?_ _));exact BK101.1)⟩;have n2_ : a1z (Below w.heap.size w w33):=⟨by rw [← hq_];exact (by repeat (first|(with_reducible first|exact HB.1|apply a3z|apply a0z|apply a2z|refine a5z ?_ GE101.1)|exact HB.1))⟩;clear HO104 BK101 HB hq_;have HO104:=n0_;have BK101:=n1_;have HB:=n2_;clear n0_ n1_ n2_)))|((with_reducible refine c5z (N:=7) rfl ?_);refine d2z ?hg (N:=7) ?hd (cs:=#[.int .i64 0,.int .i64 0]) (t:=37) ?hr ?_;(case hd => rfl);(case hg => rfl);(case hr => first|(go_simp;done)|(go_simp;rfl));intro gb110 hg w34 hbox hb;have n0_:=a1z.mk (Kd.d3z (by (with_reducible repeat (first|apply Kd.R_alloc|apply Kd.b6z|apply Kd.b9z));exact HO104.1) hb);have n1_:=a1z.mk (c0z (g:=gb101) (o:=.cells #[.int .i64 0,.int .i64 0] 37 (0,0)) (by (with_reducible repeat (first|refine a8z ?_ _|refine a9z ?_|refine blk_alloc ?_ _));exact BK101.1) hb);have n2_:=a1z.mk (b1z (by repeat (first|(with_reducible first|exact HB.1|apply a3z|apply a0z|apply a2z|refine a5z ?_ GE101.1)|exact HB.1)) hb);have n3_:=a1z.mk (hbox);have n4_:=a1z.mk ((by rw [hg];exact (b8z (by repeat (first|(with_reducible first|exact HB.1|apply a3z|apply a0z|apply a2z|refine a5z ?_ GE101.1)|exact HB.1))) : w.heap.size ≤ gb110));have n5_:=a1z.mk ((by rw [hg];exact (b8z (by repeat (first|(with_reducible first|exact HB.1|apply a3z|apply a0z|apply a2z|refine a5z ?_ GE101.1)|exact HB.1))) : w.heap.size ≤ gb110));have n6_:=a1z.mk ((by rw [hg];exact Nat.ne_of_lt (f6z (g:=gb101) (o:=.cells #[.int .i64 0,.int .i64 0] 37 (0,0)) (by (with_reducible repeat (first|refine a8z ?_ _|refine a9z ?_|refine blk_alloc ?_ _));exact BK101.1)) : gb101 ≠ gb110));have n7_:=a1z.mk ((by rw [hg];exact Nat.ne_of_gt (f6z (g:=gb101) (o:=.cells #[.int .i64 0,.int .i64 0] 37 (0,0)) (by (with_reducible repeat (first|refine a8z ?_ _|refine a9z ?_|refine blk_alloc ?_ _));exact BK101.1)) : gb110 ≠ gb101));clear HO104 BK101 HB;have HO104:=n0_;have BK101:=n1_;have HB:=n2_;have BK110:=n3_;have GW110:=n4_;have GE110:=n5_;have NB101_110:=n6_;have NB110_101:=n7_;clear n0_ n1_ n2_ n3_ n4_ n5_ n6_ n7_;clear hb hbox hg;have hnb35:=NB110_101.1;have hnc35:=NB101_110.1;have hcz36_0:=c20_ BK110.1;have hcz36_1:=c21_ BK110.1;have hfz36_0:=a4z BK110.1 0;have hfz36_1:=a4z BK110.1 1;have hcz37_0:=c20_ BK101.1;have hcz37_1:=c21_ BK101.1;have hfz37_0:=a4z BK101.1 0;have hfz37_1:=a4z BK101.1 1))
     refine bodyPost_ret (f5z rfl _ _ gb101 37 #[.int .i64 0,.int .i64 0] (0,0) _ rfl (by (with_reducible repeat (first|refine a8z ?_ _|refine a9z ?_|refine blk_alloc ?_ _));refine c4z (cs:=#[.int .i64 0,.int .i64 0]) ?_ 1 _ rfl;(with_reducible repeat (first|refine a8z ?_ _|refine a9z ?_|refine blk_alloc ?_ _));refine c4z (cs:=#[.int .i64 0,.int .i64 0]) ?_ 0 _ rfl;(with_reducible repeat (first|refine a8z ?_ _|refine a9z ?_|refine blk_alloc ?_ _|refine f3z ?_ NB101_110.1 _));exact BK101.1) Tryz.underlying37 rfl (by kernel_rfl)) rfl ?_
     exact ⟨by first|rfl|(simp [b5z,b4z] <;> rfl)|(simp [*,b5z,b4z] <;> rfl),by repeat (first|(with_reducible first|exact HB.1|apply a3z|apply a0z|apply a2z|refine a5z ?_ GE101.1|refine a5z ?_ GE110.1)|exact HB.1)⟩
   ·rw [if_neg c6] at H
    exact absurd H (by simp)
  ·rw [if_neg c4] at H
   exact absurd H (by simp)
 ·rw [if_neg c3] at H
  have c3b0 : ((t102.length : Int) == 2) = false:=beq_eq_false_iff_ne.mpr c3
  have c3b1 : ((t102.length : Int) != 2) = true:=bne_iff_ne.mpr c3
  simp only [Option.some.injEq,Prod.mk.injEq] at H
  obtain ⟨rfl,rfl,rfl⟩:=H
  go_enter Tryz.func36,Tryz.ntmps36
  go_wp2_with (first|((with_reducible refine c5z (N:=2) rfl ?_);refine d2z ?hg (N:=2) ?hd (cs:=#[.int .i64 0,.int .i64 0]) (t:=37) ?hr ?_;(case hd => rfl);(case hg => rfl);(case hr => first|(go_simp;done)|(go_simp;rfl));intro gb101 hg w38 hbox hb;have n0_:=a1z.mk (b1z (by repeat (first|(with_reducible first|exact HB.1|apply a3z|apply a0z|apply a2z)|exact HB.1)) hb);have n1_:=a1z.mk (hbox);have n2_:=a1z.mk ((by rw [hg];exact (b8z (by repeat (first|(with_reducible first|exact HB.1|apply a3z|apply a0z|apply a2z)|exact HB.1))) : w.heap.size ≤ gb101));have n3_:=a1z.mk ((by rw [hg];exact (b8z (by repeat (first|(with_reducible first|exact HB.1|apply a3z|apply a0z|apply a2z)|exact HB.1))) : w.heap.size ≤ gb101));clear HB;have HB:=n0_;have BK101:=n1_;have GW101:=n2_;have GE101:=n3_;clear n0_ n1_ n2_ n3_;clear hb hbox hg)|((with_reducible refine b2z (f:=16) rfl ?_);refine c1z (some 9) rfl rfl Tryz.func16 (by kernel_rfl) rfl #[.string a0,.int .u8 47] rfl (by (try simp only [mA_,mC_,mN_]);first|done|rfl|(simp only [lD_,lT_];rfl)) ?_;(with_reducible refine (spec_l1Cut.calls k a0 47 t102 _ A2.1).mono ?_);rintro e w39 ⟨v103,rfl,ho0,hb⟩;refine ⟨_,rfl,?_⟩;have n0_:=a1z.mk (Kd.e1z ho0 (b8z (by repeat (first|(with_reducible first|exact HB.1|apply a3z|apply a0z|apply a2z|refine a5z ?_ GE101.1)|exact HB.1))));have n1_:=a1z.mk (c0z (g:=gb101) (o:=.cells #[.int .i64 0,.int .i64 0] 37 (0,0)) (by (with_reducible repeat (first|refine a8z ?_ _|refine a9z ?_|refine blk_alloc ?_ _));exact BK101.1) hb);have n2_:=a1z.mk (b1z (by repeat (first|(with_reducible first|exact HB.1|apply a3z|apply a0z|apply a2z|refine a5z ?_ GE101.1)|exact HB.1)) hb);clear BK101 HB;have HO104:=n0_;have BK101:=n1_;have HB:=n2_;clear n0_ n1_ n2_;(try clear hb);(try clear ho0);obtain ⟨Ao40,co40,eo40⟩:=Kd.e0z HO104.1;subst eo40;have hcz41_0:=c20_ BK101.1;have hcz41_1:=c21_ BK101.1;have hfz41_0:=a4z BK101.1 0;have hfz41_1:=a4z BK101.1 1))
  refine bodyPost_ret (f5z rfl _ _ gb101 37 #[.int .i64 0,.int .i64 0] (0,0) _ rfl (by (with_reducible repeat (first|refine a8z ?_ _|refine a9z ?_|refine blk_alloc ?_ _));refine c4z (cs:=#[.int .i64 0,.int .i64 0]) ?_ 1 _ rfl;(with_reducible repeat (first|refine a8z ?_ _|refine a9z ?_|refine blk_alloc ?_ _));refine c4z (cs:=#[.int .i64 0,.int .i64 0]) ?_ 0 _ rfl;(with_reducible repeat (first|refine a8z ?_ _|refine a9z ?_|refine blk_alloc ?_ _));exact BK101.1) Tryz.underlying37 rfl (by kernel_rfl)) rfl ?_
  exact ⟨by first|rfl|(simp [b5z,b4z] <;> rfl)|(simp [*,b5z,b4z] <;> rfl),by repeat (first|(with_reducible first|exact HB.1|apply a3z|apply a0z|apply a2z|refine a5z ?_ GE101.1)|exact HB.1)⟩
def spec_l4Line.j0 : Nat → List ByteArray → List ByteArray → Bool → Int → Int → Int → Int → Option (Int × Int × Int × Int × Int × Int × Int × Int × Bool)
 | 0,_,_,_,_,_,_,_ => none
 | k + 1,x4,x9,x45,x110000,x110001,x115000,x115001 => if x45 = true then (some (0,0,0,0,0,0,0,0,false)) else (if 0 < (x9.length : Int) then ((spec_l1Num.f k (rdOf ByteArray.empty x9 0)).bind fun t120 => (if 1 < (x9.length : Int) then ((spec_l1Num.f k (rdOf ByteArray.empty x9 1)).bind fun t122 => (if 0 < (x4.length : Int) then (if (rdOf ByteArray.empty x4 0).toList = ([112,97,115,115] : List UInt8) then (some (1,0,x110000,x110001,x115000,x115001,t120,t122,true)) else (if ((rdOf ByteArray.empty x4 0).size : Int) > 5 then (if 0 ≤ 5 then (if 5 ≤ ((rdOf ByteArray.empty x4 0).size : Int) then (if ((rdOf ByteArray.empty x4 0).extract 0 5).toList = ([103,117,97,114,100] : List UInt8) then ((spec_l1Num.f k ((rdOf ByteArray.empty x4 0).extract 5 (rdOf ByteArray.empty x4 0).size)).bind fun t128 => (some (2,t128,x110000,x110001,x115000,x115001,t120,t122,true))) else (some (0,0,x110000,x110001,x115000,x115001,t120,t122,true))) else (none)) else (none)) else (some (0,0,x110000,x110001,x115000,x115001,t120,t122,true)))) else (none))) else (none))) else (none))
def spec_l4Line.f (k : Nat) (a0 : ByteArray) : Option (Int × Int × Int × Int × Int × Int × Int × Int × Bool):=(spec_l1Cut.f k a0 32).bind fun t102 => (if (t102.length : Int) = 4 then (if 1 < (t102.length : Int) then ((spec_BlockGet.f k (rdOf ByteArray.empty t102 1)).bind fun bt106 => (if 2 < (t102.length : Int) then ((spec_BlockGet.f k (rdOf ByteArray.empty t102 2)).bind fun bt111 => (if 3 < (t102.length : Int) then ((spec_l1Cut.f k (rdOf ByteArray.empty t102 3) 45).bind fun t116 => (if bt106.2.2 = true then (if bt111.2.2 = true then (spec_l4Line.j0 k t102 t116 ((t116.length : Int) != 2) bt106.1 bt106.2.1 bt111.1 bt111.2.1) else (spec_l4Line.j0 k t102 t116 true bt106.1 bt106.2.1 bt111.1 bt111.2.1)) else (spec_l4Line.j0 k t102 t116 true bt106.1 bt106.2.1 bt111.1 bt111.2.1))) else (none))) else (none))) else (none)) else (some (0,0,0,0,0,0,0,0,false)))
def spec_l4Line.T9 : Bool × List (List Nat × List Nat):=(true,[([],[]),([],[]),([],[]),([2],[2]),([3],[3]),([4],[4]),([],[]),([6],[6]),([7],[7]),([8,5],[8]),([0,1,5,9],[0,1,5,9]),([],[]),([11,10,9,0,1,2,3,4,5,6,7,8,9,10,11],[10,11])])
def spec_l4Line.B9 : List Nat:=[0,0,0,4,12,28,0,64,192,508,1023,0,4095]
theorem spec_l4Line.tab9 : rtab .any (opsOf Tryz.f17 9) = spec_l4Line.T9:=by kernel_rfl
theorem spec_l4Line.bits9 : waitsOk spec_l4Line.T9.2 spec_l4Line.B9 = true:=by kernel_rfl
/-- What the region reads. -/
def R9S (g5 g7 : Nat) (ad : Addr) (a1 b1 a2 b2 : Int) (u v : ByteArray) (w' : World) : Prop:=w'.cell? ⟨g5,0,none⟩ = some (.int .i64 a1) ∧ w'.cell? ⟨g5,1,none⟩ = some (.int .i64 b1) ∧ w'.cell? ⟨g7,0,none⟩ = some (.int .i64 a2) ∧ w'.cell? ⟨g7,1,none⟩ = some (.int .i64 b2) ∧ w'.cell? ad = some (.string u) ∧ w'.cell? ⟨ad.block,ad.off + 1,none⟩ = some (.string v)
theorem R9S.below {g5 g7 : Nat} {ad : Addr} {a1 b1 a2 b2 : Int} {u v : ByteArray} {V V' : World} (h : R9S g5 g7 ad a1 b1 a2 b2 u v V) (hb : Below V.heap.size V V') : R9S g5 g7 ad a1 b1 a2 b2 u v V':=⟨f7z hb h.1,f7z hb h.2.1,f7z hb h.2.2.1,f7z hb h.2.2.2.1,f7z hb h.2.2.2.2.1,f7z hb h.2.2.2.2.2⟩
set_option maxHeartbeats 8000000 in
set_option maxRecDepth 100000 in
theorem spec_l4Line.reg9 {Q : Exit → Act → World → Prop} {W : World} {g5 g7 n c : Nat} {ad : Addr} {a1 b1 a2 b2 p q : Int} {u v : ByteArray} {x0 x1 x2 x3 x4 x6 x8 x10 x11 x12 x13 x14 x15 x16 x17 x18 x19 x20 x21 x22 x23 x24 x25 x26 x27 x28 x29 x30 x31 x32 x33 x34 x35 x36 x37 x38 x39 x40 x41 x42 x43 x44 x45 x46 x47 x48 x49 x50 x51 x52 x53 x54 x55 x56 x57 x58 x59 x60 x61 x62 x63 x64 x65 x66 x67 x68 x69 x70 x71 x72 x73 x74 x75 x76 x77 x78 x79 x80 x81 x82 x83 x84 : Value}
  (hS : R9S g5 g7 ad a1 b1 a2 b2 u v W) (hn0 : (0 < (n : Int)) = True) (hn0' : (0 < n) = True) (hn1 : (1 < (n : Int)) = True) (hn1' : (1 < n) = True)
  (hp : ∀ V,Calls Tryz.prog 37 #[.string u] V fun e w' => e = .returned (.int .i64 p) ∧ ∃ m,w' = V.drewN m) (hq : ∀ V,Calls Tryz.prog 37 #[.string v] V fun e w' => e = .returned (.int .i64 q) ∧ ∃ m,w' = V.drewN m)
  (hpq : ∀ (N : Tmp) (z : Value) (ch : List PanicEntry) (a : Act) (V : World),Q (.panic ch) (a.put (some N) z) V → Q (.panic ch) a V)
  (hQ : ∀ V g,W.heap.size ≤ g → V.heap[g]? = some (.cells #[.int .i64 0,.int .i64 0,.int .i64 a1,.int .i64 b1,.int .i64 a2,.int .i64 b2,.int .i64 p,.int .i64 q] 39 (0,0)) → Below W.heap.size W V → Q .normal { tmps:=#[x0,x1,x2,x3,x4,.pointer (some ⟨g5,0,none⟩),x6,.pointer (some ⟨g7,0,none⟩),x8,.slice (some ad) n c,.pointer (some ⟨g,0,none⟩),x11,x12,x13,x14,x15,x16,x17,x18,x19,x20,x21,x22,x23,x24,x25,x26,x27,x28,x29,x30,x31,x32,x33,x34,x35,x36,x37,x38,x39,x40,x41,x42,x43,x44,x45,x46,.agg #[.int .i64 a1,.int .i64 b1],.agg #[.int .i64 a2,.int .i64 b2],.slice (some ad) n c,.pointer (some ad),.string u,.int .i64 p,.slice (some ad) n c,.pointer (some ⟨ad.block,ad.off + 1,none⟩),.string v,.int .i64 q,.agg #[.int .i64 0,.int .i64 0,.int .i64 a1,.int .i64 b1,.int .i64 a2,.int .i64 b2,.int .i64 p,.int .i64 q],x58,x59,x60,x61,x62,x63,x64,x65,x66,x67,x68,x69,x70,x71,x72,x73,x74,x75,x76,x77,x78,x79,x80,x81,x82,x83,x84],defers:=[] } V) :
  (Code.region 9 (opsOf Tryz.f17 9) true).wp Tryz.prog Q { tmps:=#[x0,x1,x2,x3,x4,.pointer (some ⟨g5,0,none⟩),x6,.pointer (some ⟨g7,0,none⟩),x8,.slice (some ad) n c,x10,x11,x12,x13,x14,x15,x16,x17,x18,x19,x20,x21,x22,x23,x24,x25,x26,x27,x28,x29,x30,x31,x32,x33,x34,x35,x36,x37,x38,x39,x40,x41,x42,x43,x44,x45,x46,x47,x48,x49,x50,x51,x52,x53,x54,x55,x56,x57,x58,x59,x60,x61,x62,x63,x64,x65,x66,x67,x68,x69,x70,x71,x72,x73,x74,x75,x76,x77,x78,x79,x80,x81,x82,x83,x84],defers:=[] } W:=by
 have hu39:=Tryz.underlying39
 have hu37:=Tryz.underlying37
 have HP:=a1z.mk hp
 have HQ:=a1z.mk hq
 have HC:=a1z.mk hQ
 clear hp hq hQ
 simp only [opsOf,opsIn,Tryz.f17,Option.getD,Option.bind,Nat.reduceBEq,Bool.false_eq_true,↓reduceIte]
 refine h6z (n:=13) (S:=R9S g5 g7 ad a1 b1 a2 b2 u v) (ds:=[12]) #[false,false,false,false,false,false,false,false,false,false,false,false,false] (by kernel_rfl) rfl rfl (hS.below (below_drew (Below.refl _ _))) (fun hHeld => ?_);refine g0z spec_l4Line.tab9 spec_l4Line.bits9 (fun HT_ HW_ => ?_)
 have HB:=a1z.mk (below_drew (Below.refl W.heap.size W))
 generalize W.drew = W0 at hHeld HB ⊢
 clear hS
 refine pure_ (i:=2) (N:=some 49) (v:=?_) (a':=?_) #[false,false,true,false,false,false,false,false,false,false,false,false,false] rfl rfl (d1z HT_.1 (by kernel_rfl)) (fun _ _ _ h => hpq _ _ _ _ _ h) (Or.inl ⟨by rfl,?_⟩) ?_ ?_
 rotate_left
 ·intro w'
  go_simp
  with_reducible rfl
 rotate_left
 ·simp only [Act.put,sA_,sZ_,sS_,i64_w,i32_w]
  rfl
 refine pure_ (i:=3) (N:=some 50) (v:=?_) (a':=?_) #[false,false,true,true,false,false,false,false,false,false,false,false,false] rfl rfl (d1z HT_.1 (by kernel_rfl)) (fun _ _ _ h => hpq _ _ _ _ _ h) (Or.inl ⟨by rfl,?_⟩) ?_ ?_
 rotate_left
 ·intro w'
  go_simp
  with_reducible rfl
 rotate_left
 ·simp only [Act.put,sA_,sZ_,sS_,i64_w,i32_w]
  rfl
 refine pure_ (i:=6) (N:=some 53) (v:=?_) (a':=?_) #[false,false,true,true,false,false,true,false,false,false,false,false,false] rfl rfl (d1z HT_.1 (by kernel_rfl)) (fun _ _ _ h => hpq _ _ _ _ _ h) (Or.inl ⟨by rfl,?_⟩) ?_ ?_
 rotate_left
 ·intro w'
  go_simp
  with_reducible rfl
 rotate_left
 ·simp only [Act.put,sA_,sZ_,sS_,i64_w,i32_w]
  rfl
 refine pure_ (i:=7) (N:=some 54) (v:=?_) (a':=?_) #[false,false,true,true,false,false,true,true,false,false,false,false,false] rfl rfl (d1z HT_.1 (by kernel_rfl)) (fun _ _ _ h => hpq _ _ _ _ _ h) (Or.inl ⟨by rfl,?_⟩) ?_ ?_
 rotate_left
 ·intro w'
  go_simp
  with_reducible rfl
 rotate_left
 ·simp only [Act.put,sA_,sZ_,sS_,i64_w,i32_w]
  rfl
 refine take_ (i:=0) (N:=some 47) (v:=?_) (a':=?_) #[true,false,true,true,false,false,true,true,false,false,false,false,false] rfl rfl (f0z HT_.1 HW_.1 (by kernel_rfl)) (fun _ _ _ h => hpq _ _ _ _ _ h) (Or.inl ⟨by rfl,?_⟩) hHeld ?_ ?_
 rotate_left
 ·rintro w' ⟨s0,s1,s2,s3,s4,s5⟩
  go_simp
  with_reducible rfl
 rotate_left
 ·simp only [Act.put,sA_,sZ_,sS_,i64_w,i32_w]
  rfl
 refine take_ (i:=1) (N:=some 48) (v:=?_) (a':=?_) #[true,true,true,true,false,false,true,true,false,false,false,false,false] rfl rfl (f0z HT_.1 HW_.1 (by kernel_rfl)) (fun _ _ _ h => hpq _ _ _ _ _ h) (Or.inl ⟨by rfl,?_⟩) hHeld ?_ ?_
 rotate_left
 ·rintro w' ⟨s0,s1,s2,s3,s4,s5⟩
  go_simp
  with_reducible rfl
 rotate_left
 ·simp only [Act.put,sA_,sZ_,sS_,i64_w,i32_w]
  rfl
 refine take_ (i:=4) (N:=some 51) (v:=?_) (a':=?_) #[true,true,true,true,true,false,true,true,false,false,false,false,false] rfl rfl (f0z HT_.1 HW_.1 (by kernel_rfl)) (fun _ _ _ h => hpq _ _ _ _ _ h) (Or.inl ⟨by rfl,?_⟩) hHeld ?_ ?_
 rotate_left
 ·rintro w' ⟨s0,s1,s2,s3,s4,s5⟩
  go_simp
  with_reducible rfl
 rotate_left
 ·simp only [Act.put,sA_,sZ_,sS_,i64_w,i32_w]
  rfl
 refine take_ (i:=8) (N:=some 55) (v:=?_) (a':=?_) #[true,true,true,true,true,false,true,true,true,false,false,false,false] rfl rfl (f0z HT_.1 HW_.1 (by kernel_rfl)) (fun _ _ _ h => hpq _ _ _ _ _ h) (Or.inl ⟨by rfl,?_⟩) hHeld ?_ ?_
 rotate_left
 ·rintro w' ⟨s0,s1,s2,s3,s4,s5⟩
  go_simp
  with_reducible rfl
 rotate_left
 ·simp only [Act.put,sA_,sZ_,sS_,i64_w,i32_w]
  rfl
 refine two_ (i:=5) (j:=11) (Ni:=some 52) (Nj:=some 10) #[true,true,true,true,true,true,true,true,true,false,false,false,false] #[true,true,true,true,true,false,true,true,true,false,false,true,false] rfl rfl rfl rfl (two_of HT_.1 (by kernel_rfl)) (by decide) (by decide) (fun K hK => ?_) (fun K hK => ?_)
 ·skip
  refine goes_ Tryz.func37 (by kernel_rfl) rfl #[.string u] (by rfl) rfl rfl (by simp only [mA_,mC_,mN_];rfl) ?_
  refine (HP.out _).mono ?_
  rintro e W1 ⟨rfl,⟨nd,hnd⟩⟩
  refine ⟨_,rfl,?_⟩
  have hb_ : Below W0.heap.size W0 W1:=by rw [hnd];exact a0z (Below.refl _ _) nd
  refine hK.out _ _ (hHeld.below hb_) (fun hHeld => ?_)
  have HB1:=a1z.mk (b1z HB.1 hb_)
  clear hb_ hnd
  clear hK K
  refine norm_ (a':=?_) ?_ ?_
  rotate_left
  ·show Act.put _ (some 52) _ = _
   simp only [Act.put,sA_,sZ_,sS_,i64_w,i32_w]
   rfl
  refine two_ (i:=9) (j:=11) (Ni:=some 56) (Nj:=some 10) #[true,true,true,true,true,true,true,true,true,true,false,false,false] #[true,true,true,true,true,true,true,true,true,false,false,true,false] rfl rfl rfl rfl (two_of HT_.1 (by kernel_rfl)) (by decide) (by decide) (fun K hK => ?_) (fun K hK => ?_)
  ·skip
   refine goes_ Tryz.func37 (by kernel_rfl) rfl #[.string v] (by rfl) rfl rfl (by simp only [mA_,mC_,mN_];rfl) ?_
   refine (HQ.out _).mono ?_
   rintro e W2 ⟨rfl,⟨nd,hnd⟩⟩
   refine ⟨_,rfl,?_⟩
   have hb_ : Below W1.heap.size W1 W2:=by rw [hnd];exact a0z (Below.refl _ _) nd
   refine hK.out _ _ (hHeld.below hb_) (fun hHeld => ?_)
   have HB2:=a1z.mk (b1z HB1.1 hb_)
   clear hb_ hnd
   clear hK K
   refine norm_ (a':=?_) ?_ ?_
   rotate_left
   ·show Act.put _ (some 56) _ = _
    simp only [Act.put,sA_,sZ_,sS_,i64_w,i32_w]
    rfl
   refine pure_ (i:=10) (N:=some 57) (v:=?_) (a':=?_) #[true,true,true,true,true,true,true,true,true,true,true,false,false] rfl rfl (d1z HT_.1 (by kernel_rfl)) (fun _ _ _ h => hpq _ _ _ _ _ h) (Or.inl ⟨by rfl,?_⟩) ?_ ?_
   rotate_left
   ·intro w'
    go_simp
    with_reducible rfl
   rotate_left
   ·simp only [Act.put,sA_,sZ_,sS_,i64_w,i32_w]
    rfl
   refine one_ (i:=11) (N:=some 10) #[true,true,true,true,true,true,true,true,true,true,true,true,false] rfl rfl (e8z HT_.1 (by kernel_rfl)) (by decide) (fun K hK => ?_)
   refine value_ (w1:=W2.alloc (.cells #[.int .i64 0,.int .i64 0,.int .i64 0,.int .i64 0,.int .i64 0,.int .i64 0,.int .i64 0,.int .i64 0] 39)) (v:=.pointer (some ⟨W2.heap.size,0,none⟩)) (by rfl) rfl (by first|(go_simp;done)|(go_simp;rfl)) ?_
   refine hK.out _ _ (hHeld.below (a3z (Below.refl _ _) _)) (fun hHeld => ?_)
   have BKA : (W2.alloc (.cells #[.int .i64 0,.int .i64 0,.int .i64 0,.int .i64 0,.int .i64 0,.int .i64 0,.int .i64 0,.int .i64 0] 39)).heap[W2.heap.size]? = some (.cells #[.int .i64 0,.int .i64 0,.int .i64 0,.int .i64 0,.int .i64 0,.int .i64 0,.int .i64 0,.int .i64 0] 39 (0,0)):=blk_new W2 _
   have hb_ : Below W2.heap.size W2 (W2.alloc (.cells #[.int .i64 0,.int .i64 0,.int .i64 0,.int .i64 0,.int .i64 0,.int .i64 0,.int .i64 0,.int .i64 0] 39)):=a3z (Below.refl _ _) _
   have hge_:=HB2.1.size
   obtain ⟨g,hg⟩ : ∃ g,g = W2.heap.size:=⟨_,rfl⟩
   rw [← hg] at BKA hge_ ⊢
   generalize W2.alloc (.cells #[.int .i64 0,.int .i64 0,.int .i64 0,.int .i64 0,.int .i64 0,.int .i64 0,.int .i64 0,.int .i64 0] 39) = W3 at BKA hb_ hHeld ⊢
   have HBx:=b1z HB2.1 (by first|exact hb_|(rw [← hg] at hb_;rw [hg] at hb_;exact hb_))
   clear hK K
   refine norm_ (a':=?_) ?_ ?_
   rotate_left
   ·show Act.put _ (some 10) _ = _
    simp only [Act.put,sA_,sZ_,sS_,i64_w,i32_w]
    rfl
   have BK:=a1z.mk BKA
   have HB9:=a1z.mk HBx
   have GE:=a1z.mk hge_
   clear BKA hge_ HBx hb_ hg
   refine last_ (i:=12) (N:=none) #[true,true,true,true,true,true,true,true,true,true,true,true,true] rfl rfl (e8z HT_.1 (by kernel_rfl)) (by decide) (fun K hK => ?_)
   have hz0:=c80_ BK.1
   have hf0:=a4z BK.1 0
   have hz1:=c81_ BK.1
   have hf1:=a4z BK.1 1
   have hz2:=c82_ BK.1
   have hf2:=a4z BK.1 2
   have hz3:=c83_ BK.1
   have hf3:=a4z BK.1 3
   have hz4:=c84_ BK.1
   have hf4:=a4z BK.1 4
   have hz5:=c85_ BK.1
   have hf5:=a4z BK.1 5
   have hz6:=c86_ BK.1
   have hf6:=a4z BK.1 6
   have hz7:=c87_ BK.1
   have hf7:=a4z BK.1 7
   refine skip_ (w1:=?_) (by rfl) rfl ?_ ?_
   rotate_left
   ·go_simp
    rfl
   refine hK.out _ _ ?_
   clear hK K
   refine done_ (g8z HT_.1 (by kernel_rfl)) ?_
   exact HC.1 _ g GE.1 (c4z (cs':=#[.int .i64 0,.int .i64 0,.int .i64 a1,.int .i64 b1,.int .i64 a2,.int .i64 b2,.int .i64 p,.int .i64 q]) (c4z (cs':=#[.int .i64 0,.int .i64 0,.int .i64 a1,.int .i64 b1,.int .i64 a2,.int .i64 b2,.int .i64 p,.int .i64 0]) (c4z (cs':=#[.int .i64 0,.int .i64 0,.int .i64 a1,.int .i64 b1,.int .i64 a2,.int .i64 b2,.int .i64 0,.int .i64 0]) (c4z (cs':=#[.int .i64 0,.int .i64 0,.int .i64 a1,.int .i64 b1,.int .i64 a2,.int .i64 0,.int .i64 0,.int .i64 0]) (c4z (cs':=#[.int .i64 0,.int .i64 0,.int .i64 a1,.int .i64 b1,.int .i64 0,.int .i64 0,.int .i64 0,.int .i64 0]) (c4z (cs':=#[.int .i64 0,.int .i64 0,.int .i64 a1,.int .i64 0,.int .i64 0,.int .i64 0,.int .i64 0,.int .i64 0]) (c4z (cs':=#[.int .i64 0,.int .i64 0,.int .i64 0,.int .i64 0,.int .i64 0,.int .i64 0,.int .i64 0,.int .i64 0]) (c4z (cs':=#[.int .i64 0,.int .i64 0,.int .i64 0,.int .i64 0,.int .i64 0,.int .i64 0,.int .i64 0,.int .i64 0]) BK.1 0 (.int .i64 0) rfl) 1 (.int .i64 0) rfl) 2 (.int .i64 a1) rfl) 3 (.int .i64 b1) rfl) 4 (.int .i64 a2) rfl) 5 (.int .i64 b2) rfl) 6 (.int .i64 p) rfl) 7 (.int .i64 q) rfl) (a5z (j:=7) (v:=.int .i64 q) (a5z (j:=6) (v:=.int .i64 p) (a5z (j:=5) (v:=.int .i64 b2) (a5z (j:=4) (v:=.int .i64 a2) (a5z (j:=3) (v:=.int .i64 b1) (a5z (j:=2) (v:=.int .i64 a1) (a5z (j:=1) (v:=.int .i64 0) (a5z (j:=0) (v:=.int .i64 0) HB9.1 GE.1) GE.1) GE.1) GE.1) GE.1) GE.1) GE.1) GE.1)
  ·skip
   refine value_ (w1:=W1.alloc (.cells #[.int .i64 0,.int .i64 0,.int .i64 0,.int .i64 0,.int .i64 0,.int .i64 0,.int .i64 0,.int .i64 0] 39)) (v:=.pointer (some ⟨W1.heap.size,0,none⟩)) (by rfl) rfl (by first|(go_simp;done)|(go_simp;rfl)) ?_
   refine hK.out _ _ (hHeld.below (a3z (Below.refl _ _) _)) (fun hHeld => ?_)
   have BKA : (W1.alloc (.cells #[.int .i64 0,.int .i64 0,.int .i64 0,.int .i64 0,.int .i64 0,.int .i64 0,.int .i64 0,.int .i64 0] 39)).heap[W1.heap.size]? = some (.cells #[.int .i64 0,.int .i64 0,.int .i64 0,.int .i64 0,.int .i64 0,.int .i64 0,.int .i64 0,.int .i64 0] 39 (0,0)):=blk_new W1 _
   have hb_ : Below W1.heap.size W1 (W1.alloc (.cells #[.int .i64 0,.int .i64 0,.int .i64 0,.int .i64 0,.int .i64 0,.int .i64 0,.int .i64 0,.int .i64 0] 39)):=a3z (Below.refl _ _) _
   have hge_:=HB1.1.size
   obtain ⟨g,hg⟩ : ∃ g,g = W1.heap.size:=⟨_,rfl⟩
   rw [← hg] at BKA hge_ ⊢
   generalize W1.alloc (.cells #[.int .i64 0,.int .i64 0,.int .i64 0,.int .i64 0,.int .i64 0,.int .i64 0,.int .i64 0,.int .i64 0] 39) = W2 at BKA hb_ hHeld ⊢
   have HB2:=a1z.mk (b1z HB1.1 (by first|exact hb_|(rw [← hg] at hb_;rw [hg] at hb_;exact hb_)))
   clear hb_ hg
   clear hK K
   refine norm_ (a':=?_) ?_ ?_
   rotate_left
   ·show Act.put _ (some 10) _ = _
    simp only [Act.put,sA_,sZ_,sS_,i64_w,i32_w]
    rfl
   refine one_ (i:=9) (N:=some 56) #[true,true,true,true,true,true,true,true,true,true,false,true,false] rfl rfl (e8z HT_.1 (by kernel_rfl)) (by decide) (fun K hK => ?_)
   refine goes_ Tryz.func37 (by kernel_rfl) rfl #[.string v] (by rfl) rfl rfl (by simp only [mA_,mC_,mN_];rfl) ?_
   refine (HQ.out _).mono ?_
   rintro e W3 ⟨rfl,⟨nd,hnd⟩⟩
   refine ⟨_,rfl,?_⟩
   have hb_ : Below W2.heap.size W2 W3:=by rw [hnd];exact a0z (Below.refl _ _) nd
   refine hK.out _ _ (hHeld.below hb_) (fun hHeld => ?_)
   have HBx:=b1z HB2.1 hb_
   have BKA:=c0z BKA hb_
   clear hb_ hnd
   clear hK K
   refine norm_ (a':=?_) ?_ ?_
   rotate_left
   ·show Act.put _ (some 56) _ = _
    simp only [Act.put,sA_,sZ_,sS_,i64_w,i32_w]
    rfl
   have BK:=a1z.mk (BKA)
   have HB9:=a1z.mk HBx
   have GE:=a1z.mk hge_
   clear BKA hge_ HBx
   refine pure_ (i:=10) (N:=some 57) (v:=?_) (a':=?_) #[true,true,true,true,true,true,true,true,true,true,true,true,false] rfl rfl (d1z HT_.1 (by kernel_rfl)) (fun _ _ _ h => hpq _ _ _ _ _ h) (Or.inl ⟨by rfl,?_⟩) ?_ ?_
   rotate_left
   ·intro w'
    go_simp
    with_reducible rfl
   rotate_left
   ·simp only [Act.put,sA_,sZ_,sS_,i64_w,i32_w]
    rfl
   refine last_ (i:=12) (N:=none) #[true,true,true,true,true,true,true,true,true,true,true,true,true] rfl rfl (e8z HT_.1 (by kernel_rfl)) (by decide) (fun K hK => ?_)
   have hz0:=c80_ BK.1
   have hf0:=a4z BK.1 0
   have hz1:=c81_ BK.1
   have hf1:=a4z BK.1 1
   have hz2:=c82_ BK.1
   have hf2:=a4z BK.1 2
   have hz3:=c83_ BK.1
   have hf3:=a4z BK.1 3
   have hz4:=c84_ BK.1
   have hf4:=a4z BK.1 4
   have hz5:=c85_ BK.1
   have hf5:=a4z BK.1 5
   have hz6:=c86_ BK.1
   have hf6:=a4z BK.1 6
   have hz7:=c87_ BK.1
   have hf7:=a4z BK.1 7
   refine skip_ (w1:=?_) (by rfl) rfl ?_ ?_
   rotate_left
   ·go_simp
    rfl
   refine hK.out _ _ ?_
   clear hK K
   refine done_ (g8z HT_.1 (by kernel_rfl)) ?_
   exact HC.1 _ g GE.1 (c4z (cs':=#[.int .i64 0,.int .i64 0,.int .i64 a1,.int .i64 b1,.int .i64 a2,.int .i64 b2,.int .i64 p,.int .i64 q]) (c4z (cs':=#[.int .i64 0,.int .i64 0,.int .i64 a1,.int .i64 b1,.int .i64 a2,.int .i64 b2,.int .i64 p,.int .i64 0]) (c4z (cs':=#[.int .i64 0,.int .i64 0,.int .i64 a1,.int .i64 b1,.int .i64 a2,.int .i64 b2,.int .i64 0,.int .i64 0]) (c4z (cs':=#[.int .i64 0,.int .i64 0,.int .i64 a1,.int .i64 b1,.int .i64 a2,.int .i64 0,.int .i64 0,.int .i64 0]) (c4z (cs':=#[.int .i64 0,.int .i64 0,.int .i64 a1,.int .i64 b1,.int .i64 0,.int .i64 0,.int .i64 0,.int .i64 0]) (c4z (cs':=#[.int .i64 0,.int .i64 0,.int .i64 a1,.int .i64 0,.int .i64 0,.int .i64 0,.int .i64 0,.int .i64 0]) (c4z (cs':=#[.int .i64 0,.int .i64 0,.int .i64 0,.int .i64 0,.int .i64 0,.int .i64 0,.int .i64 0,.int .i64 0]) (c4z (cs':=#[.int .i64 0,.int .i64 0,.int .i64 0,.int .i64 0,.int .i64 0,.int .i64 0,.int .i64 0,.int .i64 0]) BK.1 0 (.int .i64 0) rfl) 1 (.int .i64 0) rfl) 2 (.int .i64 a1) rfl) 3 (.int .i64 b1) rfl) 4 (.int .i64 a2) rfl) 5 (.int .i64 b2) rfl) 6 (.int .i64 p) rfl) 7 (.int .i64 q) rfl) (a5z (j:=7) (v:=.int .i64 q) (a5z (j:=6) (v:=.int .i64 p) (a5z (j:=5) (v:=.int .i64 b2) (a5z (j:=4) (v:=.int .i64 a2) (a5z (j:=3) (v:=.int .i64 b1) (a5z (j:=2) (v:=.int .i64 a1) (a5z (j:=1) (v:=.int .i64 0) (a5z (j:=0) (v:=.int .i64 0) HB9.1 GE.1) GE.1) GE.1) GE.1) GE.1) GE.1) GE.1) GE.1)
 ·skip
  refine value_ (w1:=W0.alloc (.cells #[.int .i64 0,.int .i64 0,.int .i64 0,.int .i64 0,.int .i64 0,.int .i64 0,.int .i64 0,.int .i64 0] 39)) (v:=.pointer (some ⟨W0.heap.size,0,none⟩)) (by rfl) rfl (by first|(go_simp;done)|(go_simp;rfl)) ?_
  refine hK.out _ _ (hHeld.below (a3z (Below.refl _ _) _)) (fun hHeld => ?_)
  have BKA : (W0.alloc (.cells #[.int .i64 0,.int .i64 0,.int .i64 0,.int .i64 0,.int .i64 0,.int .i64 0,.int .i64 0,.int .i64 0] 39)).heap[W0.heap.size]? = some (.cells #[.int .i64 0,.int .i64 0,.int .i64 0,.int .i64 0,.int .i64 0,.int .i64 0,.int .i64 0,.int .i64 0] 39 (0,0)):=blk_new W0 _
  have hb_ : Below W0.heap.size W0 (W0.alloc (.cells #[.int .i64 0,.int .i64 0,.int .i64 0,.int .i64 0,.int .i64 0,.int .i64 0,.int .i64 0,.int .i64 0] 39)):=a3z (Below.refl _ _) _
  have hge_:=HB.1.size
  obtain ⟨g,hg⟩ : ∃ g,g = W0.heap.size:=⟨_,rfl⟩
  rw [← hg] at BKA hge_ ⊢
  generalize W0.alloc (.cells #[.int .i64 0,.int .i64 0,.int .i64 0,.int .i64 0,.int .i64 0,.int .i64 0,.int .i64 0,.int .i64 0] 39) = W1 at BKA hb_ hHeld ⊢
  have HB1:=a1z.mk (b1z HB.1 (by first|exact hb_|(rw [← hg] at hb_;rw [hg] at hb_;exact hb_)))
  clear hb_ hg
  clear hK K
  refine norm_ (a':=?_) ?_ ?_
  rotate_left
  ·show Act.put _ (some 10) _ = _
   simp only [Act.put,sA_,sZ_,sS_,i64_w,i32_w]
   rfl
  refine one_ (i:=5) (N:=some 52) #[true,true,true,true,true,true,true,true,true,false,false,true,false] rfl rfl (e8z HT_.1 (by kernel_rfl)) (by decide) (fun K hK => ?_)
  refine goes_ Tryz.func37 (by kernel_rfl) rfl #[.string u] (by rfl) rfl rfl (by simp only [mA_,mC_,mN_];rfl) ?_
  refine (HP.out _).mono ?_
  rintro e W2 ⟨rfl,⟨nd,hnd⟩⟩
  refine ⟨_,rfl,?_⟩
  have hb_ : Below W1.heap.size W1 W2:=by rw [hnd];exact a0z (Below.refl _ _) nd
  refine hK.out _ _ (hHeld.below hb_) (fun hHeld => ?_)
  have HB2:=a1z.mk (b1z HB1.1 hb_)
  have BKA:=c0z BKA hb_
  clear hb_ hnd
  clear hK K
  refine norm_ (a':=?_) ?_ ?_
  rotate_left
  ·show Act.put _ (some 52) _ = _
   simp only [Act.put,sA_,sZ_,sS_,i64_w,i32_w]
   rfl
  refine one_ (i:=9) (N:=some 56) #[true,true,true,true,true,true,true,true,true,true,false,true,false] rfl rfl (e8z HT_.1 (by kernel_rfl)) (by decide) (fun K hK => ?_)
  refine goes_ Tryz.func37 (by kernel_rfl) rfl #[.string v] (by rfl) rfl rfl (by simp only [mA_,mC_,mN_];rfl) ?_
  refine (HQ.out _).mono ?_
  rintro e W3 ⟨rfl,⟨nd,hnd⟩⟩
  refine ⟨_,rfl,?_⟩
  have hb_ : Below W2.heap.size W2 W3:=by rw [hnd];exact a0z (Below.refl _ _) nd
  refine hK.out _ _ (hHeld.below hb_) (fun hHeld => ?_)
  have HBx:=b1z HB2.1 hb_
  have BKA:=c0z BKA hb_
  clear hb_ hnd
  clear hK K
  refine norm_ (a':=?_) ?_ ?_
  rotate_left
  ·show Act.put _ (some 56) _ = _
   simp only [Act.put,sA_,sZ_,sS_,i64_w,i32_w]
   rfl
  have BK:=a1z.mk (BKA)
  have HB9:=a1z.mk HBx
  have GE:=a1z.mk hge_
  clear BKA hge_ HBx
  refine pure_ (i:=10) (N:=some 57) (v:=?_) (a':=?_) #[true,true,true,true,true,true,true,true,true,true,true,true,false] rfl rfl (d1z HT_.1 (by kernel_rfl)) (fun _ _ _ h => hpq _ _ _ _ _ h) (Or.inl ⟨by rfl,?_⟩) ?_ ?_
  rotate_left
  ·intro w'
   go_simp
   with_reducible rfl
  rotate_left
  ·simp only [Act.put,sA_,sZ_,sS_,i64_w,i32_w]
   rfl
  refine last_ (i:=12) (N:=none) #[true,true,true,true,true,true,true,true,true,true,true,true,true] rfl rfl (e8z HT_.1 (by kernel_rfl)) (by decide) (fun K hK => ?_)
  have hz0:=c80_ BK.1
  have hf0:=a4z BK.1 0
  have hz1:=c81_ BK.1
  have hf1:=a4z BK.1 1
  have hz2:=c82_ BK.1
  have hf2:=a4z BK.1 2
  have hz3:=c83_ BK.1
  have hf3:=a4z BK.1 3
  have hz4:=c84_ BK.1
  have hf4:=a4z BK.1 4
  have hz5:=c85_ BK.1
  have hf5:=a4z BK.1 5
  have hz6:=c86_ BK.1
  have hf6:=a4z BK.1 6
  have hz7:=c87_ BK.1
  have hf7:=a4z BK.1 7
  refine skip_ (w1:=?_) (by rfl) rfl ?_ ?_
  rotate_left
  ·go_simp
   rfl
  refine hK.out _ _ ?_
  clear hK K
  refine done_ (g8z HT_.1 (by kernel_rfl)) ?_
  exact HC.1 _ g GE.1 (c4z (cs':=#[.int .i64 0,.int .i64 0,.int .i64 a1,.int .i64 b1,.int .i64 a2,.int .i64 b2,.int .i64 p,.int .i64 q]) (c4z (cs':=#[.int .i64 0,.int .i64 0,.int .i64 a1,.int .i64 b1,.int .i64 a2,.int .i64 b2,.int .i64 p,.int .i64 0]) (c4z (cs':=#[.int .i64 0,.int .i64 0,.int .i64 a1,.int .i64 b1,.int .i64 a2,.int .i64 b2,.int .i64 0,.int .i64 0]) (c4z (cs':=#[.int .i64 0,.int .i64 0,.int .i64 a1,.int .i64 b1,.int .i64 a2,.int .i64 0,.int .i64 0,.int .i64 0]) (c4z (cs':=#[.int .i64 0,.int .i64 0,.int .i64 a1,.int .i64 b1,.int .i64 0,.int .i64 0,.int .i64 0,.int .i64 0]) (c4z (cs':=#[.int .i64 0,.int .i64 0,.int .i64 a1,.int .i64 0,.int .i64 0,.int .i64 0,.int .i64 0,.int .i64 0]) (c4z (cs':=#[.int .i64 0,.int .i64 0,.int .i64 0,.int .i64 0,.int .i64 0,.int .i64 0,.int .i64 0,.int .i64 0]) (c4z (cs':=#[.int .i64 0,.int .i64 0,.int .i64 0,.int .i64 0,.int .i64 0,.int .i64 0,.int .i64 0,.int .i64 0]) BK.1 0 (.int .i64 0) rfl) 1 (.int .i64 0) rfl) 2 (.int .i64 a1) rfl) 3 (.int .i64 b1) rfl) 4 (.int .i64 a2) rfl) 5 (.int .i64 b2) rfl) 6 (.int .i64 p) rfl) 7 (.int .i64 q) rfl) (a5z (j:=7) (v:=.int .i64 q) (a5z (j:=6) (v:=.int .i64 p) (a5z (j:=5) (v:=.int .i64 b2) (a5z (j:=4) (v:=.int .i64 a2) (a5z (j:=3) (v:=.int .i64 b1) (a5z (j:=2) (v:=.int .i64 a1) (a5z (j:=1) (v:=.int .i64 0) (a5z (j:=0) (v:=.int .i64 0) HB9.1 GE.1) GE.1) GE.1) GE.1) GE.1) GE.1) GE.1) GE.1)
set_option maxHeartbeats 8000000 in
set_option maxRecDepth 100000 in
theorem spec_l4Line.calls (k : Nat) (a0 : ByteArray) (r1 : Int) (r2 : Int) (r3 : Int) (r4 : Int) (r5 : Int) (r6 : Int) (r7 : Int) (r8 : Int) (r9 : Bool) (w : World) (h : spec_l4Line.f k a0 = some (r1,r2,r3,r4,r5,r6,r7,r8,r9)) :
  Calls Tryz.prog 17 #[.string a0] w fun e w' => e = .returned (.tuple #[.agg #[.int .i64 r1,.int .i64 r2,.int .i64 r3,.int .i64 r4,.int .i64 r5,.int .i64 r6,.int .i64 r7,.int .i64 r8],.bool r9]) ∧ Below w.heap.size w w':=by
 have hu39:=Tryz.underlying39
 have hu37:=Tryz.underlying37
 have HB:=a1z.mk (Below.refl w.heap.size w)
 have H : ((spec_l1Cut.f k a0 32).bind fun t102 => (if (t102.length : Int) = 4 then (if 1 < (t102.length : Int) then ((spec_BlockGet.f k (rdOf ByteArray.empty t102 1)).bind fun bt106 => (if 2 < (t102.length : Int) then ((spec_BlockGet.f k (rdOf ByteArray.empty t102 2)).bind fun bt111 => (if 3 < (t102.length : Int) then ((spec_l1Cut.f k (rdOf ByteArray.empty t102 3) 45).bind fun t116 => (if bt106.2.2 = true then (if bt111.2.2 = true then (spec_l4Line.j0 k t102 t116 ((t116.length : Int) != 2) bt106.1 bt106.2.1 bt111.1 bt111.2.1) else (spec_l4Line.j0 k t102 t116 true bt106.1 bt106.2.1 bt111.1 bt111.2.1)) else (spec_l4Line.j0 k t102 t116 true bt106.1 bt106.2.1 bt111.1 bt111.2.1))) else (none))) else (none))) else (none)) else (some (0,0,0,0,0,0,0,0,false)))) = some (r1,r2,r3,r4,r5,r6,r7,r8,r9):=h
 clear h
 replace H:=Option.bind_eq_some_iff.mp H
 obtain ⟨t102,A20,H⟩:=H
 replace H : (if (t102.length : Int) = 4 then (if 1 < (t102.length : Int) then ((spec_BlockGet.f k (rdOf ByteArray.empty t102 1)).bind fun bt106 => (if 2 < (t102.length : Int) then ((spec_BlockGet.f k (rdOf ByteArray.empty t102 2)).bind fun bt111 => (if 3 < (t102.length : Int) then ((spec_l1Cut.f k (rdOf ByteArray.empty t102 3) 45).bind fun t116 => (if bt106.2.2 = true then (if bt111.2.2 = true then (spec_l4Line.j0 k t102 t116 ((t116.length : Int) != 2) bt106.1 bt106.2.1 bt111.1 bt111.2.1) else (spec_l4Line.j0 k t102 t116 true bt106.1 bt106.2.1 bt111.1 bt111.2.1)) else (spec_l4Line.j0 k t102 t116 true bt106.1 bt106.2.1 bt111.1 bt111.2.1))) else (none))) else (none))) else (none)) else (some (0,0,0,0,0,0,0,0,false))) = some (r1,r2,r3,r4,r5,r6,r7,r8,r9):=H
 have A2:=a1z.mk A20
 clear A20
 by_cases c3 : (t102.length : Int) = 4
 ·rw [if_pos c3] at H
  have c3b0 : ((t102.length : Int) == 4) = true:=beq_iff_eq.mpr c3
  have c3b1 : ((t102.length : Int) != 4) = false:=bne_eq_false_iff_eq.mpr c3
  clear c3
  by_cases c4 : 1 < (t102.length : Int)
  ·rw [if_pos c4] at H
   have c4b0 : decide (1 < (t102.length : Int)) = true:=decide_eq_true c4
   have c4b1 : decide (1 < t102.length) = true:=decide_eq_true (by omega)
   clear c4
   replace H:=Option.bind_eq_some_iff.mp H
   obtain ⟨⟨t106,t107,t108⟩,A50,H⟩:=H
   replace H : (if 2 < (t102.length : Int) then ((spec_BlockGet.f k (rdOf ByteArray.empty t102 2)).bind fun bt111 => (if 3 < (t102.length : Int) then ((spec_l1Cut.f k (rdOf ByteArray.empty t102 3) 45).bind fun t116 => (if t108 = true then (if bt111.2.2 = true then (spec_l4Line.j0 k t102 t116 ((t116.length : Int) != 2) t106 t107 bt111.1 bt111.2.1) else (spec_l4Line.j0 k t102 t116 true t106 t107 bt111.1 bt111.2.1)) else (spec_l4Line.j0 k t102 t116 true t106 t107 bt111.1 bt111.2.1))) else (none))) else (none)) = some (r1,r2,r3,r4,r5,r6,r7,r8,r9):=H
   have A5:=a1z.mk A50
   clear A50
   by_cases c6 : 2 < (t102.length : Int)
   ·rw [if_pos c6] at H
    have c6b0 : decide (2 < (t102.length : Int)) = true:=decide_eq_true c6
    have c6b1 : decide (2 < t102.length) = true:=decide_eq_true (by omega)
    clear c6
    replace H:=Option.bind_eq_some_iff.mp H
    obtain ⟨⟨t111,t112,t113⟩,A70,H⟩:=H
    replace H : (if 3 < (t102.length : Int) then ((spec_l1Cut.f k (rdOf ByteArray.empty t102 3) 45).bind fun t116 => (if t108 = true then (if t113 = true then (spec_l4Line.j0 k t102 t116 ((t116.length : Int) != 2) t106 t107 t111 t112) else (spec_l4Line.j0 k t102 t116 true t106 t107 t111 t112)) else (spec_l4Line.j0 k t102 t116 true t106 t107 t111 t112))) else (none)) = some (r1,r2,r3,r4,r5,r6,r7,r8,r9):=H
    have A7:=a1z.mk A70
    clear A70
    by_cases c8 : 3 < (t102.length : Int)
    ·rw [if_pos c8] at H
     have c8b0 : decide (3 < (t102.length : Int)) = true:=decide_eq_true c8
     have c8b1 : decide (3 < t102.length) = true:=decide_eq_true (by omega)
     clear c8
     replace H:=Option.bind_eq_some_iff.mp H
     obtain ⟨t116,A90,H⟩:=H
     replace H : (if t108 = true then (if t113 = true then (spec_l4Line.j0 k t102 t116 ((t116.length : Int) != 2) t106 t107 t111 t112) else (spec_l4Line.j0 k t102 t116 true t106 t107 t111 t112)) else (spec_l4Line.j0 k t102 t116 true t106 t107 t111 t112)) = some (r1,r2,r3,r4,r5,r6,r7,r8,r9):=H
     have A9:=a1z.mk A90
     clear A90
     have HC10:=a1z.mk H
     clear H
     go_enter Tryz.func17,Tryz.ntmps17
     go_upto_region 7 with (first|((with_reducible refine c5z (N:=2) rfl ?_);(try (refine gate_guard (by rfl) ?_;dsimp only));refine d2z ?hg (N:=2) ?hd (cs:=#[.int .i64 0,.int .i64 0,.int .i64 0,.int .i64 0,.int .i64 0,.int .i64 0,.int .i64 0,.int .i64 0]) (t:=39) ?hr ?_;(case hd => rfl);(case hg => rfl);(case hr => first|(go_simp;done)|(go_simp;rfl));intro gb101 hg w11 hbox hb;have n0_:=a1z.mk (b1z (by repeat (first|(with_reducible first|exact HB.1|apply a3z|apply a0z|apply a2z)|exact HB.1)) hb);have n1_:=a1z.mk (hbox);have n2_:=a1z.mk ((by rw [hg];exact (b8z (by repeat (first|(with_reducible first|exact HB.1|apply a3z|apply a0z|apply a2z)|exact HB.1))) : w.heap.size ≤ gb101));have n3_:=a1z.mk ((by rw [hg];exact (b8z (by repeat (first|(with_reducible first|exact HB.1|apply a3z|apply a0z|apply a2z)|exact HB.1))) : w.heap.size ≤ gb101));clear HB;have HB:=n0_;have BK101:=n1_;have GW101:=n2_;have GE101:=n3_;clear n0_ n1_ n2_ n3_;clear hb hbox hg)|((with_reducible refine b2z (f:=16) rfl ?_);refine c1z (some 12) rfl rfl Tryz.func16 (by kernel_rfl) rfl #[.string a0,.int .u8 32] rfl (by (try simp only [mA_,mC_,mN_]);first|done|rfl|(simp only [lD_,lT_];rfl)) ?_;(with_reducible refine (spec_l1Cut.calls k a0 32 t102 _ A2.1).mono ?_);rintro e w12 ⟨v103,rfl,ho0,hb⟩;refine ⟨_,rfl,?_⟩;have n0_:=a1z.mk (Kd.e1z ho0 (b8z (by repeat (first|(with_reducible first|exact HB.1|apply a3z|apply a0z|apply a2z|refine a5z ?_ GE101.1)|exact HB.1))));have n1_:=a1z.mk (c0z (g:=gb101) (o:=.cells #[.int .i64 0,.int .i64 0,.int .i64 0,.int .i64 0,.int .i64 0,.int .i64 0,.int .i64 0,.int .i64 0] 39 (0,0)) (by (with_reducible repeat (first|refine a8z ?_ _|refine a9z ?_|refine blk_alloc ?_ _));exact BK101.1) hb);have n2_:=a1z.mk (b1z (by repeat (first|(with_reducible first|exact HB.1|apply a3z|apply a0z|apply a2z|refine a5z ?_ GE101.1)|exact HB.1)) hb);clear BK101 HB;have HO104:=n0_;have BK101:=n1_;have HB:=n2_;clear n0_ n1_ n2_;(try clear hb);(try clear ho0);obtain ⟨Ao13,co13,eo13⟩:=Kd.e0z HO104.1;subst eo13;have p105 : 0 ≤ (1 : Int):=(by omega);have q105 : 1 < (t102.length : Int):=of_decide_eq_true (by first|(with_reducible assumption)|assumption);obtain ⟨ad105,e105,hx105_0⟩:=Kd.e7z (Kd.c2z HO104.1).2.2 1 p105 q105;cases e105;(try simp only [show (1 : Int).toNat = 1 from rfl,Nat.reduceMul,Nat.reduceEqDiff,Go.Addr.add,↓reduceIte] at hx105_0);have qi105 : (1 < t102.length) = True:=eq_true (by omega);(try rw [show ((1 : Int)).toNat = 1 from rfl] at hx105_0);replace p105:=eq_true p105;replace q105:=eq_true q105)|((with_reducible refine b2z (f:=36) rfl ?_);refine c1z (some 21) rfl rfl Tryz.func36 (by kernel_rfl) rfl #[.string (rdOf ByteArray.empty t102 1)] rfl (by (try simp only [mA_,mC_,mN_]);first|done|rfl|(simp only [lD_,lT_];rfl)) ?_;(with_reducible refine (spec_BlockGet.calls k (rdOf ByteArray.empty t102 1) t106 t107 t108 _ A5.1).mono ?_);rintro e w14 ⟨rfl,hb⟩;refine ⟨_,rfl,?_⟩;have n0_:=a1z.mk (Kd.d3z (by (with_reducible repeat (first|apply Kd.R_alloc|apply Kd.b6z|apply Kd.b9z));exact HO104.1) hb);have n1_:=a1z.mk (c0z (g:=gb101) (o:=.cells #[.int .i64 0,.int .i64 0,.int .i64 0,.int .i64 0,.int .i64 0,.int .i64 0,.int .i64 0,.int .i64 0] 39 (0,0)) (by (with_reducible repeat (first|refine a8z ?_ _|refine a9z ?_|refine blk_alloc ?_ _));exact BK101.1) hb);have n2_:=a1z.mk (b1z (by repeat (first|(with_reducible first|exact HB.1|apply a3z|apply a0z|apply a2z|refine a5z ?_ GE101.1)|exact HB.1)) hb);clear HO104 BK101 HB;have HO104:=n0_;have BK101:=n1_;have HB:=n2_;clear n0_ n1_ n2_;(try clear hb))|((with_reducible refine c5z (N:=5) rfl ?_);(try (refine gate_guard (by rfl) ?_;dsimp only));refine d2z ?hg (N:=5) ?hd (cs:=#[.int .i64 0,.int .i64 0]) (t:=37) ?hr ?_;(case hd => rfl);(case hg => rfl);(case hr => first|(go_simp;done)|(go_simp;rfl));intro gb109 hg w15 hbox hb;have n0_:=a1z.mk (Kd.d3z (by (with_reducible repeat (first|apply Kd.R_alloc|apply Kd.b6z|apply Kd.b9z));exact HO104.1) hb);have n1_:=a1z.mk (c0z (g:=gb101) (o:=.cells #[.int .i64 0,.int .i64 0,.int .i64 0,.int .i64 0,.int .i64 0,.int .i64 0,.int .i64 0,.int .i64 0] 39 (0,0)) (by (with_reducible repeat (first|refine a8z ?_ _|refine a9z ?_|refine blk_alloc ?_ _));exact BK101.1) hb);have n2_:=a1z.mk (b1z (by repeat (first|(with_reducible first|exact HB.1|apply a3z|apply a0z|apply a2z|refine a5z ?_ GE101.1)|exact HB.1)) hb);have n3_:=a1z.mk (hbox);have n4_:=a1z.mk ((by rw [hg];exact (b8z (by repeat (first|(with_reducible first|exact HB.1|apply a3z|apply a0z|apply a2z|refine a5z ?_ GE101.1)|exact HB.1))) : w.heap.size ≤ gb109));have n5_:=a1z.mk ((by rw [hg];exact (b8z (by repeat (first|(with_reducible first|exact HB.1|apply a3z|apply a0z|apply a2z|refine a5z ?_ GE101.1)|exact HB.1))) : w.heap.size ≤ gb109));have n6_:=a1z.mk ((by rw [hg];exact Nat.ne_of_lt (f6z (g:=gb101) (o:=.cells #[.int .i64 0,.int .i64 0,.int .i64 0,.int .i64 0,.int .i64 0,.int .i64 0,.int .i64 0,.int .i64 0] 39 (0,0)) (by (with_reducible repeat (first|refine a8z ?_ _|refine a9z ?_|refine blk_alloc ?_ _));exact BK101.1)) : gb101 ≠ gb109));have n7_:=a1z.mk ((by rw [hg];exact Nat.ne_of_gt (f6z (g:=gb101) (o:=.cells #[.int .i64 0,.int .i64 0,.int .i64 0,.int .i64 0,.int .i64 0,.int .i64 0,.int .i64 0,.int .i64 0] 39 (0,0)) (by (with_reducible repeat (first|refine a8z ?_ _|refine a9z ?_|refine blk_alloc ?_ _));exact BK101.1)) : gb109 ≠ gb101));clear HO104 BK101 HB;have HO104:=n0_;have BK101:=n1_;have HB:=n2_;have BK109:=n3_;have GW109:=n4_;have GE109:=n5_;have NB101_109:=n6_;have NB109_101:=n7_;clear n0_ n1_ n2_ n3_ n4_ n5_ n6_ n7_;clear hb hbox hg;have hnb16:=NB109_101.1;have hnc16:=NB101_109.1;have hcz17_0:=c20_ BK109.1;have hcz17_1:=c21_ BK109.1;have hfz17_0:=a4z BK109.1 0;have hfz17_1:=a4z BK109.1 1;have p110 : 0 ≤ (2 : Int):=(by omega);have q110 : 2 < (t102.length : Int):=of_decide_eq_true (by first|(with_reducible assumption)|assumption);obtain ⟨ad110,e110,hx110_0⟩:=Kd.e7z (Kd.c2z HO104.1).2.2 2 p110 q110;obtain rfl : ad105 = ad110:=(by injection e110);(try simp only [show (2 : Int).toNat = 2 from rfl,Nat.reduceMul,Nat.reduceEqDiff,Go.Addr.add,↓reduceIte] at hx110_0);have qi110 : (2 < t102.length) = True:=eq_true (by omega);(try rw [show ((2 : Int)).toNat = 2 from rfl] at hx110_0);have hn110_0 : ad105.block ≠ gb109:=Kd.own_blk (Kd.R_ne HO104.1 BK109.1 (by decide));have hn110_1 : ad105.block ≠ gb109:=Kd.own_blk (Kd.R_ne HO104.1 BK109.1 (by decide));replace hx110_0:=(f1z (p:=⟨gb109,0,none⟩) (by (first|rw [c6z]|(show (Addr.add _ _).block ≠ _;rw [c6z])|skip);exact hn110_0) (.int .i64 t106)).trans hx110_0;replace hx110_0:=(f1z (p:=⟨gb109,1,none⟩) (by (first|rw [c6z]|(show (Addr.add _ _).block ≠ _;rw [c6z])|skip);exact hn110_1) (.int .i64 t107)).trans hx110_0;clear hn110_0 hn110_1;replace p110:=eq_true p110;replace q110:=eq_true q110)|((with_reducible refine b2z (f:=36) rfl ?_);refine c1z (some 28) rfl rfl Tryz.func36 (by kernel_rfl) rfl #[.string (rdOf ByteArray.empty t102 2)] rfl (by (try simp only [mA_,mC_,mN_]);first|done|rfl|(simp only [lD_,lT_];rfl)) ?_;(with_reducible refine (spec_BlockGet.calls k (rdOf ByteArray.empty t102 2) t111 t112 t113 _ A7.1).mono ?_);rintro e w18 ⟨rfl,hb⟩;refine ⟨_,rfl,?_⟩;have n0_:=a1z.mk (Kd.d3z (by (with_reducible repeat (first|apply Kd.R_alloc|apply Kd.b6z|apply Kd.b9z));exact (Kd.c9z (Kd.R_far (p:=⟨gb109,1,none⟩) (Kd.R_far (p:=⟨gb109,0,none⟩) (Kd.g9z HO104.1 BK109.1 (by decide)) (fun _ hk => hk.2) (.int .i64 t106)) (fun _ hk => hk.2) (.int .i64 t107)) (fun _ h_ => h_.1))) hb);have n1_:=a1z.mk (c0z (g:=gb101) (o:=.cells #[.int .i64 0,.int .i64 0,.int .i64 0,.int .i64 0,.int .i64 0,.int .i64 0,.int .i64 0,.int .i64 0] 39 (0,0)) (by (with_reducible repeat (first|refine a8z ?_ _|refine a9z ?_|refine blk_alloc ?_ _|refine f3z ?_ NB101_109.1 _));exact BK101.1) hb);have n2_:=a1z.mk (c0z (g:=gb109) (o:=.cells #[.int .i64 t106,.int .i64 t107] 37 (0,0)) (by (with_reducible repeat (first|refine a8z ?_ _|refine a9z ?_|refine blk_alloc ?_ _));refine c4z (cs:=#[.int .i64 t106,.int .i64 0]) ?_ 1 _ rfl;(with_reducible repeat (first|refine a8z ?_ _|refine a9z ?_|refine blk_alloc ?_ _));refine c4z (cs:=#[.int .i64 0,.int .i64 0]) ?_ 0 _ rfl;(with_reducible repeat (first|refine a8z ?_ _|refine a9z ?_|refine blk_alloc ?_ _));exact BK109.1) hb);have n3_:=a1z.mk (b1z (by repeat (first|(with_reducible first|exact HB.1|apply a3z|apply a0z|apply a2z|refine a5z ?_ GE101.1|refine a5z ?_ GE109.1)|exact HB.1)) hb);clear HO104 BK101 BK109 HB;have HO104:=n0_;have BK101:=n1_;have BK109:=n2_;have HB:=n3_;clear n0_ n1_ n2_ n3_;(try clear hb);(try clear hk))|((with_reducible refine c5z (N:=7) rfl ?_);(try (refine gate_guard (by rfl) ?_;dsimp only));refine d2z ?hg (N:=7) ?hd (cs:=#[.int .i64 0,.int .i64 0]) (t:=37) ?hr ?_;(case hd => rfl);(case hg => rfl);(case hr => first|(go_simp;done)|(go_simp;rfl));intro gb114 hg w19 hbox hb;have n0_:=a1z.mk (Kd.d3z (by (with_reducible repeat (first|apply Kd.R_alloc|apply Kd.b6z|apply Kd.b9z));exact HO104.1) hb);have n1_:=a1z.mk (c0z (g:=gb101) (o:=.cells #[.int .i64 0,.int .i64 0,.int .i64 0,.int .i64 0,.int .i64 0,.int .i64 0,.int .i64 0,.int .i64 0] 39 (0,0)) (by (with_reducible repeat (first|refine a8z ?_ _|refine a9z ?_|refine blk_alloc ?_ _));exact BK101.1) hb);have n2_:=a1z.mk (c0z (g:=gb109) (o:=.cells #[.int .i64 t106,.int .i64 t107] 37 (0,0)) (by (with_reducible repeat (first|refine a8z ?_ _|refine a9z ?_|refine blk_alloc ?_ _));exact BK109.1) hb);have n3_:=a1z.mk (b1z (by repeat (first|(with_reducible first|exact HB.1|apply a3z|apply a0z|apply a2z|refine a5z ?_ GE101.1|refine a5z ?_ GE109.1)|exact HB.1)) hb);have n4_:=a1z.mk (hbox);have n5_:=a1z.mk ((by rw [hg];exact (b8z (by repeat (first|(with_reducible first|exact HB.1|apply a3z|apply a0z|apply a2z|refine a5z ?_ GE101.1|refine a5z ?_ GE109.1)|exact HB.1))) : w.heap.size ≤ gb114));have n6_:=a1z.mk ((by rw [hg];exact (b8z (by repeat (first|(with_reducible first|exact HB.1|apply a3z|apply a0z|apply a2z|refine a5z ?_ GE101.1|refine a5z ?_ GE109.1)|exact HB.1))) : w.heap.size ≤ gb114));have n7_:=a1z.mk ((by rw [hg];exact Nat.ne_of_lt (f6z (g:=gb101) (o:=.cells #[.int .i64 0,.int .i64 0,.int .i64 0,.int .i64 0,.int .i64 0,.int .i64 0,.int .i64 0,.int .i64 0] 39 (0,0)) (by (with_reducible repeat (first|refine a8z ?_ _|refine a9z ?_|refine blk_alloc ?_ _));exact BK101.1)) : gb101 ≠ gb114));have n8_:=a1z.mk ((by rw [hg];exact Nat.ne_of_gt (f6z (g:=gb101) (o:=.cells #[.int .i64 0,.int .i64 0,.int .i64 0,.int .i64 0,.int .i64 0,.int .i64 0,.int .i64 0,.int .i64 0] 39 (0,0)) (by (with_reducible repeat (first|refine a8z ?_ _|refine a9z ?_|refine blk_alloc ?_ _));exact BK101.1)) : gb114 ≠ gb101));have n9_:=a1z.mk ((by rw [hg];exact Nat.ne_of_lt (f6z (g:=gb109) (o:=.cells #[.int .i64 t106,.int .i64 t107] 37 (0,0)) (by (with_reducible repeat (first|refine a8z ?_ _|refine a9z ?_|refine blk_alloc ?_ _));exact BK109.1)) : gb109 ≠ gb114));have n10_:=a1z.mk ((by rw [hg];exact Nat.ne_of_gt (f6z (g:=gb109) (o:=.cells #[.int .i64 t106,.int .i64 t107] 37 (0,0)) (by (with_reducible repeat (first|refine a8z ?_ _|refine a9z ?_|refine blk_alloc ?_ _));exact BK109.1)) : gb114 ≠ gb109));clear HO104 BK101 BK109 HB;have HO104:=n0_;have BK101:=n1_;have BK109:=n2_;have HB:=n3_;have BK114:=n4_;have GW114:=n5_;have GE114:=n6_;have NB101_114:=n7_;have NB114_101:=n8_;have NB109_114:=n9_;have NB114_109:=n10_;clear n0_ n1_ n2_ n3_ n4_ n5_ n6_ n7_ n8_ n9_ n10_;clear hb hbox hg;have hnb20:=NB114_101.1;have hnc20:=NB101_114.1;have hnb21:=NB114_109.1;have hnc21:=NB109_114.1;have hcz22_0:=c20_ BK114.1;have hcz22_1:=c21_ BK114.1;have hfz22_0:=a4z BK114.1 0;have hfz22_1:=a4z BK114.1 1;have p115 : 0 ≤ (3 : Int):=(by omega);have q115 : 3 < (t102.length : Int):=of_decide_eq_true (by first|(with_reducible assumption)|assumption);obtain ⟨ad115,e115,hx115_0⟩:=Kd.e7z (Kd.c2z HO104.1).2.2 3 p115 q115;obtain rfl : ad105 = ad115:=(by injection e115);(try simp only [show (3 : Int).toNat = 3 from rfl,Nat.reduceMul,Nat.reduceEqDiff,Go.Addr.add,↓reduceIte] at hx115_0);have qi115 : (3 < t102.length) = True:=eq_true (by omega);(try rw [show ((3 : Int)).toNat = 3 from rfl] at hx115_0);have hn115_0 : ad105.block ≠ gb114:=Kd.own_blk (Kd.R_ne HO104.1 BK114.1 (by decide));have hn115_1 : ad105.block ≠ gb114:=Kd.own_blk (Kd.R_ne HO104.1 BK114.1 (by decide));replace hx115_0:=(f1z (p:=⟨gb114,0,none⟩) (by (first|rw [c6z]|(show (Addr.add _ _).block ≠ _;rw [c6z])|skip);exact hn115_0) (.int .i64 t111)).trans hx115_0;replace hx115_0:=(f1z (p:=⟨gb114,1,none⟩) (by (first|rw [c6z]|(show (Addr.add _ _).block ≠ _;rw [c6z])|skip);exact hn115_1) (.int .i64 t112)).trans hx115_0;clear hn115_0 hn115_1;replace p115:=eq_true p115;replace q115:=eq_true q115)|((with_reducible refine b2z (f:=16) rfl ?_);refine c1z (some 34) rfl rfl Tryz.func16 (by kernel_rfl) rfl #[.string (rdOf ByteArray.empty t102 3),.int .u8 45] rfl (by (try simp only [mA_,mC_,mN_]);first|done|rfl|(simp only [lD_,lT_];rfl)) ?_;(with_reducible refine (spec_l1Cut.calls k (rdOf ByteArray.empty t102 3) 45 t116 _ A9.1).mono ?_);rintro e w23 ⟨v117,rfl,ho0,hb⟩;refine ⟨_,rfl,?_⟩;have n0_:=a1z.mk (Kd.f8z (by (with_reducible repeat (first|apply Kd.R_alloc|apply Kd.b6z|apply Kd.b9z));exact (Kd.c9z (Kd.R_far (p:=⟨gb114,1,none⟩) (Kd.R_far (p:=⟨gb114,0,none⟩) (Kd.g9z HO104.1 BK114.1 (by decide)) (fun _ hk => hk.2) (.int .i64 t111)) (fun _ hk => hk.2) (.int .i64 t112)) (fun _ h_ => h_.1))) (Kd.g3z ho0) hb);have n1_:=a1z.mk (Kd.e1z (Kd.g2z ho0 (Kd.R_lt (by (with_reducible repeat (first|apply Kd.R_alloc|apply Kd.b6z|apply Kd.b9z));exact (Kd.c9z (Kd.R_far (p:=⟨gb114,1,none⟩) (Kd.R_far (p:=⟨gb114,0,none⟩) (Kd.g9z HO104.1 BK114.1 (by decide)) (fun _ hk => hk.2) (.int .i64 t111)) (fun _ hk => hk.2) (.int .i64 t112)) (fun _ h_ => h_.1))))) (b8z (by repeat (first|(with_reducible first|exact HB.1|apply a3z|apply a0z|apply a2z|refine a5z ?_ GE101.1|refine a5z ?_ GE109.1|refine a5z ?_ GE114.1)|exact HB.1))));have n2_:=a1z.mk (c0z (g:=gb101) (o:=.cells #[.int .i64 0,.int .i64 0,.int .i64 0,.int .i64 0,.int .i64 0,.int .i64 0,.int .i64 0,.int .i64 0] 39 (0,0)) (by (with_reducible repeat (first|refine a8z ?_ _|refine a9z ?_|refine blk_alloc ?_ _|refine f3z ?_ NB101_114.1 _));exact BK101.1) hb);have n3_:=a1z.mk (c0z (g:=gb109) (o:=.cells #[.int .i64 t106,.int .i64 t107] 37 (0,0)) (by (with_reducible repeat (first|refine a8z ?_ _|refine a9z ?_|refine blk_alloc ?_ _|refine f3z ?_ NB109_114.1 _));exact BK109.1) hb);have n4_:=a1z.mk (c0z (g:=gb114) (o:=.cells #[.int .i64 t111,.int .i64 t112] 37 (0,0)) (by (with_reducible repeat (first|refine a8z ?_ _|refine a9z ?_|refine blk_alloc ?_ _));refine c4z (cs:=#[.int .i64 t111,.int .i64 0]) ?_ 1 _ rfl;(with_reducible repeat (first|refine a8z ?_ _|refine a9z ?_|refine blk_alloc ?_ _));refine c4z (cs:=#[.int .i64 0,.int .i64 0]) ?_ 0 _ rfl;(with_reducible repeat (first|refine a8z ?_ _|refine a9z ?_|refine blk_alloc ?_ _));exact BK114.1) hb);have n5_:=a1z.mk (b1z (by repeat (first|(with_reducible first|exact HB.1|apply a3z|apply a0z|apply a2z|refine a5z ?_ GE101.1|refine a5z ?_ GE109.1|refine a5z ?_ GE114.1)|exact HB.1)) hb);clear HO104 BK101 BK109 BK114 HB;have HO104:=n0_;have HO118:=n1_;have BK101:=n2_;have BK109:=n3_;have BK114:=n4_;have HB:=n5_;clear n0_ n1_ n2_ n3_ n4_ n5_;(try clear hb);(try clear hk);(try clear ho0)))
     (try simp only [Act.put,sA_,sZ_,sS_])
     go_cut [45] (fun v45 wc => ∃ (kq : Nat) (x45_9 : Bool),v45 = .bool x45_9 ∧ a1z (spec_l4Line.j0 kq t102 t116 x45_9 t106 t107 t111 t112 = some (r1,r2,r3,r4,r5,r6,r7,r8,r9)) ∧ a1z (kq ≤ k) ∧ a1z (Kd.R Kd.string 9 wc w.heap.size (fun k_ => some k_ ≠ (v117 : Value).ownBlock) (.slice (some ad105) t102.length co13) t102) ∧ a1z (Kd.R Kd.string 9 wc w.heap.size (fun k_ => some k_ ≠ ((.slice (some ad105) t102.length co13) : Value).ownBlock) v117 t116) ∧ a1z (wc.heap[gb101]? = some (.cells #[.int .i64 0,.int .i64 0,.int .i64 0,.int .i64 0,.int .i64 0,.int .i64 0,.int .i64 0,.int .i64 0] 39 (0,0))) ∧ a1z (wc.heap[gb109]? = some (.cells #[.int .i64 t106,.int .i64 t107] 37 (0,0))) ∧ a1z (wc.heap[gb114]? = some (.cells #[.int .i64 t111,.int .i64 t112] 37 (0,0))) ∧ a1z (Below w.heap.size w wc))
     case first =>
      have H:=HC10.1
      clear HC10
      by_cases c24 : t108 = true
      ·subst c24
       have H1 : (if t113 = true then (spec_l4Line.j0 k t102 t116 ((t116.length : Int) != 2) t106 t107 t111 t112) else (spec_l4Line.j0 k t102 t116 true t106 t107 t111 t112)) = some (r1,r2,r3,r4,r5,r6,r7,r8,r9):=by rw [if_pos rfl] at H;exact H
       clear H
       have H:=H1
       clear H1
       by_cases c25 : t113 = true
       ·subst c25
        have H1 : (spec_l4Line.j0 k t102 t116 ((t116.length : Int) != 2) t106 t107 t111 t112) = some (r1,r2,r3,r4,r5,r6,r7,r8,r9):=by rw [if_pos rfl] at H;exact H
        clear H
        have H:=H1
        clear H1
        have H':=a1z.mk H
        clear H
        obtain ⟨Ao26,co26,eo26⟩:=Kd.e0z HO118.1
        subst eo26
        go_wp2
        go_meet
        case rel => exact ⟨_,(((t116.length : Int) != 2)),(by first|rfl|(simp;done)|(simp [*];done)),H',⟨by first|omega|exact Nat.le_refl _⟩,⟨by (with_reducible repeat (first|apply Kd.R_alloc|apply Kd.b6z|apply Kd.b9z));exact Kd.c9z HO104.1 (fun _ hk => hk.2)⟩,⟨by (with_reducible repeat (first|apply Kd.R_alloc|apply Kd.b6z|apply Kd.b9z));exact Kd.c9z HO118.1 (fun _ hk => hk.2)⟩,⟨by (with_reducible repeat (first|refine a8z ?_ _|refine a9z ?_|refine blk_alloc ?_ _));exact BK101.1⟩,⟨by (with_reducible repeat (first|refine a8z ?_ _|refine a9z ?_|refine blk_alloc ?_ _));exact BK109.1⟩,⟨by (with_reducible repeat (first|refine a8z ?_ _|refine a9z ?_|refine blk_alloc ?_ _));exact BK114.1⟩,⟨by repeat (first|(with_reducible first|exact HB.1|apply a3z|apply a0z|apply a2z|refine a5z ?_ GE101.1|refine a5z ?_ GE109.1|refine a5z ?_ GE114.1)|exact HB.1)⟩⟩
       ·replace c25:=Bool.eq_false_iff.mpr c25
        subst c25
        have H1 : (spec_l4Line.j0 k t102 t116 true t106 t107 t111 t112) = some (r1,r2,r3,r4,r5,r6,r7,r8,r9):=by rw [if_neg (show ¬ (false = true) by decide)] at H;exact H
        clear H
        have H:=H1
        clear H1
        have H':=a1z.mk H
        clear H
        go_wp2
        go_meet
        case rel => exact ⟨_,(true),(by first|rfl|(simp;done)|(simp [*];done)),H',⟨by first|omega|exact Nat.le_refl _⟩,⟨by (with_reducible repeat (first|apply Kd.R_alloc|apply Kd.b6z|apply Kd.b9z));exact Kd.c9z HO104.1 (fun _ hk => hk.2)⟩,⟨by (with_reducible repeat (first|apply Kd.R_alloc|apply Kd.b6z|apply Kd.b9z));exact Kd.c9z HO118.1 (fun _ hk => hk.2)⟩,⟨by (with_reducible repeat (first|refine a8z ?_ _|refine a9z ?_|refine blk_alloc ?_ _));exact BK101.1⟩,⟨by (with_reducible repeat (first|refine a8z ?_ _|refine a9z ?_|refine blk_alloc ?_ _));exact BK109.1⟩,⟨by (with_reducible repeat (first|refine a8z ?_ _|refine a9z ?_|refine blk_alloc ?_ _));exact BK114.1⟩,⟨by repeat (first|(with_reducible first|exact HB.1|apply a3z|apply a0z|apply a2z|refine a5z ?_ GE101.1|refine a5z ?_ GE109.1|refine a5z ?_ GE114.1)|exact HB.1)⟩⟩
      ·replace c24:=Bool.eq_false_iff.mpr c24
       subst c24
       have H1 : (spec_l4Line.j0 k t102 t116 true t106 t107 t111 t112) = some (r1,r2,r3,r4,r5,r6,r7,r8,r9):=by rw [if_neg (show ¬ (false = true) by decide)] at H;exact H
       clear H
       have H:=H1
       clear H1
       have H':=a1z.mk H
       clear H
       go_wp2
       go_meet
       case rel => exact ⟨_,(true),(by first|rfl|(simp;done)|(simp [*];done)),H',⟨by first|omega|exact Nat.le_refl _⟩,⟨by (with_reducible repeat (first|apply Kd.R_alloc|apply Kd.b6z|apply Kd.b9z));exact Kd.c9z HO104.1 (fun _ hk => hk.2)⟩,⟨by (with_reducible repeat (first|apply Kd.R_alloc|apply Kd.b6z|apply Kd.b9z));exact Kd.c9z HO118.1 (fun _ hk => hk.2)⟩,⟨by (with_reducible repeat (first|refine a8z ?_ _|refine a9z ?_|refine blk_alloc ?_ _));exact BK101.1⟩,⟨by (with_reducible repeat (first|refine a8z ?_ _|refine a9z ?_|refine blk_alloc ?_ _));exact BK109.1⟩,⟨by (with_reducible repeat (first|refine a8z ?_ _|refine a9z ?_|refine blk_alloc ?_ _));exact BK114.1⟩,⟨by repeat (first|(with_reducible first|exact HB.1|apply a3z|apply a0z|apply a2z|refine a5z ?_ GE101.1|refine a5z ?_ GE109.1|refine a5z ?_ GE114.1)|exact HB.1)⟩⟩
     case rest =>
      clear HC10
      try clear c1
      try clear p1
      try clear q1
      try clear hx1
      try clear qi1
      try clear c2
      try clear p2
      try clear c3
      try clear c3b0
      try clear c3b1
      try clear c4
      try clear c4b0
      try clear c4b1
      try clear c6
      try clear c6b0
      try clear c6b1
      try clear c8
      try clear c8b0
      try clear c8b1
      try clear p10
      try clear q10
      try clear hx10
      try clear qi10
      try clear p11
      try clear q11
      try clear hx11
      try clear qi11
      try clear c16
      try clear c17
      try clear c20
      try clear c21
      try clear c24
      try clear c25
      try clear hcz17_0
      try clear hcz17_1
      try clear hcz22_0
      try clear hcz22_1
      try clear hfz17_0
      try clear hfz17_1
      try clear hfz22_0
      try clear hfz22_1
      try clear hx105_0
      try clear hx110_0
      try clear hx115_0
      try clear p105
      try clear p110
      try clear p115
      try clear q105
      try clear q110
      try clear q115
      obtain ⟨kq,x45_9,rfl,HA,HJ9,HO_4,HO_9,BK101,BK109,BK114,HB⟩:=hcut
      cases kq with
      | zero => exact absurd HA.1 (by simp [spec_l4Line.j0])
      | succ kj9 =>
       have H:=HA.1
       clear HA
       simp only [spec_l4Line.j0] at H
       by_cases c27 : x45_9 = true
       ·subst c27
        have H1 : (some (0,0,0,0,0,0,0,0,false)) = some (r1,r2,r3,r4,r5,r6,r7,r8,r9):=by rw [if_pos rfl] at H;exact H
        clear H
        have H:=H1
        clear H1
        simp only [Option.some.injEq,Prod.mk.injEq] at H
        obtain ⟨rfl,rfl,rfl,rfl,rfl,rfl,rfl,rfl,rfl⟩:=H
        have hnb28:=NB101_109.1
        have hnc28:=NB109_101.1
        have hnb29:=NB101_114.1
        have hnc29:=NB114_101.1
        have hcz30_0:=c80_ BK101.1
        have hcz30_1:=c81_ BK101.1
        have hcz30_2:=c82_ BK101.1
        have hcz30_3:=c83_ BK101.1
        have hcz30_4:=c84_ BK101.1
        have hcz30_5:=c85_ BK101.1
        have hcz30_6:=c86_ BK101.1
        have hcz30_7:=c87_ BK101.1
        have hfz30_0:=a4z BK101.1 0
        have hfz30_1:=a4z BK101.1 1
        have hfz30_2:=a4z BK101.1 2
        have hfz30_3:=a4z BK101.1 3
        have hfz30_4:=a4z BK101.1 4
        have hfz30_5:=a4z BK101.1 5
        have hfz30_6:=a4z BK101.1 6
        have hfz30_7:=a4z BK101.1 7
        go_wp2
        refine bodyPost_ret (f5z rfl _ _ gb101 39 #[.int .i64 0,.int .i64 0,.int .i64 0,.int .i64 0,.int .i64 0,.int .i64 0,.int .i64 0,.int .i64 0] (0,0) _ rfl (by (with_reducible repeat (first|refine a8z ?_ _|refine a9z ?_|refine blk_alloc ?_ _));refine p8_ ?_;(with_reducible repeat (first|refine a8z ?_ _|refine a9z ?_|refine blk_alloc ?_ _));exact BK101.1) Tryz.underlying39 rfl (by kernel_rfl)) rfl ?_
        exact ⟨by first|rfl|(simp [b5z,b4z] <;> rfl)|(simp [*,b5z,b4z] <;> rfl),by repeat (first|(with_reducible first|exact HB.1|apply a3z|apply a0z|apply a2z|refine a5z ?_ GE101.1|refine a5z ?_ GE109.1|refine a5z ?_ GE114.1)|exact HB.1)⟩
       ·replace c27:=Bool.eq_false_iff.mpr c27
        subst c27
        have H1 : (if 0 < (t116.length : Int) then ((spec_l1Num.f kj9 (rdOf ByteArray.empty t116 0)).bind fun t120 => (if 1 < (t116.length : Int) then ((spec_l1Num.f kj9 (rdOf ByteArray.empty t116 1)).bind fun t122 => (if 0 < (t102.length : Int) then (if (rdOf ByteArray.empty t102 0).toList = ([112,97,115,115] : List UInt8) then (some (1,0,t106,t107,t111,t112,t120,t122,true)) else (if ((rdOf ByteArray.empty t102 0).size : Int) > 5 then (if 0 ≤ 5 then (if 5 ≤ ((rdOf ByteArray.empty t102 0).size : Int) then (if ((rdOf ByteArray.empty t102 0).extract 0 5).toList = ([103,117,97,114,100] : List UInt8) then ((spec_l1Num.f kj9 ((rdOf ByteArray.empty t102 0).extract 5 (rdOf ByteArray.empty t102 0).size)).bind fun t128 => (some (2,t128,t106,t107,t111,t112,t120,t122,true))) else (some (0,0,t106,t107,t111,t112,t120,t122,true))) else (none)) else (none)) else (some (0,0,t106,t107,t111,t112,t120,t122,true)))) else (none))) else (none))) else (none)) = some (r1,r2,r3,r4,r5,r6,r7,r8,r9):=by rw [if_neg (show ¬ (false = true) by decide)] at H;exact H
        clear H
        have H:=H1
        clear H1
        by_cases c31 : 0 < (t116.length : Int)
        ·rw [if_pos c31] at H
         have c31b0 : decide (0 < (t116.length : Int)) = true:=decide_eq_true c31
         have c31b1 : decide (0 < t116.length) = true:=decide_eq_true (by omega)
         clear c31
         replace H:=Option.bind_eq_some_iff.mp H
         obtain ⟨t120,A320,H⟩:=H
         replace H : (if 1 < (t116.length : Int) then ((spec_l1Num.f kj9 (rdOf ByteArray.empty t116 1)).bind fun t122 => (if 0 < (t102.length : Int) then (if (rdOf ByteArray.empty t102 0).toList = ([112,97,115,115] : List UInt8) then (some (1,0,t106,t107,t111,t112,t120,t122,true)) else (if ((rdOf ByteArray.empty t102 0).size : Int) > 5 then (if 0 ≤ 5 then (if 5 ≤ ((rdOf ByteArray.empty t102 0).size : Int) then (if ((rdOf ByteArray.empty t102 0).extract 0 5).toList = ([103,117,97,114,100] : List UInt8) then ((spec_l1Num.f kj9 ((rdOf ByteArray.empty t102 0).extract 5 (rdOf ByteArray.empty t102 0).size)).bind fun t128 => (some (2,t128,t106,t107,t111,t112,t120,t122,true))) else (some (0,0,t106,t107,t111,t112,t120,t122,true))) else (none)) else (none)) else (some (0,0,t106,t107,t111,t112,t120,t122,true)))) else (none))) else (none)) = some (r1,r2,r3,r4,r5,r6,r7,r8,r9):=H
         have A32:=a1z.mk A320
         clear A320
         by_cases c33 : 1 < (t116.length : Int)
         ·rw [if_pos c33] at H
          have c33b0 : decide (1 < (t116.length : Int)) = true:=decide_eq_true c33
          have c33b1 : decide (1 < t116.length) = true:=decide_eq_true (by omega)
          clear c33
          replace H:=Option.bind_eq_some_iff.mp H
          obtain ⟨t122,A340,H⟩:=H
          replace H : (if 0 < (t102.length : Int) then (if (rdOf ByteArray.empty t102 0).toList = ([112,97,115,115] : List UInt8) then (some (1,0,t106,t107,t111,t112,t120,t122,true)) else (if ((rdOf ByteArray.empty t102 0).size : Int) > 5 then (if 0 ≤ 5 then (if 5 ≤ ((rdOf ByteArray.empty t102 0).size : Int) then (if ((rdOf ByteArray.empty t102 0).extract 0 5).toList = ([103,117,97,114,100] : List UInt8) then ((spec_l1Num.f kj9 ((rdOf ByteArray.empty t102 0).extract 5 (rdOf ByteArray.empty t102 0).size)).bind fun t128 => (some (2,t128,t106,t107,t111,t112,t120,t122,true))) else (some (0,0,t106,t107,t111,t112,t120,t122,true))) else (none)) else (none)) else (some (0,0,t106,t107,t111,t112,t120,t122,true)))) else (none)) = some (r1,r2,r3,r4,r5,r6,r7,r8,r9):=H
          have A34:=a1z.mk A340
          clear A340
          by_cases c35 : 0 < (t102.length : Int)
          ·rw [if_pos c35] at H
           have c35b0 : decide (0 < (t102.length : Int)) = true:=decide_eq_true c35
           have c35b1 : decide (0 < t102.length) = true:=decide_eq_true (by omega)
           clear c35
           go_wp2
           obtain ⟨Ao38,co38,eo38⟩:=Kd.e0z HO_9.1
           (first|subst eo38|(injection eo38 with f1_ f2_ f3_;have f4_:=f1_.symm;have f5_:=f3_.symm;clear f1_ f2_ f3_;subst f4_;subst f5_))
           have p119 : 0 ≤ (0 : Int):=by omega
           have q119 : 0 < (t116.length : Int):=of_decide_eq_true c31b0
           obtain ⟨ad119,e119,hx119_0⟩:=Kd.e7z (Kd.c2z HO_9.1).2.2 0 p119 q119
           cases e119
           (try rw [show ((0 : Int)).toNat = 0 from rfl] at hx119_0)
           (try rw [Addr.add_zero'] at hx119_0)
           have p121 : 0 ≤ (1 : Int):=by omega
           have q121 : 1 < (t116.length : Int):=of_decide_eq_true c33b0
           obtain ⟨ad121,e121,hx121_0⟩:=Kd.e7z (Kd.c2z HO_9.1).2.2 1 p121 q121
           obtain rfl : ad119 = ad121:=by injection e121
           (try simp only [show (1 : Int).toNat = 1 from rfl,Nat.reduceMul,Nat.reduceEqDiff,Go.Addr.add,↓reduceIte] at hx121_0)
           refine spec_l4Line.reg9 (p:=t120) (q:=t122) ⟨(b7z BK109.1 0).trans rfl,(b7z BK109.1 1).trans rfl,(b7z BK114.1 0).trans rfl,(b7z BK114.1 1).trans rfl,hx119_0,hx121_0⟩ (eq_true q119) (eq_true (by omega)) (eq_true q121) (eq_true (by omega)) (fun V => (spec_l1Num.calls kj9 _ t120 V A32.1).mono (by rintro e w' ⟨rfl,⟨nd,rfl⟩⟩;exact ⟨rfl,nd,rfl⟩)) (fun V => (spec_l1Num.calls kj9 _ t122 V A34.1).mono (by rintro e w' ⟨rfl,⟨nd,rfl⟩⟩;exact ⟨rfl,nd,rfl⟩)) (fun _ _ _ _ _ h => h) ?_
           intro W9 g9 hge9 hbk9 hb9
           have p124 : 0 ≤ (0 : Int):=by omega
           have q124 : 0 < (t102.length : Int):=of_decide_eq_true c35b0
           obtain ⟨ad124,e124,hx124_0⟩:=Kd.e7z (Kd.c2z HO_4.1).2.2 0 p124 q124
           obtain rfl : ad105 = ad124:=by injection e124
           (try rw [show ((0 : Int)).toNat = 0 from rfl] at hx124_0)
           (try rw [Addr.add_zero'] at hx124_0)
           have q124n : (0 < t102.length) = True:=eq_true (by omega)
           have hn9 : ad105.block ≠ g9:=Nat.ne_of_lt (Nat.lt_of_lt_of_le (World.block_lt_of_cell? _ _ hx124_0) hge9)
           replace hx124_0:=f7z hb9 hx124_0
           have BK1:=a1z.mk (c0z BK101.1 hb9)
           have BK9:=a1z.mk hbk9
           have HB9:=a1z.mk (b1z HB.1 hb9)
           have GE9:=a1z.mk (Nat.le_trans (b8z HB.1) hge9)
           have nb19 : gb101 ≠ g9:=Nat.ne_of_lt (Nat.lt_of_lt_of_le (f6z BK101.1) hge9)
           have nb91 : g9 ≠ gb101:=fun e => nb19 e.symm
           have LE:=a1z.mk H
           clear hx119_0 hx121_0 p119 q119 p121 q121 e121 e124 p124 hbk9 hb9 hge9 HO_4 HO_9 BK101 BK109 BK114 HB A32 A34 H
           replace q124:=eq_true q124
           generalize rdOf ByteArray.empty t102 0 = wd at LE hx124_0
           have H:=LE.out
           clear LE
           have z0:=c80_ BK1.1
           have y0:=a4z BK1.1 0
           have v0:=c80_ BK9.1
           have f0:=a4z BK9.1 0
           have z1:=c81_ BK1.1
           have y1:=a4z BK1.1 1
           have v1:=c81_ BK9.1
           have f1:=a4z BK9.1 1
           have z2:=c82_ BK1.1
           have y2:=a4z BK1.1 2
           have v2:=c82_ BK9.1
           have f2:=a4z BK9.1 2
           have z3:=c83_ BK1.1
           have y3:=a4z BK1.1 3
           have v3:=c83_ BK9.1
           have f3:=a4z BK9.1 3
           have z4:=c84_ BK1.1
           have y4:=a4z BK1.1 4
           have v4:=c84_ BK9.1
           have f4:=a4z BK9.1 4
           have z5:=c85_ BK1.1
           have y5:=a4z BK1.1 5
           have v5:=c85_ BK9.1
           have f5:=a4z BK9.1 5
           have z6:=c86_ BK1.1
           have y6:=a4z BK1.1 6
           have v6:=c86_ BK9.1
           have f6:=a4z BK9.1 6
           have z7:=c87_ BK1.1
           have y7:=a4z BK1.1 7
           have v7:=c87_ BK9.1
           have f7:=a4z BK9.1 7
           by_cases c36 : wd.toList = ([112,97,115,115] : List UInt8)
           ·rw [if_pos c36] at H
            have c36b0 : (wd.toList == ([112,97,115,115] : List UInt8)) = true:=beq_iff_eq.mpr c36
            simp only [Option.some.injEq,Prod.mk.injEq] at H
            obtain ⟨rfl,rfl,rfl,rfl,rfl,rfl,rfl,rfl,rfl⟩:=H
            go_wp2
            refine bodyPost_ret (f5z rfl _ _ gb101 39 #[.int .i64 1,.int .i64 0,.int .i64 t106,.int .i64 t107,.int .i64 t111,.int .i64 t112,.int .i64 t120,.int .i64 t122] (0,0) _ rfl (c4z (cs':=#[.int .i64 1,.int .i64 0,.int .i64 t106,.int .i64 t107,.int .i64 t111,.int .i64 t112,.int .i64 t120,.int .i64 t122]) (c4z (cs':=#[.int .i64 1,.int .i64 0,.int .i64 t106,.int .i64 t107,.int .i64 t111,.int .i64 t112,.int .i64 t120,.int .i64 0]) (c4z (cs':=#[.int .i64 1,.int .i64 0,.int .i64 t106,.int .i64 t107,.int .i64 t111,.int .i64 t112,.int .i64 0,.int .i64 0]) (c4z (cs':=#[.int .i64 1,.int .i64 0,.int .i64 t106,.int .i64 t107,.int .i64 t111,.int .i64 0,.int .i64 0,.int .i64 0]) (c4z (cs':=#[.int .i64 1,.int .i64 0,.int .i64 t106,.int .i64 t107,.int .i64 0,.int .i64 0,.int .i64 0,.int .i64 0]) (c4z (cs':=#[.int .i64 1,.int .i64 0,.int .i64 t106,.int .i64 0,.int .i64 0,.int .i64 0,.int .i64 0,.int .i64 0]) (c4z (cs':=#[.int .i64 1,.int .i64 0,.int .i64 0,.int .i64 0,.int .i64 0,.int .i64 0,.int .i64 0,.int .i64 0]) (c4z (cs':=#[.int .i64 1,.int .i64 0,.int .i64 0,.int .i64 0,.int .i64 0,.int .i64 0,.int .i64 0,.int .i64 0]) (f3z BK1.1 nb19 _) 0 (.int .i64 1) rfl) 1 (.int .i64 0) rfl) 2 (.int .i64 t106) rfl) 3 (.int .i64 t107) rfl) 4 (.int .i64 t111) rfl) 5 (.int .i64 t112) rfl) 6 (.int .i64 t120) rfl) 7 (.int .i64 t122) rfl) Tryz.underlying39 rfl (by kernel_rfl)) rfl ?_
            exact ⟨rfl,(a5z (a5z (a5z (a5z (a5z (a5z (a5z (a5z (a5z HB9.1 GE9.1) GE101.1) GE101.1) GE101.1) GE101.1) GE101.1) GE101.1) GE101.1) GE101.1)⟩
           ·rw [if_neg c36] at H
            have c36b0 : (wd.toList == ([112,97,115,115] : List UInt8)) = false:=beq_eq_false_iff_ne.mpr c36
            by_cases c56 : (wd.size : Int) > 5
            ·rw [if_pos c56,if_pos (by omega),if_pos (by omega)] at H
             have c56b0 : decide (5 < (wd.size : Int)) = true:=decide_eq_true c56
             have c56b1 : decide (5 < wd.size) = true:=decide_eq_true (by omega)
             have c58b0 : (5 ≤ (wd.size : Int)) = True:=eq_true (by omega)
             have c58b1 : decide (5 ≤ (wd.size : Int)) = true:=decide_eq_true (by omega)
             by_cases c59 : (wd.extract 0 5).toList = ([103,117,97,114,100] : List UInt8)
             ·rw [if_pos c59] at H
              have c59b0 : ((wd.extract 0 5).toList == ([103,117,97,114,100] : List UInt8)) = true:=beq_iff_eq.mpr c59
              replace H:=Option.bind_eq_some_iff.mp H
              obtain ⟨t128,A61,H⟩:=H
              simp only [Option.some.injEq,Prod.mk.injEq] at H
              obtain ⟨rfl,rfl,rfl,rfl,rfl,rfl,rfl,rfl,rfl⟩:=H
              have A61':=a1z.mk A61
              clear A61
              have hx2 : (W9.setCell ⟨g9,0,none⟩ (.int .i64 2)).cell? ad105 = some (.string wd):=(f1z (p:=⟨g9,0,none⟩) hn9 (.int .i64 2)).trans hx124_0
              go_wp2_with (first|((with_reducible refine b2z (f:=37) rfl ?_);refine c1z (some 82) rfl rfl Tryz.func37 (by kernel_rfl) rfl #[.string (wd.extract 5 wd.size)] rfl (by (try simp only [mA_,mC_,mN_]);first|done|rfl) ?_;(with_reducible refine (spec_l1Num.calls kj9 (wd.extract 5 wd.size) t128 _ A61'.out).mono ?_);rintro e w' ⟨rfl,⟨nd,rfl⟩⟩;refine ⟨_,rfl,?_⟩))
              refine bodyPost_ret (f5z rfl _ _ gb101 39 #[.int .i64 2,.int .i64 t128,.int .i64 t106,.int .i64 t107,.int .i64 t111,.int .i64 t112,.int .i64 t120,.int .i64 t122] (0,0) _ rfl (c4z (cs':=#[.int .i64 2,.int .i64 t128,.int .i64 t106,.int .i64 t107,.int .i64 t111,.int .i64 t112,.int .i64 t120,.int .i64 t122]) (c4z (cs':=#[.int .i64 2,.int .i64 t128,.int .i64 t106,.int .i64 t107,.int .i64 t111,.int .i64 t112,.int .i64 t120,.int .i64 0]) (c4z (cs':=#[.int .i64 2,.int .i64 t128,.int .i64 t106,.int .i64 t107,.int .i64 t111,.int .i64 t112,.int .i64 0,.int .i64 0]) (c4z (cs':=#[.int .i64 2,.int .i64 t128,.int .i64 t106,.int .i64 t107,.int .i64 t111,.int .i64 0,.int .i64 0,.int .i64 0]) (c4z (cs':=#[.int .i64 2,.int .i64 t128,.int .i64 t106,.int .i64 t107,.int .i64 0,.int .i64 0,.int .i64 0,.int .i64 0]) (c4z (cs':=#[.int .i64 2,.int .i64 t128,.int .i64 t106,.int .i64 0,.int .i64 0,.int .i64 0,.int .i64 0,.int .i64 0]) (c4z (cs':=#[.int .i64 2,.int .i64 t128,.int .i64 0,.int .i64 0,.int .i64 0,.int .i64 0,.int .i64 0,.int .i64 0]) (c4z (cs':=#[.int .i64 2,.int .i64 0,.int .i64 0,.int .i64 0,.int .i64 0,.int .i64 0,.int .i64 0,.int .i64 0]) (f3z (a8z (f3z BK1.1 nb19 _) nd) nb19 _) 0 (.int .i64 2) rfl) 1 (.int .i64 t128) rfl) 2 (.int .i64 t106) rfl) 3 (.int .i64 t107) rfl) 4 (.int .i64 t111) rfl) 5 (.int .i64 t112) rfl) 6 (.int .i64 t120) rfl) 7 (.int .i64 t122) rfl) Tryz.underlying39 rfl (by kernel_rfl)) rfl ?_
              exact ⟨rfl,(a5z (a5z (a5z (a5z (a5z (a5z (a5z (a5z (a5z (a0z (a5z HB9.1 GE9.1) nd) GE9.1) GE101.1) GE101.1) GE101.1) GE101.1) GE101.1) GE101.1) GE101.1) GE101.1)⟩
             ·rw [if_neg c59] at H
              have c59b0 : ((wd.extract 0 5).toList == ([103,117,97,114,100] : List UInt8)) = false:=beq_eq_false_iff_ne.mpr c59
              simp only [Option.some.injEq,Prod.mk.injEq] at H
              obtain ⟨rfl,rfl,rfl,rfl,rfl,rfl,rfl,rfl,rfl⟩:=H
              go_wp2
              refine bodyPost_ret (f5z rfl _ _ gb101 39 #[.int .i64 0,.int .i64 0,.int .i64 t106,.int .i64 t107,.int .i64 t111,.int .i64 t112,.int .i64 t120,.int .i64 t122] (0,0) _ rfl (c4z (cs':=#[.int .i64 0,.int .i64 0,.int .i64 t106,.int .i64 t107,.int .i64 t111,.int .i64 t112,.int .i64 t120,.int .i64 t122]) (c4z (cs':=#[.int .i64 0,.int .i64 0,.int .i64 t106,.int .i64 t107,.int .i64 t111,.int .i64 t112,.int .i64 t120,.int .i64 0]) (c4z (cs':=#[.int .i64 0,.int .i64 0,.int .i64 t106,.int .i64 t107,.int .i64 t111,.int .i64 t112,.int .i64 0,.int .i64 0]) (c4z (cs':=#[.int .i64 0,.int .i64 0,.int .i64 t106,.int .i64 t107,.int .i64 t111,.int .i64 0,.int .i64 0,.int .i64 0]) (c4z (cs':=#[.int .i64 0,.int .i64 0,.int .i64 t106,.int .i64 t107,.int .i64 0,.int .i64 0,.int .i64 0,.int .i64 0]) (c4z (cs':=#[.int .i64 0,.int .i64 0,.int .i64 t106,.int .i64 0,.int .i64 0,.int .i64 0,.int .i64 0,.int .i64 0]) (c4z (cs':=#[.int .i64 0,.int .i64 0,.int .i64 0,.int .i64 0,.int .i64 0,.int .i64 0,.int .i64 0,.int .i64 0]) (c4z (cs':=#[.int .i64 0,.int .i64 0,.int .i64 0,.int .i64 0,.int .i64 0,.int .i64 0,.int .i64 0,.int .i64 0]) (BK1.1) 0 (.int .i64 0) rfl) 1 (.int .i64 0) rfl) 2 (.int .i64 t106) rfl) 3 (.int .i64 t107) rfl) 4 (.int .i64 t111) rfl) 5 (.int .i64 t112) rfl) 6 (.int .i64 t120) rfl) 7 (.int .i64 t122) rfl) Tryz.underlying39 rfl (by kernel_rfl)) rfl ?_
              exact ⟨rfl,(a5z (a5z (a5z (a5z (a5z (a5z (a5z (a5z (HB9.1) GE101.1) GE101.1) GE101.1) GE101.1) GE101.1) GE101.1) GE101.1) GE101.1)⟩
            ·rw [if_neg c56] at H
             have c56b0 : decide (5 < (wd.size : Int)) = false:=decide_eq_false c56
             have c56b1 : decide (5 < wd.size) = false:=decide_eq_false (by omega)
             simp only [Option.some.injEq,Prod.mk.injEq] at H
             obtain ⟨rfl,rfl,rfl,rfl,rfl,rfl,rfl,rfl,rfl⟩:=H
             go_wp2
             refine bodyPost_ret (f5z rfl _ _ gb101 39 #[.int .i64 0,.int .i64 0,.int .i64 t106,.int .i64 t107,.int .i64 t111,.int .i64 t112,.int .i64 t120,.int .i64 t122] (0,0) _ rfl (c4z (cs':=#[.int .i64 0,.int .i64 0,.int .i64 t106,.int .i64 t107,.int .i64 t111,.int .i64 t112,.int .i64 t120,.int .i64 t122]) (c4z (cs':=#[.int .i64 0,.int .i64 0,.int .i64 t106,.int .i64 t107,.int .i64 t111,.int .i64 t112,.int .i64 t120,.int .i64 0]) (c4z (cs':=#[.int .i64 0,.int .i64 0,.int .i64 t106,.int .i64 t107,.int .i64 t111,.int .i64 t112,.int .i64 0,.int .i64 0]) (c4z (cs':=#[.int .i64 0,.int .i64 0,.int .i64 t106,.int .i64 t107,.int .i64 t111,.int .i64 0,.int .i64 0,.int .i64 0]) (c4z (cs':=#[.int .i64 0,.int .i64 0,.int .i64 t106,.int .i64 t107,.int .i64 0,.int .i64 0,.int .i64 0,.int .i64 0]) (c4z (cs':=#[.int .i64 0,.int .i64 0,.int .i64 t106,.int .i64 0,.int .i64 0,.int .i64 0,.int .i64 0,.int .i64 0]) (c4z (cs':=#[.int .i64 0,.int .i64 0,.int .i64 0,.int .i64 0,.int .i64 0,.int .i64 0,.int .i64 0,.int .i64 0]) (c4z (cs':=#[.int .i64 0,.int .i64 0,.int .i64 0,.int .i64 0,.int .i64 0,.int .i64 0,.int .i64 0,.int .i64 0]) (BK1.1) 0 (.int .i64 0) rfl) 1 (.int .i64 0) rfl) 2 (.int .i64 t106) rfl) 3 (.int .i64 t107) rfl) 4 (.int .i64 t111) rfl) 5 (.int .i64 t112) rfl) 6 (.int .i64 t120) rfl) 7 (.int .i64 t122) rfl) Tryz.underlying39 rfl (by kernel_rfl)) rfl ?_
             exact ⟨rfl,(a5z (a5z (a5z (a5z (a5z (a5z (a5z (a5z (HB9.1) GE101.1) GE101.1) GE101.1) GE101.1) GE101.1) GE101.1) GE101.1) GE101.1)⟩
          ·rw [if_neg c35] at H
           exact absurd H (by simp)
         ·rw [if_neg c33] at H
          exact absurd H (by simp)
        ·rw [if_neg c31] at H
         exact absurd H (by simp)
    ·rw [if_neg c8] at H
     exact absurd H (by simp)
   ·rw [if_neg c6] at H
    exact absurd H (by simp)
  ·rw [if_neg c4] at H
   exact absurd H (by simp)
 ·rw [if_neg c3] at H
  have c3b0 : ((t102.length : Int) == 4) = false:=beq_eq_false_iff_ne.mpr c3
  have c3b1 : ((t102.length : Int) != 4) = true:=bne_iff_ne.mpr c3
  simp only [Option.some.injEq,Prod.mk.injEq] at H
  obtain ⟨rfl,rfl,rfl,rfl,rfl,rfl,rfl,rfl,rfl⟩:=H
  go_enter Tryz.func17,Tryz.ntmps17
  go_wp2_with (first|((with_reducible refine c5z (N:=2) rfl ?_);(try (refine gate_guard (by rfl) ?_;dsimp only));refine d2z ?hg (N:=2) ?hd (cs:=#[.int .i64 0,.int .i64 0,.int .i64 0,.int .i64 0,.int .i64 0,.int .i64 0,.int .i64 0,.int .i64 0]) (t:=39) ?hr ?_;(case hd => rfl);(case hg => rfl);(case hr => first|(go_simp;done)|(go_simp;rfl));intro gb101 hg w119 hbox hb;have n0_:=a1z.mk (b1z (by repeat (first|(with_reducible first|exact HB.1|apply a3z|apply a0z|apply a2z)|exact HB.1)) hb);have n1_:=a1z.mk (hbox);have n2_:=a1z.mk ((by rw [hg];exact (b8z (by repeat (first|(with_reducible first|exact HB.1|apply a3z|apply a0z|apply a2z)|exact HB.1))) : w.heap.size ≤ gb101));have n3_:=a1z.mk ((by rw [hg];exact (b8z (by repeat (first|(with_reducible first|exact HB.1|apply a3z|apply a0z|apply a2z)|exact HB.1))) : w.heap.size ≤ gb101));clear HB;have HB:=n0_;have BK101:=n1_;have GW101:=n2_;have GE101:=n3_;clear n0_ n1_ n2_ n3_;clear hb hbox hg)|((with_reducible refine b2z (f:=16) rfl ?_);refine c1z (some 12) rfl rfl Tryz.func16 (by kernel_rfl) rfl #[.string a0,.int .u8 32] rfl (by (try simp only [mA_,mC_,mN_]);first|done|rfl|(simp only [lD_,lT_];rfl)) ?_;(with_reducible refine (spec_l1Cut.calls k a0 32 t102 _ A2.1).mono ?_);rintro e w120 ⟨v103,rfl,ho0,hb⟩;refine ⟨_,rfl,?_⟩;have n0_:=a1z.mk (Kd.e1z ho0 (b8z (by repeat (first|(with_reducible first|exact HB.1|apply a3z|apply a0z|apply a2z|refine a5z ?_ GE101.1)|exact HB.1))));have n1_:=a1z.mk (c0z (g:=gb101) (o:=.cells #[.int .i64 0,.int .i64 0,.int .i64 0,.int .i64 0,.int .i64 0,.int .i64 0,.int .i64 0,.int .i64 0] 39 (0,0)) (by (with_reducible repeat (first|refine a8z ?_ _|refine a9z ?_|refine blk_alloc ?_ _));exact BK101.1) hb);have n2_:=a1z.mk (b1z (by repeat (first|(with_reducible first|exact HB.1|apply a3z|apply a0z|apply a2z|refine a5z ?_ GE101.1)|exact HB.1)) hb);clear BK101 HB;have HO104:=n0_;have BK101:=n1_;have HB:=n2_;clear n0_ n1_ n2_;(try clear hb);(try clear ho0);obtain ⟨Ao121,co121,eo121⟩:=Kd.e0z HO104.1;subst eo121;have hcz122_0:=c80_ BK101.1;have hcz122_1:=c81_ BK101.1;have hcz122_2:=c82_ BK101.1;have hcz122_3:=c83_ BK101.1;have hcz122_4:=c84_ BK101.1;have hcz122_5:=c85_ BK101.1;have hcz122_6:=c86_ BK101.1;have hcz122_7:=c87_ BK101.1;have hfz122_0:=a4z BK101.1 0;have hfz122_1:=a4z BK101.1 1;have hfz122_2:=a4z BK101.1 2;have hfz122_3:=a4z BK101.1 3;have hfz122_4:=a4z BK101.1 4;have hfz122_5:=a4z BK101.1 5;have hfz122_6:=a4z BK101.1 6;have hfz122_7:=a4z BK101.1 7))
  refine bodyPost_ret (f5z rfl _ _ gb101 39 #[.int .i64 0,.int .i64 0,.int .i64 0,.int .i64 0,.int .i64 0,.int .i64 0,.int .i64 0,.int .i64 0] (0,0) _ rfl (by (with_reducible repeat (first|refine a8z ?_ _|refine a9z ?_|refine blk_alloc ?_ _));refine p8_ ?_;(with_reducible repeat (first|refine a8z ?_ _|refine a9z ?_|refine blk_alloc ?_ _));exact BK101.1) Tryz.underlying39 rfl (by kernel_rfl)) rfl ?_
  exact ⟨by first|rfl|(simp [b5z,b4z] <;> rfl)|(simp [*,b5z,b4z] <;> rfl),by repeat (first|(with_reducible first|exact HB.1|apply a3z|apply a0z|apply a2z|refine a5z ?_ GE101.1)|exact HB.1)⟩
def spec_l1Dec.f : Nat → Int → Option (ByteArray)
 | 0,_ => none
 | k + 1,a0 => if a0 < (-9223372036854775807) then (some (⟨#[45,57,50,50,51,51,55,50,48,51,54,56,53,52,55,55,53,56,48,56]⟩ : ByteArray)) else (if a0 < 0 then ((spec_l1Dec.f k (wrap64 (-a0))).bind fun t101 => (if 1 + t101.size ≤ 9223372036854775807 then (some ((⟨#[45]⟩ : ByteArray) ++ t101)) else (none))) else (if a0 < 10 then (some (strOfNums (([(wrap64 (48 + a0)) % 256] : List Int)))) else ((spec_l1Dec.f k (wrap64 (Int.tdiv a0 10))).bind fun t105 => ((some (([(wrap64 (48 + (Int.tmod a0 10))) % 256] : List Int) : List Int)).bind fun y106 => (if t105.size + (strOfNums y106).size ≤ 9223372036854775807 then (some (t105 ++ (strOfNums y106))) else (none))))))
def spec_l1Dec.T7 : Bool × List (List Nat × List Nat):=(true,[([],[]),([0],[0]),([1],[1]),([],[]),([3],[3]),([4],[4]),([5],[5]),([6],[6]),([7],[7]),([2,8],[2,8]),([9,2,0,1,2,3,4,5,6,7,8,9],[9])])
def spec_l1Dec.B7 : List Nat:=[0,1,3,0,8,24,56,120,248,511,1023]
theorem spec_l1Dec.tab7 : rtab .any (opsOf Tryz.f40 7) = spec_l1Dec.T7:=by kernel_rfl
theorem spec_l1Dec.bits7 : waitsOk spec_l1Dec.T7.2 spec_l1Dec.B7 = true:=by kernel_rfl
set_option maxHeartbeats 8000000 in
set_option maxRecDepth 100000 in
theorem spec_l1Dec.calls (k : Nat) : ∀ (a0 : Int) (r : ByteArray) (w : World) (h : spec_l1Dec.f k a0 = some r),
  Calls Tryz.prog 40 #[.int .i64 a0] w fun e w' => e = .returned (.string r) ∧ Below w.heap.size w w':=by
 induction k using Nat.strongRecOn with
 | _ k ih =>
 intro a0 r w h
 cases k with
 | zero => exact absurd h (by simp [spec_l1Dec.f])
 | succ k =>
 simp only [spec_l1Dec.f] at h
 have HB:=a1z.mk (Below.refl w.heap.size w)
 have H : (if a0 < (-9223372036854775807) then (some (⟨#[45,57,50,50,51,51,55,50,48,51,54,56,53,52,55,55,53,56,48,56]⟩ : ByteArray)) else (if a0 < 0 then ((spec_l1Dec.f k (wrap64 (-a0))).bind fun t101 => (if 1 + t101.size ≤ 9223372036854775807 then (some ((⟨#[45]⟩ : ByteArray) ++ t101)) else (none))) else (if a0 < 10 then (some (strOfNums (([(wrap64 (48 + a0)) % 256] : List Int)))) else ((spec_l1Dec.f k (wrap64 (Int.tdiv a0 10))).bind fun t105 => ((some (([(wrap64 (48 + (Int.tmod a0 10))) % 256] : List Int) : List Int)).bind fun y106 => (if t105.size + (strOfNums y106).size ≤ 9223372036854775807 then (some (t105 ++ (strOfNums y106))) else (none))))))) = some r:=h
 clear h
 by_cases c2 : a0 < (-9223372036854775807)
 ·rw [if_pos c2] at H
  have c2b0 : decide (a0 < (-9223372036854775807)) = true:=decide_eq_true c2
  clear c2
  obtain rfl:=Option.some.inj H
  go_enter Tryz.func40,Tryz.ntmps40
  go_wp2
  go_ret
  exact ⟨by first|rfl|(simp [b5z,b4z] <;> rfl)|(simp [*,b5z,b4z] <;> rfl),by repeat (first|(with_reducible first|exact HB.1|apply a3z|apply a0z|apply a2z)|exact HB.1)⟩
 ·rw [if_neg c2] at H
  have c2b0 : decide (a0 < (-9223372036854775807)) = false:=decide_eq_false c2
  clear c2
  by_cases c3 : a0 < 0
  ·rw [if_pos c3] at H
   have c3b0 : decide (a0 < 0) = true:=decide_eq_true c3
   clear c3
   replace H:=Option.bind_eq_some_iff.mp H
   obtain ⟨t101,A40,H⟩:=H
   replace H : (if 1 + t101.size ≤ 9223372036854775807 then (some ((⟨#[45]⟩ : ByteArray) ++ t101)) else (none)) = some r:=H
   have A4:=a1z.mk A40
   clear A40
   by_cases c5 : 1 + t101.size ≤ 9223372036854775807
   ·rw [if_pos c5] at H
    have c5b0:=eq_true c5
    have c5b1 : decide (1 + t101.size ≤ 9223372036854775807) = true:=decide_eq_true c5
    (try (have c5b3 : (9223372036854775807 < 1 + t101.size) = False:=eq_false (Nat.not_lt.2 c5);simp only [ByteArray.size_append] at c5b3))
    (try (have c5b4 : (9223372036854775807 < 1 + t101.size) = False:=by (have h_:=eq_false (Nat.not_lt.2 c5);simp only [ByteArray.size_append] at h_;exact h_)))
    try have c5b2 : (9223372036854775807 < 1 + t101.size) = False:=eq_false (Nat.not_lt.2 c5)
    obtain rfl:=Option.some.inj H
    go_enter Tryz.func40,Tryz.ntmps40
    go_wp2_with (first|((with_reducible refine b2z (f:=40) rfl ?_);refine c1z (some 9) rfl rfl Tryz.func40 (by kernel_rfl) rfl #[.int .i64 (wrap64 (-a0))] rfl (by (try simp only [mA_,mC_,mN_]);first|done|rfl|(simp only [lD_,lT_];rfl)) ?_;(with_reducible refine (ih k (by omega) (wrap64 (-a0)) t101 _ A4.1).mono ?_);rintro e w6 ⟨rfl,hb⟩;refine ⟨_,rfl,?_⟩;have n0_:=a1z.mk (b1z (by repeat (first|(with_reducible first|exact HB.1|apply a3z|apply a0z|apply a2z)|exact HB.1)) hb);clear HB;have HB:=n0_;clear n0_;(try clear hb)))
    go_ret
    exact ⟨by first|rfl|(simp [b5z,b4z] <;> rfl)|(simp [*,b5z,b4z] <;> rfl),by repeat (first|(with_reducible first|exact HB.1|apply a3z|apply a0z|apply a2z)|exact HB.1)⟩
   ·rw [if_neg c5] at H
    exact absurd H (by simp)
  ·rw [if_neg c3] at H
   have c3b0 : decide (a0 < 0) = false:=decide_eq_false c3
   clear c3
   by_cases c7 : a0 < 10
   ·rw [if_pos c7] at H
    have c7b0 : decide (a0 < 10) = true:=decide_eq_true c7
    clear c7
    obtain ⟨y102,hy102⟩ : ∃ y_ : List Int,y_ = (([(wrap64 (48 + a0)) % 256] : List Int)):=⟨_,rfl⟩
    replace H : (some (strOfNums y102)) = some r:=by first|(rw [hy102];with_reducible exact H)|(have H2_:=(Option.bind_some _ _).symm.trans H;rw [hy102];with_reducible exact H2_)|(have H2_:=(Option.bind_some _ _).symm.trans H;with_reducible exact H2_)|with_reducible exact H|(rw [hy102];exact H)|exact H
    have Ny102:=a1z.mk hy102
    clear hy102
    obtain rfl:=Option.some.inj H
    go_enter Tryz.func40,Tryz.ntmps40
    go_wp2_with (first|((with_reducible refine c5z (N:=16) rfl ?_);refine Kd.R_lit (Kd.int .u8) _ 5 ?hg (N:=16) ?hd (xs:=([(wrap64 (48 + a0)) % 256] : List Int)) (inner:=[.int .u8 ((wrap64 (48 + a0)) % 256)]) (ok:=fun _ => True) (okp:=fun _ => True) ?hr ?hp (fun _ hk => hk) trivial (Below.refl _ _) (Nat.le_refl _) (by simp) ?_;(case hd => rfl);(case hg => rfl);(case hr => first|(go_simp;done)|(go_simp;rfl));(case hp => exact (Reps.one (show Kd.M (Kd.int .u8) _ _ _ ((wrap64 (48 + a0)) % 256) [.int .u8 ((wrap64 (48 + a0)) % 256)] from rfl) (Reps.none _ _)));intro v103 w8 ho9 hb hg_ hnew_;clear hg_ hnew_;(first|rw [← Ny102.1] at ho9|(simp only [Int.reduceToNat] at ho9;rw [← Ny102.1] at ho9));have n0_:=a1z.mk (Kd.e1z ho9 (b8z (by repeat (first|(with_reducible first|exact HB.1|apply a3z|apply a0z|apply a2z)|exact HB.1))));have n1_:=a1z.mk (b1z (by repeat (first|(with_reducible first|exact HB.1|apply a3z|apply a0z|apply a2z)|exact HB.1)) hb);clear HB;have HO104:=n0_;have HB:=n1_;clear n0_ n1_;clear hb ho9;have hcv10:=own_string (P:=Tryz.prog) Tryz.underlying28 Tryz.underlying5 Tryz.underlying9 (Kd.own_of_R HO104.1)))
    go_ret
    exact ⟨by first|rfl|(simp [b5z,b4z] <;> rfl)|(simp [*,b5z,b4z] <;> rfl),by repeat (first|(with_reducible first|exact HB.1|apply a3z|apply a0z|apply a2z)|exact HB.1)⟩
   ·rw [if_neg c7] at H
    have c7b0 : decide (a0 < 10) = false:=decide_eq_false c7
    clear c7
    replace H:=Option.bind_eq_some_iff.mp H
    obtain ⟨t105,A110,H⟩:=H
    replace H : ((some (([(wrap64 (48 + (Int.tmod a0 10))) % 256] : List Int) : List Int)).bind fun y106 => (if t105.size + (strOfNums y106).size ≤ 9223372036854775807 then (some (t105 ++ (strOfNums y106))) else (none))) = some r:=H
    have A11:=a1z.mk A110
    clear A110
    obtain ⟨y106,hy106⟩ : ∃ y_ : List Int,y_ = (([(wrap64 (48 + (Int.tmod a0 10))) % 256] : List Int)):=⟨_,rfl⟩
    replace H : (if t105.size + (strOfNums y106).size ≤ 9223372036854775807 then (some (t105 ++ (strOfNums y106))) else (none)) = some r:=by first|(rw [hy106];with_reducible exact H)|(have H2_:=(Option.bind_some _ _).symm.trans H;rw [hy106];with_reducible exact H2_)|(have H2_:=(Option.bind_some _ _).symm.trans H;with_reducible exact H2_)|with_reducible exact H|(rw [hy106];exact H)|exact H
    have Ny106:=a1z.mk hy106
    clear hy106
    by_cases c12 : t105.size + (strOfNums y106).size ≤ 9223372036854775807
    ·rw [if_pos c12] at H
     have c12b0:=eq_true c12
     have c12b1 : decide (t105.size + (strOfNums y106).size ≤ 9223372036854775807) = true:=decide_eq_true c12
     (try (have c12b3 : (9223372036854775807 < t105.size + (strOfNums y106).size) = False:=eq_false (Nat.not_lt.2 c12);simp only [ByteArray.size_append] at c12b3))
     (try (have c12b4 : (9223372036854775807 < t105.size + (strOfNums y106).size) = False:=by (have h_:=eq_false (Nat.not_lt.2 c12);simp only [ByteArray.size_append] at h_;exact h_)))
     try have c12b2 : (9223372036854775807 < t105.size + (strOfNums y106).size) = False:=eq_false (Nat.not_lt.2 c12)
     obtain rfl:=Option.some.inj H
     go_enter Tryz.func40,Tryz.ntmps40
     try go_wp2
     have n0_:=a1z.mk (a2z HB.1)
     clear HB
     have HB:=n0_
     clear n0_
     refine h6z (n:=11) (S:=fun w' => True) (ds:=[]) #[false,false,false,false,false,false,false,false,false,false,false] (by kernel_rfl) rfl rfl trivial (fun hHeld => ?_);refine g0z spec_l1Dec.tab7 spec_l1Dec.bits7 (fun HT_ HW_ => ?_)
     generalize w.drew = w13 at HB hHeld ⊢
     refine pure_ (i:=0) (N:=some 18) (v:=?_) (a':=?_) #[true,false,false,false,false,false,false,false,false,false,false] rfl rfl (d1z HT_.1 (by kernel_rfl)) (fun _ _ _ h => h) (Or.inl ⟨by rfl,?_⟩) ?_ ?_
     rotate_left
     ·intro w'
      go_simp
      with_reducible rfl
     rotate_left
     ·simp only [Act.put,sA_,sZ_,sS_,i64_w,i32_w]
      rfl
     refine pure_ (i:=1) (N:=some 19) (v:=?_) (a':=?_) #[true,true,false,false,false,false,false,false,false,false,false] rfl rfl (d1z HT_.1 (by kernel_rfl)) (fun _ _ _ h => h) (Or.inl ⟨by rfl,?_⟩) ?_ ?_
     rotate_left
     ·intro w'
      go_simp
      with_reducible rfl
     rotate_left
     ·simp only [Act.put,sA_,sZ_,sS_,i64_w,i32_w]
      rfl
     refine pure_ (i:=3) (N:=some 21) (v:=?_) (a':=?_) #[true,true,false,true,false,false,false,false,false,false,false] rfl rfl (d1z HT_.1 (by kernel_rfl)) (fun _ _ _ h => h) (Or.inl ⟨by rfl,?_⟩) ?_ ?_
     rotate_left
     ·intro w'
      go_simp
      with_reducible rfl
     rotate_left
     ·simp only [Act.put,sA_,sZ_,sS_,i64_w,i32_w]
      rfl
     refine pure_ (i:=4) (N:=some 22) (v:=?_) (a':=?_) #[true,true,false,true,true,false,false,false,false,false,false] rfl rfl (d1z HT_.1 (by kernel_rfl)) (fun _ _ _ h => h) (Or.inl ⟨by rfl,?_⟩) ?_ ?_
     rotate_left
     ·intro w'
      go_simp
      with_reducible rfl
     rotate_left
     ·simp only [Act.put,sA_,sZ_,sS_,i64_w,i32_w]
      rfl
     refine pure_ (i:=5) (N:=some 23) (v:=?_) (a':=?_) #[true,true,false,true,true,true,false,false,false,false,false] rfl rfl (d1z HT_.1 (by kernel_rfl)) (fun _ _ _ h => h) (Or.inl ⟨by rfl,?_⟩) ?_ ?_
     rotate_left
     ·intro w'
      go_simp
      with_reducible rfl
     rotate_left
     ·simp only [Act.put,sA_,sZ_,sS_,i64_w,i32_w]
      rfl
     refine pure_ (i:=6) (N:=some 24) (v:=?_) (a':=?_) #[true,true,false,true,true,true,true,false,false,false,false] rfl rfl (d1z HT_.1 (by kernel_rfl)) (fun _ _ _ h => h) (Or.inl ⟨by rfl,?_⟩) ?_ ?_
     rotate_left
     ·intro w'
      go_simp
      with_reducible rfl
     rotate_left
     ·simp only [Act.put,sA_,sZ_,sS_,i64_w,i32_w]
      rfl
     refine join_ (σ:=Value) 2 #[true,true,true,true,true,true,true,true,true,false,false] (fun s_ => [(20,.string t105),(25,s_),(26,.string (strOfNums y106))]) (fun s_ w' => (Kd.R (Kd.int .u8) 5 w' w.heap.size (fun _ => True) s_ y106) ∧ (Below w.heap.size w w')) ?_ ?_
     rotate_left
     ·intro hCont
      refine two_ (i:=2) (j:=7) (Ni:=some 20) (Nj:=some 25) #[true,true,true,true,true,true,true,false,false,false,false] #[true,true,false,true,true,true,true,true,false,false,false] rfl rfl rfl rfl (two_of HT_.1 (by kernel_rfl)) (by decide) (by decide) (fun K hK => ?_) (fun K hK => ?_)
      ·skip
       refine goes_ Tryz.func40 (by kernel_rfl) rfl #[.int .i64 (wrap64 (Int.tdiv a0 10))] (by rfl) rfl rfl (by (try simp only [mA_,mC_,mN_]);first|done|rfl|(simp only [lD_,lT_];rfl)) ?_
       with_reducible refine (ih k (by omega) (wrap64 (Int.tdiv a0 10)) t105 _ A11.1).mono ?_
       rintro e w14 ⟨rfl,hb⟩
       refine ⟨_,rfl,?_⟩
       have n0_:=a1z.mk (b1z (by repeat (first|(with_reducible first|exact HB.1|apply a3z|apply a0z|apply a2z)|exact HB.1)) hb)
       clear HB
       have HB:=n0_
       clear n0_
       (try clear hb)
       (try clear hb2)
       (try clear hk)
       (try clear hi)
       refine hK.out _ _ trivial (fun hHeld => ?_)
       clear hK K
       refine norm_ (a':=?_) ?_ ?_
       rotate_left
       ·show Act.put _ (some 20) _ = _
        simp only [Act.put,sA_,sZ_,sS_,i64_w,i32_w]
        rfl
       refine one_ (i:=7) (N:=some 25) #[true,true,true,true,true,true,true,true,false,false,false] rfl rfl (e8z HT_.1 (by kernel_rfl)) (by decide) (fun K hK => ?_)
       refine Kd.R_lit_step (Kd.int .u8) _ 5 ?hg (N:=25) ?hd (xs:=([(wrap64 (48 + (Int.tmod a0 10))) % 256] : List Int)) (inner:=[.int .u8 ((wrap64 (48 + (Int.tmod a0 10))) % 256)]) (ok:=fun _ => True) (okp:=fun _ => True) ?hr ?hp (fun _ hk => hk) trivial (Below.refl _ _) (Nat.le_refl _) (by simp) ?_;(case hd => rfl);(case hg => rfl);(case hr => first|(go_simp;done)|(go_simp;rfl));(case hp => exact (Reps.one (show Kd.M (Kd.int .u8) _ _ _ ((wrap64 (48 + (Int.tmod a0 10))) % 256) [.int .u8 ((wrap64 (48 + (Int.tmod a0 10))) % 256)] from rfl) (Reps.none _ _)))
       intro v107 w15 ho16 hb hg_ hnew_
       clear hg_ hnew_
       (first|rw [← Ny106.1] at ho16|(simp only [Int.reduceToNat] at ho16;rw [← Ny106.1] at ho16))
       have n0_:=a1z.mk (Kd.e1z ho16 (b8z (by repeat (first|(with_reducible first|exact HB.1|apply a3z|apply a0z|apply a2z)|exact HB.1))))
       have n1_:=a1z.mk (b1z (by repeat (first|(with_reducible first|exact HB.1|apply a3z|apply a0z|apply a2z)|exact HB.1)) hb)
       clear HB
       have HO108:=n0_
       have HB:=n1_
       clear n0_ n1_
       clear hb ho16
       refine hK.out _ _ trivial (fun hHeld => ?_)
       clear hK K
       refine norm_ (a':=?_) ?_ ?_
       rotate_left
       ·show Act.put _ (some 25) _ = _
        simp only [Act.put,sA_,sZ_,sS_,i64_w,i32_w]
        rfl
       refine one_ (i:=8) (N:=some 26) #[true,true,true,true,true,true,true,true,true,false,false] rfl rfl (e8z HT_.1 (by kernel_rfl)) (by decide) (fun K hK => ?_)
       have hcv17:=own_string (P:=Tryz.prog) Tryz.underlying28 Tryz.underlying5 Tryz.underlying9 (Kd.own_of_R HO108.1)
       refine value_ (w1:=?_) (v:=?_) (by rfl) rfl ?_ ?_
       rotate_left 2
       ·go_simp
        constructor
        ·rfl
        ·rfl
       clear hcv17
       refine hK.out _ _ trivial (fun hHeld => ?_)
       clear hK K
       refine norm_ (a':=?_) ?_ ?_
       rotate_left
       ·show Act.put _ (some 26) _ = _
        simp only [Act.put,sA_,sZ_,sS_,i64_w,i32_w]
        rfl
       exact norm_ (by simp only [putAll,Act.put,sA_,sZ_,sS_]) (hCont (v107) _ ⟨(by (with_reducible repeat (first|apply Kd.R_alloc|apply Kd.b6z|apply Kd.b9z));exact HO108.1),(by repeat (first|(with_reducible first|exact HB.1|apply a3z|apply a0z|apply a2z)|exact HB.1))⟩)
      ·skip
       refine Kd.R_lit_step (Kd.int .u8) _ 5 ?hg (N:=25) ?hd (xs:=([(wrap64 (48 + (Int.tmod a0 10))) % 256] : List Int)) (inner:=[.int .u8 ((wrap64 (48 + (Int.tmod a0 10))) % 256)]) (ok:=fun _ => True) (okp:=fun _ => True) ?hr ?hp (fun _ hk => hk) trivial (Below.refl _ _) (Nat.le_refl _) (by simp) ?_;(case hd => rfl);(case hg => rfl);(case hr => first|(go_simp;done)|(go_simp;rfl));(case hp => exact (Reps.one (show Kd.M (Kd.int .u8) _ _ _ ((wrap64 (48 + (Int.tmod a0 10))) % 256) [.int .u8 ((wrap64 (48 + (Int.tmod a0 10))) % 256)] from rfl) (Reps.none _ _)))
       intro v107 w14 ho15 hb hg_ hnew_
       clear hg_ hnew_
       (first|rw [← Ny106.1] at ho15|(simp only [Int.reduceToNat] at ho15;rw [← Ny106.1] at ho15))
       have n0_:=a1z.mk (Kd.e1z ho15 (b8z (by repeat (first|(with_reducible first|exact HB.1|apply a3z|apply a0z|apply a2z)|exact HB.1))))
       have n1_:=a1z.mk (b1z (by repeat (first|(with_reducible first|exact HB.1|apply a3z|apply a0z|apply a2z)|exact HB.1)) hb)
       clear HB
       have HO108:=n0_
       have HB:=n1_
       clear n0_ n1_
       clear hb ho15
       refine hK.out _ _ trivial (fun hHeld => ?_)
       clear hK K
       refine norm_ (a':=?_) ?_ ?_
       rotate_left
       ·show Act.put _ (some 25) _ = _
        simp only [Act.put,sA_,sZ_,sS_,i64_w,i32_w]
        rfl
       refine two_ (i:=2) (j:=8) (Ni:=some 20) (Nj:=some 26) #[true,true,true,true,true,true,true,true,false,false,false] #[true,true,false,true,true,true,true,true,true,false,false] rfl rfl rfl rfl (two_of HT_.1 (by kernel_rfl)) (by decide) (by decide) (fun K hK => ?_) (fun K hK => ?_)
       ·skip
        refine goes_ Tryz.func40 (by kernel_rfl) rfl #[.int .i64 (wrap64 (Int.tdiv a0 10))] (by rfl) rfl rfl (by (try simp only [mA_,mC_,mN_]);first|done|rfl|(simp only [lD_,lT_];rfl)) ?_
        with_reducible refine (ih k (by omega) (wrap64 (Int.tdiv a0 10)) t105 _ A11.1).mono ?_
        rintro e w16 ⟨rfl,hb⟩
        refine ⟨_,rfl,?_⟩
        have n0_:=a1z.mk (Kd.d3z (by (with_reducible repeat (first|apply Kd.R_alloc|apply Kd.b6z|apply Kd.b9z));exact HO108.1) hb)
        have n1_:=a1z.mk (b1z (by repeat (first|(with_reducible first|exact HB.1|apply a3z|apply a0z|apply a2z)|exact HB.1)) hb)
        clear HO108 HB
        have HO108:=n0_
        have HB:=n1_
        clear n0_ n1_
        (try clear hb)
        (try clear hb2)
        (try clear hk)
        (try clear hi)
        refine hK.out _ _ trivial (fun hHeld => ?_)
        clear hK K
        refine norm_ (a':=?_) ?_ ?_
        rotate_left
        ·show Act.put _ (some 20) _ = _
         simp only [Act.put,sA_,sZ_,sS_,i64_w,i32_w]
         rfl
        refine one_ (i:=8) (N:=some 26) #[true,true,true,true,true,true,true,true,true,false,false] rfl rfl (e8z HT_.1 (by kernel_rfl)) (by decide) (fun K hK => ?_)
        have hcv17:=own_string (P:=Tryz.prog) Tryz.underlying28 Tryz.underlying5 Tryz.underlying9 (Kd.own_of_R HO108.1)
        refine value_ (w1:=?_) (v:=?_) (by rfl) rfl ?_ ?_
        rotate_left 2
        ·go_simp
         constructor
         ·rfl
         ·rfl
        clear hcv17
        refine hK.out _ _ trivial (fun hHeld => ?_)
        clear hK K
        refine norm_ (a':=?_) ?_ ?_
        rotate_left
        ·show Act.put _ (some 26) _ = _
         simp only [Act.put,sA_,sZ_,sS_,i64_w,i32_w]
         rfl
        exact norm_ (by simp only [putAll,Act.put,sA_,sZ_,sS_]) (hCont (v107) _ ⟨(by (with_reducible repeat (first|apply Kd.R_alloc|apply Kd.b6z|apply Kd.b9z));exact HO108.1),(by repeat (first|(with_reducible first|exact HB.1|apply a3z|apply a0z|apply a2z)|exact HB.1))⟩)
       ·skip
        have hcv16:=own_string (P:=Tryz.prog) Tryz.underlying28 Tryz.underlying5 Tryz.underlying9 (Kd.own_of_R HO108.1)
        refine value_ (w1:=?_) (v:=?_) (by rfl) rfl ?_ ?_
        rotate_left 2
        ·go_simp
         constructor
         ·rfl
         ·rfl
        clear hcv16
        refine hK.out _ _ trivial (fun hHeld => ?_)
        clear hK K
        refine norm_ (a':=?_) ?_ ?_
        rotate_left
        ·show Act.put _ (some 26) _ = _
         simp only [Act.put,sA_,sZ_,sS_,i64_w,i32_w]
         rfl
        refine one_ (i:=2) (N:=some 20) #[true,true,true,true,true,true,true,true,true,false,false] rfl rfl (e8z HT_.1 (by kernel_rfl)) (by decide) (fun K hK => ?_)
        refine goes_ Tryz.func40 (by kernel_rfl) rfl #[.int .i64 (wrap64 (Int.tdiv a0 10))] (by rfl) rfl rfl (by (try simp only [mA_,mC_,mN_]);first|done|rfl|(simp only [lD_,lT_];rfl)) ?_
        with_reducible refine (ih k (by omega) (wrap64 (Int.tdiv a0 10)) t105 _ A11.1).mono ?_
        rintro e w17 ⟨rfl,hb⟩
        refine ⟨_,rfl,?_⟩
        have n0_:=a1z.mk (Kd.d3z (by (with_reducible repeat (first|apply Kd.R_alloc|apply Kd.b6z|apply Kd.b9z));exact HO108.1) hb)
        have n1_:=a1z.mk (b1z (by repeat (first|(with_reducible first|exact HB.1|apply a3z|apply a0z|apply a2z)|exact HB.1)) hb)
        clear HO108 HB
        have HO108:=n0_
        have HB:=n1_
        clear n0_ n1_
        (try clear hb)
        (try clear hb2)
        (try clear hk)
        (try clear hi)
        refine hK.out _ _ trivial (fun hHeld => ?_)
        clear hK K
        refine norm_ (a':=?_) ?_ ?_
        rotate_left
        ·show Act.put _ (some 20) _ = _
         simp only [Act.put,sA_,sZ_,sS_,i64_w,i32_w]
         rfl
        exact norm_ (by simp only [putAll,Act.put,sA_,sZ_,sS_]) (hCont (v107) _ ⟨(by (with_reducible repeat (first|apply Kd.R_alloc|apply Kd.b6z|apply Kd.b9z));exact HO108.1),(by repeat (first|(with_reducible first|exact HB.1|apply a3z|apply a0z|apply a2z)|exact HB.1))⟩)
     rintro v107 w18 ⟨h0_,h1_⟩
     have n0_ : a1z (Kd.R (Kd.int .u8) 5 w18 w.heap.size (fun _ => True) v107 y106):=⟨h0_⟩
     have n1_ : a1z (Below w.heap.size w w18):=⟨h1_⟩
     clear HB
     clear h0_ h1_
     have HO108:=n0_
     have HB:=n1_
     clear n0_ n1_
     have hHeld:=trivial
     refine norm_ (a':=?_) ?_ ?_
     rotate_left
     ·simp only [putAll,Act.put,sA_,sZ_,sS_]
      rfl
     refine pure_ (i:=9) (N:=some 27) (v:=?_) (a':=?_) #[true,true,true,true,true,true,true,true,true,true,false] rfl rfl (d1z HT_.1 (by kernel_rfl)) (fun _ _ _ h => h) (Or.inl ⟨by rfl,?_⟩) ?_ ?_
     rotate_left
     ·intro w'
      go_simp
      with_reducible rfl
     rotate_left
     ·simp only [Act.put,sA_,sZ_,sS_,i64_w,i32_w]
      rfl
     refine pure_ (i:=10) (N:=some 2) (v:=?_) (a':=?_) #[true,true,true,true,true,true,true,true,true,true,true] rfl rfl (d1z HT_.1 (by kernel_rfl)) (fun _ _ _ h => h) (Or.inl ⟨by rfl,?_⟩) ?_ ?_
     rotate_left
     ·intro w'
      go_simp
      with_reducible rfl
     rotate_left
     ·simp only [Act.put,sA_,sZ_,sS_,i64_w,i32_w]
      rfl
     refine done_ (g8z HT_.1 (by kernel_rfl)) ?_
     try go_wp2
     go_ret
     exact ⟨by first|rfl|(simp [b5z,b4z] <;> rfl)|(simp [*,b5z,b4z] <;> rfl),by repeat (first|(with_reducible first|exact HB.1|apply a3z|apply a0z|apply a2z)|exact HB.1)⟩
    ·rw [if_neg c12] at H
     exact absurd H (by simp)
def spec_l4Word.f (k : Nat) (a0_0 : Int) (a0_1 : Int) (a0_2 : Int) (a0_3 : Int) (a0_4 : Int) (a0_5 : Int) (a0_6 : Int) (a0_7 : Int) : Option (ByteArray):=if a0_0 = 1 then (some (⟨#[112,97,115,115]⟩ : ByteArray)) else (if a0_0 = 2 then ((spec_l1Dec.f k a0_1).bind fun t102 => (if 5 + t102.size ≤ 9223372036854775807 then (some ((⟨#[103,117,97,114,100]⟩ : ByteArray) ++ t102)) else (none))) else (some (⟨#[100,114,111,112]⟩ : ByteArray)))
set_option maxHeartbeats 8000000 in
set_option maxRecDepth 100000 in
theorem spec_l4Word.calls (k : Nat) (a0_0 : Int) (a0_1 : Int) (a0_2 : Int) (a0_3 : Int) (a0_4 : Int) (a0_5 : Int) (a0_6 : Int) (a0_7 : Int) (r : ByteArray) (w : World) (h : spec_l4Word.f k a0_0 a0_1 a0_2 a0_3 a0_4 a0_5 a0_6 a0_7 = some r) :
  Calls Tryz.prog 38 #[.agg #[.int .i64 a0_0,.int .i64 a0_1,.int .i64 a0_2,.int .i64 a0_3,.int .i64 a0_4,.int .i64 a0_5,.int .i64 a0_6,.int .i64 a0_7]] w fun e w' => e = .returned (.string r) ∧ Below w.heap.size w w':=by
 have hu39:=Tryz.underlying39
 have HB:=a1z.mk (Below.refl w.heap.size w)
 have H : (if a0_0 = 1 then (some (⟨#[112,97,115,115]⟩ : ByteArray)) else (if a0_0 = 2 then ((spec_l1Dec.f k a0_1).bind fun t102 => (if 5 + t102.size ≤ 9223372036854775807 then (some ((⟨#[103,117,97,114,100]⟩ : ByteArray) ++ t102)) else (none))) else (some (⟨#[100,114,111,112]⟩ : ByteArray)))) = some r:=h
 clear h
 by_cases c2 : a0_0 = 1
 ·rw [if_pos c2] at H
  have c2b0 : (a0_0 == 1) = true:=beq_iff_eq.mpr c2
  have c2b1 : (a0_0 != 1) = false:=bne_eq_false_iff_eq.mpr c2
  clear c2
  obtain rfl:=Option.some.inj H
  go_enter Tryz.func38,Tryz.ntmps38
  go_wp2_with (first|((with_reducible refine c5z (N:=1) rfl ?_);refine d2z ?hg (N:=1) ?hd (cs:=#[.int .i64 a0_0,.int .i64 a0_1,.int .i64 a0_2,.int .i64 a0_3,.int .i64 a0_4,.int .i64 a0_5,.int .i64 a0_6,.int .i64 a0_7]) (t:=39) ?hr ?_;(case hd => rfl);(case hg => rfl);(case hr => first|(go_simp;done)|(go_simp;rfl));intro gb101 hg w3 hbox hb;have n0_:=a1z.mk (b1z (by repeat (first|(with_reducible first|exact HB.1|apply a3z|apply a0z|apply a2z)|exact HB.1)) hb);have n1_:=a1z.mk (hbox);have n2_:=a1z.mk ((by rw [hg];exact (b8z (by repeat (first|(with_reducible first|exact HB.1|apply a3z|apply a0z|apply a2z)|exact HB.1))) : w.heap.size ≤ gb101));have n3_:=a1z.mk ((by rw [hg];exact (b8z (by repeat (first|(with_reducible first|exact HB.1|apply a3z|apply a0z|apply a2z)|exact HB.1))) : w.heap.size ≤ gb101));clear HB;have HB:=n0_;have BK101:=n1_;have GW101:=n2_;have GE101:=n3_;clear n0_ n1_ n2_ n3_;clear hb hbox hg;have hcz4_0:=c80_ BK101.1;have hcz4_1:=c81_ BK101.1;have hcz4_2:=c82_ BK101.1;have hcz4_3:=c83_ BK101.1;have hcz4_4:=c84_ BK101.1;have hcz4_5:=c85_ BK101.1;have hcz4_6:=c86_ BK101.1;have hcz4_7:=c87_ BK101.1;have hfz4_0:=a4z BK101.1 0;have hfz4_1:=a4z BK101.1 1;have hfz4_2:=a4z BK101.1 2;have hfz4_3:=a4z BK101.1 3;have hfz4_4:=a4z BK101.1 4;have hfz4_5:=a4z BK101.1 5;have hfz4_6:=a4z BK101.1 6;have hfz4_7:=a4z BK101.1 7))
  go_ret
  exact ⟨by first|rfl|(simp [b5z,b4z] <;> rfl)|(simp [*,b5z,b4z] <;> rfl),by repeat (first|(with_reducible first|exact HB.1|apply a3z|apply a0z|apply a2z|refine a5z ?_ GE101.1)|exact HB.1)⟩
 ·rw [if_neg c2] at H
  have c2b0 : (a0_0 == 1) = false:=beq_eq_false_iff_ne.mpr c2
  have c2b1 : (a0_0 != 1) = true:=bne_iff_ne.mpr c2
  by_cases c5 : a0_0 = 2
  ·rw [if_pos c5] at H
   have c5b0 : (a0_0 == 2) = true:=beq_iff_eq.mpr c5
   have c5b1 : (a0_0 != 2) = false:=bne_eq_false_iff_eq.mpr c5
   clear c5
   replace H:=Option.bind_eq_some_iff.mp H
   obtain ⟨t102,A60,H⟩:=H
   replace H : (if 5 + t102.size ≤ 9223372036854775807 then (some ((⟨#[103,117,97,114,100]⟩ : ByteArray) ++ t102)) else (none)) = some r:=H
   have A6:=a1z.mk A60
   clear A60
   by_cases c7 : 5 + t102.size ≤ 9223372036854775807
   ·rw [if_pos c7] at H
    have c7b0:=eq_true c7
    have c7b1 : decide (5 + t102.size ≤ 9223372036854775807) = true:=decide_eq_true c7
    (try (have c7b3 : (9223372036854775807 < 5 + t102.size) = False:=eq_false (Nat.not_lt.2 c7);simp only [ByteArray.size_append] at c7b3))
    (try (have c7b4 : (9223372036854775807 < 5 + t102.size) = False:=by (have h_:=eq_false (Nat.not_lt.2 c7);simp only [ByteArray.size_append] at h_;exact h_)))
    try have c7b2 : (9223372036854775807 < 5 + t102.size) = False:=eq_false (Nat.not_lt.2 c7)
    obtain rfl:=Option.some.inj H
    go_enter Tryz.func38,Tryz.ntmps38
    go_wp2_with (first|((with_reducible refine c5z (N:=1) rfl ?_);refine d2z ?hg (N:=1) ?hd (cs:=#[.int .i64 a0_0,.int .i64 a0_1,.int .i64 a0_2,.int .i64 a0_3,.int .i64 a0_4,.int .i64 a0_5,.int .i64 a0_6,.int .i64 a0_7]) (t:=39) ?hr ?_;(case hd => rfl);(case hg => rfl);(case hr => first|(go_simp;done)|(go_simp;rfl));intro gb101 hg w8 hbox hb;have n0_:=a1z.mk (b1z (by repeat (first|(with_reducible first|exact HB.1|apply a3z|apply a0z|apply a2z)|exact HB.1)) hb);have n1_:=a1z.mk (hbox);have n2_:=a1z.mk ((by rw [hg];exact (b8z (by repeat (first|(with_reducible first|exact HB.1|apply a3z|apply a0z|apply a2z)|exact HB.1))) : w.heap.size ≤ gb101));have n3_:=a1z.mk ((by rw [hg];exact (b8z (by repeat (first|(with_reducible first|exact HB.1|apply a3z|apply a0z|apply a2z)|exact HB.1))) : w.heap.size ≤ gb101));clear HB;have HB:=n0_;have BK101:=n1_;have GW101:=n2_;have GE101:=n3_;clear n0_ n1_ n2_ n3_;clear hb hbox hg;have hcz9_0:=c80_ BK101.1;have hcz9_1:=c81_ BK101.1;have hcz9_2:=c82_ BK101.1;have hcz9_3:=c83_ BK101.1;have hcz9_4:=c84_ BK101.1;have hcz9_5:=c85_ BK101.1;have hcz9_6:=c86_ BK101.1;have hcz9_7:=c87_ BK101.1;have hfz9_0:=a4z BK101.1 0;have hfz9_1:=a4z BK101.1 1;have hfz9_2:=a4z BK101.1 2;have hfz9_3:=a4z BK101.1 3;have hfz9_4:=a4z BK101.1 4;have hfz9_5:=a4z BK101.1 5;have hfz9_6:=a4z BK101.1 6;have hfz9_7:=a4z BK101.1 7)|((with_reducible refine b2z (f:=40) rfl ?_);refine c1z (some 11) rfl rfl Tryz.func40 (by kernel_rfl) rfl #[.int .i64 a0_1] rfl (by (try simp only [mA_,mC_,mN_]);first|done|rfl|(simp only [lD_,lT_];rfl)) ?_;(with_reducible refine (spec_l1Dec.calls k a0_1 t102 _ A6.1).mono ?_);rintro e w10 ⟨rfl,hb⟩;refine ⟨_,rfl,?_⟩;have n0_:=a1z.mk (c0z (g:=gb101) (o:=.cells #[.int .i64 a0_0,.int .i64 a0_1,.int .i64 a0_2,.int .i64 a0_3,.int .i64 a0_4,.int .i64 a0_5,.int .i64 a0_6,.int .i64 a0_7] 39 (0,0)) (by (with_reducible repeat (first|refine a8z ?_ _|refine a9z ?_|refine blk_alloc ?_ _));exact BK101.1) hb);have n1_:=a1z.mk (b1z (by repeat (first|(with_reducible first|exact HB.1|apply a3z|apply a0z|apply a2z|refine a5z ?_ GE101.1)|exact HB.1)) hb);clear BK101 HB;have BK101:=n0_;have HB:=n1_;clear n0_ n1_;(try clear hb)))
    go_ret
    exact ⟨by first|rfl|(simp [b5z,b4z] <;> rfl)|(simp [*,b5z,b4z] <;> rfl),by repeat (first|(with_reducible first|exact HB.1|apply a3z|apply a0z|apply a2z|refine a5z ?_ GE101.1)|exact HB.1)⟩
   ·rw [if_neg c7] at H
    exact absurd H (by simp)
  ·rw [if_neg c5] at H
   have c5b0 : (a0_0 == 2) = false:=beq_eq_false_iff_ne.mpr c5
   have c5b1 : (a0_0 != 2) = true:=bne_iff_ne.mpr c5
   obtain rfl:=Option.some.inj H
   go_enter Tryz.func38,Tryz.ntmps38
   go_wp2_with (first|((with_reducible refine c5z (N:=1) rfl ?_);refine d2z ?hg (N:=1) ?hd (cs:=#[.int .i64 a0_0,.int .i64 a0_1,.int .i64 a0_2,.int .i64 a0_3,.int .i64 a0_4,.int .i64 a0_5,.int .i64 a0_6,.int .i64 a0_7]) (t:=39) ?hr ?_;(case hd => rfl);(case hg => rfl);(case hr => first|(go_simp;done)|(go_simp;rfl));intro gb101 hg w11 hbox hb;have n0_:=a1z.mk (b1z (by repeat (first|(with_reducible first|exact HB.1|apply a3z|apply a0z|apply a2z)|exact HB.1)) hb);have n1_:=a1z.mk (hbox);have n2_:=a1z.mk ((by rw [hg];exact (b8z (by repeat (first|(with_reducible first|exact HB.1|apply a3z|apply a0z|apply a2z)|exact HB.1))) : w.heap.size ≤ gb101));have n3_:=a1z.mk ((by rw [hg];exact (b8z (by repeat (first|(with_reducible first|exact HB.1|apply a3z|apply a0z|apply a2z)|exact HB.1))) : w.heap.size ≤ gb101));clear HB;have HB:=n0_;have BK101:=n1_;have GW101:=n2_;have GE101:=n3_;clear n0_ n1_ n2_ n3_;clear hb hbox hg;have hcz12_0:=c80_ BK101.1;have hcz12_1:=c81_ BK101.1;have hcz12_2:=c82_ BK101.1;have hcz12_3:=c83_ BK101.1;have hcz12_4:=c84_ BK101.1;have hcz12_5:=c85_ BK101.1;have hcz12_6:=c86_ BK101.1;have hcz12_7:=c87_ BK101.1;have hfz12_0:=a4z BK101.1 0;have hfz12_1:=a4z BK101.1 1;have hfz12_2:=a4z BK101.1 2;have hfz12_3:=a4z BK101.1 3;have hfz12_4:=a4z BK101.1 4;have hfz12_5:=a4z BK101.1 5;have hfz12_6:=a4z BK101.1 6;have hfz12_7:=a4z BK101.1 7))
   go_ret
   exact ⟨by first|rfl|(simp [b5z,b4z] <;> rfl)|(simp [*,b5z,b4z] <;> rfl),by repeat (first|(with_reducible first|exact HB.1|apply a3z|apply a0z|apply a2z|refine a5z ?_ GE101.1)|exact HB.1)⟩
def spec_l1Text.f (k : Nat) (a0 : Int) : Option (ByteArray):=(spec_l1Dec.f k (wrap64 (Int.tdiv a0 16777216))).bind fun t101 => (if t101.size + 1 ≤ 9223372036854775807 then ((spec_l1Dec.f k (Int.tmod (wrap64 (Int.tdiv a0 65536)) 256)).bind fun t102 => (if (t101 ++ (⟨#[46]⟩ : ByteArray)).size + t102.size ≤ 9223372036854775807 then (if ((t101 ++ (⟨#[46]⟩ : ByteArray)) ++ t102).size + 1 ≤ 9223372036854775807 then ((spec_l1Dec.f k (Int.tmod (wrap64 (Int.tdiv a0 256)) 256)).bind fun t103 => (if (((t101 ++ (⟨#[46]⟩ : ByteArray)) ++ t102) ++ (⟨#[46]⟩ : ByteArray)).size + t103.size ≤ 9223372036854775807 then (if ((((t101 ++ (⟨#[46]⟩ : ByteArray)) ++ t102) ++ (⟨#[46]⟩ : ByteArray)) ++ t103).size + 1 ≤ 9223372036854775807 then ((spec_l1Dec.f k (Int.tmod a0 256)).bind fun t104 => (if (((((t101 ++ (⟨#[46]⟩ : ByteArray)) ++ t102) ++ (⟨#[46]⟩ : ByteArray)) ++ t103) ++ (⟨#[46]⟩ : ByteArray)).size + t104.size ≤ 9223372036854775807 then (some ((((((t101 ++ (⟨#[46]⟩ : ByteArray)) ++ t102) ++ (⟨#[46]⟩ : ByteArray)) ++ t103) ++ (⟨#[46]⟩ : ByteArray)) ++ t104)) else (none))) else (none)) else (none))) else (none)) else (none))) else (none))
set_option maxHeartbeats 8000000 in
set_option maxRecDepth 100000 in
theorem spec_l1Text.calls (k : Nat) (a0 : Int) (r : ByteArray) (w : World) (h : spec_l1Text.f k a0 = some r) :
  Calls Tryz.prog 67 #[.int .i64 a0] w fun e w' => e = .returned (.string r) ∧ Below w.heap.size w w':=by
 have HB:=a1z.mk (Below.refl w.heap.size w)
 have H : ((spec_l1Dec.f k (wrap64 (Int.tdiv a0 16777216))).bind fun t101 => (if t101.size + 1 ≤ 9223372036854775807 then ((spec_l1Dec.f k (Int.tmod (wrap64 (Int.tdiv a0 65536)) 256)).bind fun t102 => (if (t101 ++ (⟨#[46]⟩ : ByteArray)).size + t102.size ≤ 9223372036854775807 then (if ((t101 ++ (⟨#[46]⟩ : ByteArray)) ++ t102).size + 1 ≤ 9223372036854775807 then ((spec_l1Dec.f k (Int.tmod (wrap64 (Int.tdiv a0 256)) 256)).bind fun t103 => (if (((t101 ++ (⟨#[46]⟩ : ByteArray)) ++ t102) ++ (⟨#[46]⟩ : ByteArray)).size + t103.size ≤ 9223372036854775807 then (if ((((t101 ++ (⟨#[46]⟩ : ByteArray)) ++ t102) ++ (⟨#[46]⟩ : ByteArray)) ++ t103).size + 1 ≤ 9223372036854775807 then ((spec_l1Dec.f k (Int.tmod a0 256)).bind fun t104 => (if (((((t101 ++ (⟨#[46]⟩ : ByteArray)) ++ t102) ++ (⟨#[46]⟩ : ByteArray)) ++ t103) ++ (⟨#[46]⟩ : ByteArray)).size + t104.size ≤ 9223372036854775807 then (some ((((((t101 ++ (⟨#[46]⟩ : ByteArray)) ++ t102) ++ (⟨#[46]⟩ : ByteArray)) ++ t103) ++ (⟨#[46]⟩ : ByteArray)) ++ t104)) else (none))) else (none)) else (none))) else (none)) else (none))) else (none))) = some r:=h
 clear h
 replace H:=Option.bind_eq_some_iff.mp H
 obtain ⟨t101,A20,H⟩:=H
 replace H : (if t101.size + 1 ≤ 9223372036854775807 then ((spec_l1Dec.f k (Int.tmod (wrap64 (Int.tdiv a0 65536)) 256)).bind fun t102 => (if (t101 ++ (⟨#[46]⟩ : ByteArray)).size + t102.size ≤ 9223372036854775807 then (if ((t101 ++ (⟨#[46]⟩ : ByteArray)) ++ t102).size + 1 ≤ 9223372036854775807 then ((spec_l1Dec.f k (Int.tmod (wrap64 (Int.tdiv a0 256)) 256)).bind fun t103 => (if (((t101 ++ (⟨#[46]⟩ : ByteArray)) ++ t102) ++ (⟨#[46]⟩ : ByteArray)).size + t103.size ≤ 9223372036854775807 then (if ((((t101 ++ (⟨#[46]⟩ : ByteArray)) ++ t102) ++ (⟨#[46]⟩ : ByteArray)) ++ t103).size + 1 ≤ 9223372036854775807 then ((spec_l1Dec.f k (Int.tmod a0 256)).bind fun t104 => (if (((((t101 ++ (⟨#[46]⟩ : ByteArray)) ++ t102) ++ (⟨#[46]⟩ : ByteArray)) ++ t103) ++ (⟨#[46]⟩ : ByteArray)).size + t104.size ≤ 9223372036854775807 then (some ((((((t101 ++ (⟨#[46]⟩ : ByteArray)) ++ t102) ++ (⟨#[46]⟩ : ByteArray)) ++ t103) ++ (⟨#[46]⟩ : ByteArray)) ++ t104)) else (none))) else (none)) else (none))) else (none)) else (none))) else (none)) = some r:=H
 have A2:=a1z.mk A20
 clear A20
 by_cases c3 : t101.size + 1 ≤ 9223372036854775807
 ·rw [if_pos c3] at H
  have c3b0:=eq_true c3
  have c3b1 : decide (t101.size + 1 ≤ 9223372036854775807) = true:=decide_eq_true c3
  (try (have c3b3 : (9223372036854775807 < t101.size + 1) = False:=eq_false (Nat.not_lt.2 c3);simp only [ByteArray.size_append] at c3b3))
  (try (have c3b4 : (9223372036854775807 < t101.size + 1) = False:=by (have h_:=eq_false (Nat.not_lt.2 c3);simp only [ByteArray.size_append] at h_;exact h_)))
  try have c3b2 : (9223372036854775807 < t101.size + 1) = False:=eq_false (Nat.not_lt.2 c3)
  replace H:=Option.bind_eq_some_iff.mp H
  obtain ⟨t102,A40,H⟩:=H
  replace H : (if (t101 ++ (⟨#[46]⟩ : ByteArray)).size + t102.size ≤ 9223372036854775807 then (if ((t101 ++ (⟨#[46]⟩ : ByteArray)) ++ t102).size + 1 ≤ 9223372036854775807 then ((spec_l1Dec.f k (Int.tmod (wrap64 (Int.tdiv a0 256)) 256)).bind fun t103 => (if (((t101 ++ (⟨#[46]⟩ : ByteArray)) ++ t102) ++ (⟨#[46]⟩ : ByteArray)).size + t103.size ≤ 9223372036854775807 then (if ((((t101 ++ (⟨#[46]⟩ : ByteArray)) ++ t102) ++ (⟨#[46]⟩ : ByteArray)) ++ t103).size + 1 ≤ 9223372036854775807 then ((spec_l1Dec.f k (Int.tmod a0 256)).bind fun t104 => (if (((((t101 ++ (⟨#[46]⟩ : ByteArray)) ++ t102) ++ (⟨#[46]⟩ : ByteArray)) ++ t103) ++ (⟨#[46]⟩ : ByteArray)).size + t104.size ≤ 9223372036854775807 then (some ((((((t101 ++ (⟨#[46]⟩ : ByteArray)) ++ t102) ++ (⟨#[46]⟩ : ByteArray)) ++ t103) ++ (⟨#[46]⟩ : ByteArray)) ++ t104)) else (none))) else (none)) else (none))) else (none)) else (none)) = some r:=H
  have A4:=a1z.mk A40
  clear A40
  by_cases c5 : (t101 ++ (⟨#[46]⟩ : ByteArray)).size + t102.size ≤ 9223372036854775807
  ·rw [if_pos c5] at H
   have c5b0:=eq_true c5
   have c5b1 : decide ((t101 ++ (⟨#[46]⟩ : ByteArray)).size + t102.size ≤ 9223372036854775807) = true:=decide_eq_true c5
   (try (have c5b3 : (9223372036854775807 < (t101 ++ (⟨#[46]⟩ : ByteArray)).size + t102.size) = False:=eq_false (Nat.not_lt.2 c5);simp only [ByteArray.size_append] at c5b3))
   (try (have c5b4 : (9223372036854775807 < t101.size + 1 + t102.size) = False:=by (have h_:=eq_false (Nat.not_lt.2 c5);simp only [ByteArray.size_append] at h_;exact h_)))
   try have c5b2 : (9223372036854775807 < (t101 ++ (⟨#[46]⟩ : ByteArray)).size + t102.size) = False:=eq_false (Nat.not_lt.2 c5)
   by_cases c6 : ((t101 ++ (⟨#[46]⟩ : ByteArray)) ++ t102).size + 1 ≤ 9223372036854775807
   ·rw [if_pos c6] at H
    have c6b0:=eq_true c6
    have c6b1 : decide (((t101 ++ (⟨#[46]⟩ : ByteArray)) ++ t102).size + 1 ≤ 9223372036854775807) = true:=decide_eq_true c6
    (try (have c6b3 : (9223372036854775807 < ((t101 ++ (⟨#[46]⟩ : ByteArray)) ++ t102).size + 1) = False:=eq_false (Nat.not_lt.2 c6);simp only [ByteArray.size_append] at c6b3))
    (try (have c6b4 : (9223372036854775807 < t101.size + 1 + t102.size + 1) = False:=by (have h_:=eq_false (Nat.not_lt.2 c6);simp only [ByteArray.size_append] at h_;exact h_)))
    try have c6b2 : (9223372036854775807 < ((t101 ++ (⟨#[46]⟩ : ByteArray)) ++ t102).size + 1) = False:=eq_false (Nat.not_lt.2 c6)
    replace H:=Option.bind_eq_some_iff.mp H
    obtain ⟨t103,A70,H⟩:=H
    replace H : (if (((t101 ++ (⟨#[46]⟩ : ByteArray)) ++ t102) ++ (⟨#[46]⟩ : ByteArray)).size + t103.size ≤ 9223372036854775807 then (if ((((t101 ++ (⟨#[46]⟩ : ByteArray)) ++ t102) ++ (⟨#[46]⟩ : ByteArray)) ++ t103).size + 1 ≤ 9223372036854775807 then ((spec_l1Dec.f k (Int.tmod a0 256)).bind fun t104 => (if (((((t101 ++ (⟨#[46]⟩ : ByteArray)) ++ t102) ++ (⟨#[46]⟩ : ByteArray)) ++ t103) ++ (⟨#[46]⟩ : ByteArray)).size + t104.size ≤ 9223372036854775807 then (some ((((((t101 ++ (⟨#[46]⟩ : ByteArray)) ++ t102) ++ (⟨#[46]⟩ : ByteArray)) ++ t103) ++ (⟨#[46]⟩ : ByteArray)) ++ t104)) else (none))) else (none)) else (none)) = some r:=H
    have A7:=a1z.mk A70
    clear A70
    by_cases c8 : (((t101 ++ (⟨#[46]⟩ : ByteArray)) ++ t102) ++ (⟨#[46]⟩ : ByteArray)).size + t103.size ≤ 9223372036854775807
    ·rw [if_pos c8] at H
     have c8b0:=eq_true c8
     have c8b1 : decide ((((t101 ++ (⟨#[46]⟩ : ByteArray)) ++ t102) ++ (⟨#[46]⟩ : ByteArray)).size + t103.size ≤ 9223372036854775807) = true:=decide_eq_true c8
     (try (have c8b3 : (9223372036854775807 < (((t101 ++ (⟨#[46]⟩ : ByteArray)) ++ t102) ++ (⟨#[46]⟩ : ByteArray)).size + t103.size) = False:=eq_false (Nat.not_lt.2 c8);simp only [ByteArray.size_append] at c8b3))
     (try (have c8b4 : (9223372036854775807 < t101.size + 1 + t102.size + 1 + t103.size) = False:=by (have h_:=eq_false (Nat.not_lt.2 c8);simp only [ByteArray.size_append] at h_;exact h_)))
     try have c8b2 : (9223372036854775807 < (((t101 ++ (⟨#[46]⟩ : ByteArray)) ++ t102) ++ (⟨#[46]⟩ : ByteArray)).size + t103.size) = False:=eq_false (Nat.not_lt.2 c8)
     by_cases c9 : ((((t101 ++ (⟨#[46]⟩ : ByteArray)) ++ t102) ++ (⟨#[46]⟩ : ByteArray)) ++ t103).size + 1 ≤ 9223372036854775807
     ·rw [if_pos c9] at H
      have c9b0:=eq_true c9
      have c9b1 : decide (((((t101 ++ (⟨#[46]⟩ : ByteArray)) ++ t102) ++ (⟨#[46]⟩ : ByteArray)) ++ t103).size + 1 ≤ 9223372036854775807) = true:=decide_eq_true c9
      (try (have c9b3 : (9223372036854775807 < ((((t101 ++ (⟨#[46]⟩ : ByteArray)) ++ t102) ++ (⟨#[46]⟩ : ByteArray)) ++ t103).size + 1) = False:=eq_false (Nat.not_lt.2 c9);simp only [ByteArray.size_append] at c9b3))
      (try (have c9b4 : (9223372036854775807 < t101.size + 1 + t102.size + 1 + t103.size + 1) = False:=by (have h_:=eq_false (Nat.not_lt.2 c9);simp only [ByteArray.size_append] at h_;exact h_)))
      try have c9b2 : (9223372036854775807 < ((((t101 ++ (⟨#[46]⟩ : ByteArray)) ++ t102) ++ (⟨#[46]⟩ : ByteArray)) ++ t103).size + 1) = False:=eq_false (Nat.not_lt.2 c9)
      replace H:=Option.bind_eq_some_iff.mp H
      obtain ⟨t104,A100,H⟩:=H
      replace H : (if (((((t101 ++ (⟨#[46]⟩ : ByteArray)) ++ t102) ++ (⟨#[46]⟩ : ByteArray)) ++ t103) ++ (⟨#[46]⟩ : ByteArray)).size + t104.size ≤ 9223372036854775807 then (some ((((((t101 ++ (⟨#[46]⟩ : ByteArray)) ++ t102) ++ (⟨#[46]⟩ : ByteArray)) ++ t103) ++ (⟨#[46]⟩ : ByteArray)) ++ t104)) else (none)) = some r:=H
      have A10:=a1z.mk A100
      clear A100
      by_cases c11 : (((((t101 ++ (⟨#[46]⟩ : ByteArray)) ++ t102) ++ (⟨#[46]⟩ : ByteArray)) ++ t103) ++ (⟨#[46]⟩ : ByteArray)).size + t104.size ≤ 9223372036854775807
      ·rw [if_pos c11] at H
       have c11b0:=eq_true c11
       have c11b1 : decide ((((((t101 ++ (⟨#[46]⟩ : ByteArray)) ++ t102) ++ (⟨#[46]⟩ : ByteArray)) ++ t103) ++ (⟨#[46]⟩ : ByteArray)).size + t104.size ≤ 9223372036854775807) = true:=decide_eq_true c11
       (try (have c11b3 : (9223372036854775807 < (((((t101 ++ (⟨#[46]⟩ : ByteArray)) ++ t102) ++ (⟨#[46]⟩ : ByteArray)) ++ t103) ++ (⟨#[46]⟩ : ByteArray)).size + t104.size) = False:=eq_false (Nat.not_lt.2 c11);simp only [ByteArray.size_append] at c11b3))
       (try (have c11b4 : (9223372036854775807 < t101.size + 1 + t102.size + 1 + t103.size + 1 + t104.size) = False:=by (have h_:=eq_false (Nat.not_lt.2 c11);simp only [ByteArray.size_append] at h_;exact h_)))
       try have c11b2 : (9223372036854775807 < (((((t101 ++ (⟨#[46]⟩ : ByteArray)) ++ t102) ++ (⟨#[46]⟩ : ByteArray)) ++ t103) ++ (⟨#[46]⟩ : ByteArray)).size + t104.size) = False:=eq_false (Nat.not_lt.2 c11)
       obtain rfl:=Option.some.inj H
       go_enter Tryz.func67,Tryz.ntmps67
       go_wp2_with (first|((with_reducible refine b2z (f:=40) rfl ?_);refine c1z (some 5) rfl rfl Tryz.func40 (by kernel_rfl) rfl #[.int .i64 (wrap64 (Int.tdiv a0 16777216))] rfl (by (try simp only [mA_,mC_,mN_]);first|done|rfl|(simp only [lD_,lT_];rfl)) ?_;(with_reducible refine (spec_l1Dec.calls k (wrap64 (Int.tdiv a0 16777216)) t101 _ A2.1).mono ?_);rintro e w12 ⟨rfl,hb⟩;refine ⟨_,rfl,?_⟩;have n0_:=a1z.mk (b1z (by repeat (first|(with_reducible first|exact HB.1|apply a3z|apply a0z|apply a2z)|exact HB.1)) hb);clear HB;have HB:=n0_;clear n0_;(try clear hb))|((with_reducible refine b2z (f:=40) rfl ?_);refine c1z (some 10) rfl rfl Tryz.func40 (by kernel_rfl) rfl #[.int .i64 (Int.tmod (wrap64 (Int.tdiv a0 65536)) 256)] rfl (by (try simp only [mA_,mC_,mN_]);first|done|rfl|(simp only [lD_,lT_];rfl)) ?_;(with_reducible refine (spec_l1Dec.calls k (Int.tmod (wrap64 (Int.tdiv a0 65536)) 256) t102 _ A4.1).mono ?_);rintro e w13 ⟨rfl,hb⟩;refine ⟨_,rfl,?_⟩;have n0_:=a1z.mk (b1z (by repeat (first|(with_reducible first|exact HB.1|apply a3z|apply a0z|apply a2z)|exact HB.1)) hb);clear HB;have HB:=n0_;clear n0_;(try clear hb))|((with_reducible refine b2z (f:=40) rfl ?_);refine c1z (some 16) rfl rfl Tryz.func40 (by kernel_rfl) rfl #[.int .i64 (Int.tmod (wrap64 (Int.tdiv a0 256)) 256)] rfl (by (try simp only [mA_,mC_,mN_]);first|done|rfl|(simp only [lD_,lT_];rfl)) ?_;(with_reducible refine (spec_l1Dec.calls k (Int.tmod (wrap64 (Int.tdiv a0 256)) 256) t103 _ A7.1).mono ?_);rintro e w14 ⟨rfl,hb⟩;refine ⟨_,rfl,?_⟩;have n0_:=a1z.mk (b1z (by repeat (first|(with_reducible first|exact HB.1|apply a3z|apply a0z|apply a2z)|exact HB.1)) hb);clear HB;have HB:=n0_;clear n0_;(try clear hb))|((with_reducible refine b2z (f:=40) rfl ?_);refine c1z (some 21) rfl rfl Tryz.func40 (by kernel_rfl) rfl #[.int .i64 (Int.tmod a0 256)] rfl (by (try simp only [mA_,mC_,mN_]);first|done|rfl|(simp only [lD_,lT_];rfl)) ?_;(with_reducible refine (spec_l1Dec.calls k (Int.tmod a0 256) t104 _ A10.1).mono ?_);rintro e w15 ⟨rfl,hb⟩;refine ⟨_,rfl,?_⟩;have n0_:=a1z.mk (b1z (by repeat (first|(with_reducible first|exact HB.1|apply a3z|apply a0z|apply a2z)|exact HB.1)) hb);clear HB;have HB:=n0_;clear n0_;(try clear hb)))
       go_ret
       exact ⟨by first|rfl|(simp [b5z,b4z] <;> rfl)|(simp [*,b5z,b4z] <;> rfl),by repeat (first|(with_reducible first|exact HB.1|apply a3z|apply a0z|apply a2z)|exact HB.1)⟩
      ·rw [if_neg c11] at H
       exact absurd H (by simp)
     ·rw [if_neg c9] at H
      exact absurd H (by simp)
    ·rw [if_neg c8] at H
     exact absurd H (by simp)
   ·rw [if_neg c6] at H
    exact absurd H (by simp)
  ·rw [if_neg c5] at H
   exact absurd H (by simp)
 ·rw [if_neg c3] at H
  exact absurd H (by simp)
def spec_l1Block.f (k : Nat) (a0_0 : Int) (a0_1 : Int) : Option (ByteArray):=(spec_l1Text.f k a0_0).bind fun t102 => (if t102.size + 1 ≤ 9223372036854775807 then ((spec_l1Dec.f k a0_1).bind fun t103 => (if (t102 ++ (⟨#[47]⟩ : ByteArray)).size + t103.size ≤ 9223372036854775807 then (some ((t102 ++ (⟨#[47]⟩ : ByteArray)) ++ t103)) else (none))) else (none))
def spec_l1Block.T1 : Bool × List (List Nat × List Nat):=(true,[([],[]),([0],[0]),([1],[1]),([2],[2]),([],[]),([4],[4]),([5,2],[5]),([3,6],[3,6]),([7,6,0,1,2,3,4,5,6,7],[7])])
def spec_l1Block.B1 : List Nat:=[0,1,3,7,0,16,55,127,255]
theorem spec_l1Block.tab1 : rtab .any (opsOf Tryz.f39 1) = spec_l1Block.T1:=by kernel_rfl
theorem spec_l1Block.bits1 : waitsOk spec_l1Block.T1.2 spec_l1Block.B1 = true:=by kernel_rfl
set_option maxHeartbeats 8000000 in
set_option maxRecDepth 100000 in
theorem spec_l1Block.calls (k : Nat) (a0_0 : Int) (a0_1 : Int) (r : ByteArray) (w : World) (h : spec_l1Block.f k a0_0 a0_1 = some r) :
  Calls Tryz.prog 39 #[.agg #[.int .i64 a0_0,.int .i64 a0_1]] w fun e w' => e = .returned (.string r) ∧ Below w.heap.size w w':=by
 have hu37:=Tryz.underlying37
 have HB:=a1z.mk (Below.refl w.heap.size w)
 have H : ((spec_l1Text.f k a0_0).bind fun t102 => (if t102.size + 1 ≤ 9223372036854775807 then ((spec_l1Dec.f k a0_1).bind fun t103 => (if (t102 ++ (⟨#[47]⟩ : ByteArray)).size + t103.size ≤ 9223372036854775807 then (some ((t102 ++ (⟨#[47]⟩ : ByteArray)) ++ t103)) else (none))) else (none))) = some r:=h
 clear h
 replace H:=Option.bind_eq_some_iff.mp H
 obtain ⟨t102,A20,H⟩:=H
 replace H : (if t102.size + 1 ≤ 9223372036854775807 then ((spec_l1Dec.f k a0_1).bind fun t103 => (if (t102 ++ (⟨#[47]⟩ : ByteArray)).size + t103.size ≤ 9223372036854775807 then (some ((t102 ++ (⟨#[47]⟩ : ByteArray)) ++ t103)) else (none))) else (none)) = some r:=H
 have A2:=a1z.mk A20
 clear A20
 by_cases c3 : t102.size + 1 ≤ 9223372036854775807
 ·rw [if_pos c3] at H
  have c3b0:=eq_true c3
  have c3b1 : decide (t102.size + 1 ≤ 9223372036854775807) = true:=decide_eq_true c3
  (try (have c3b3 : (9223372036854775807 < t102.size + 1) = False:=eq_false (Nat.not_lt.2 c3);simp only [ByteArray.size_append] at c3b3))
  (try (have c3b4 : (9223372036854775807 < t102.size + 1) = False:=by (have h_:=eq_false (Nat.not_lt.2 c3);simp only [ByteArray.size_append] at h_;exact h_)))
  try have c3b2 : (9223372036854775807 < t102.size + 1) = False:=eq_false (Nat.not_lt.2 c3)
  replace H:=Option.bind_eq_some_iff.mp H
  obtain ⟨t103,A40,H⟩:=H
  replace H : (if (t102 ++ (⟨#[47]⟩ : ByteArray)).size + t103.size ≤ 9223372036854775807 then (some ((t102 ++ (⟨#[47]⟩ : ByteArray)) ++ t103)) else (none)) = some r:=H
  have A4:=a1z.mk A40
  clear A40
  by_cases c5 : (t102 ++ (⟨#[47]⟩ : ByteArray)).size + t103.size ≤ 9223372036854775807
  ·rw [if_pos c5] at H
   have c5b0:=eq_true c5
   have c5b1 : decide ((t102 ++ (⟨#[47]⟩ : ByteArray)).size + t103.size ≤ 9223372036854775807) = true:=decide_eq_true c5
   (try (have c5b3 : (9223372036854775807 < (t102 ++ (⟨#[47]⟩ : ByteArray)).size + t103.size) = False:=eq_false (Nat.not_lt.2 c5);simp only [ByteArray.size_append] at c5b3))
   (try (have c5b4 : (9223372036854775807 < t102.size + 1 + t103.size) = False:=by (have h_:=eq_false (Nat.not_lt.2 c5);simp only [ByteArray.size_append] at h_;exact h_)))
   try have c5b2 : (9223372036854775807 < (t102 ++ (⟨#[47]⟩ : ByteArray)).size + t103.size) = False:=eq_false (Nat.not_lt.2 c5)
   obtain rfl:=Option.some.inj H
   go_enter Tryz.func39,Tryz.ntmps39
   try go_wp2_with (first|((with_reducible refine c5z (N:=1) rfl ?_);refine d2z ?hg (N:=1) ?hd (cs:=#[.int .i64 a0_0,.int .i64 a0_1]) (t:=37) ?hr ?_;(case hd => rfl);(case hg => rfl);(case hr => first|(go_simp;done)|(go_simp;rfl));intro gb101 hg w6 hbox hb;have n0_:=a1z.mk (b1z (by repeat (first|(with_reducible first|exact HB.1|apply a3z|apply a0z|apply a2z)|exact HB.1)) hb);have n1_:=a1z.mk (hbox);have n2_:=a1z.mk ((by rw [hg];exact (b8z (by repeat (first|(with_reducible first|exact HB.1|apply a3z|apply a0z|apply a2z)|exact HB.1))) : w.heap.size ≤ gb101));have n3_:=a1z.mk ((by rw [hg];exact (b8z (by repeat (first|(with_reducible first|exact HB.1|apply a3z|apply a0z|apply a2z)|exact HB.1))) : w.heap.size ≤ gb101));clear HB;have HB:=n0_;have BK101:=n1_;have GW101:=n2_;have GE101:=n3_;clear n0_ n1_ n2_ n3_;clear hb hbox hg))
   have n0_:=a1z.mk (a9z BK101.1)
   have n1_:=a1z.mk (a2z HB.1)
   clear BK101 HB
   have BK101:=n0_
   have HB:=n1_
   clear n0_ n1_
   refine h6z (n:=9) (S:=fun w' => w'.cell? ⟨gb101,0,none⟩ = some (.int .i64 a0_0) ∧ w'.cell? ⟨gb101,1,none⟩ = some (.int .i64 a0_1)) (ds:=[]) #[false,false,false,false,false,false,false,false,false] (by kernel_rfl) rfl rfl ⟨(b7z BK101.1 0).trans rfl,(b7z BK101.1 1).trans rfl⟩ (fun hHeld => ?_);refine g0z spec_l1Block.tab1 spec_l1Block.bits1 (fun HT_ HW_ => ?_)
   generalize w6.drew = w7 at BK101 HB hHeld ⊢
   refine pure_ (i:=0) (N:=some 3) (v:=?_) (a':=?_) #[true,false,false,false,false,false,false,false,false] rfl rfl (d1z HT_.1 (by kernel_rfl)) (fun _ _ _ h => h) (Or.inl ⟨by rfl,?_⟩) ?_ ?_
   rotate_left
   ·intro w'
    go_simp
    with_reducible rfl
   rotate_left
   ·simp only [Act.put,sA_,sZ_,sS_,i64_w,i32_w]
    rfl
   refine pure_ (i:=4) (N:=some 7) (v:=?_) (a':=?_) #[true,false,false,false,true,false,false,false,false] rfl rfl (d1z HT_.1 (by kernel_rfl)) (fun _ _ _ h => h) (Or.inl ⟨by rfl,?_⟩) ?_ ?_
   rotate_left
   ·intro w'
    go_simp
    with_reducible rfl
   rotate_left
   ·simp only [Act.put,sA_,sZ_,sS_,i64_w,i32_w]
    rfl
   refine take_ (i:=1) (N:=some 4) (v:=?_) (a':=?_) #[true,true,false,false,true,false,false,false,false] rfl rfl (f0z HT_.1 HW_.1 (by kernel_rfl)) (fun _ _ _ h => h) (Or.inl ⟨by rfl,?_⟩) hHeld ?_ ?_
   rotate_left
   ·rintro w' ⟨s0,s1⟩
    go_simp
    with_reducible rfl
   rotate_left
   ·simp only [Act.put,sA_,sZ_,sS_,i64_w,i32_w]
    rfl
   refine take_ (i:=5) (N:=some 8) (v:=?_) (a':=?_) #[true,true,false,false,true,true,false,false,false] rfl rfl (f0z HT_.1 HW_.1 (by kernel_rfl)) (fun _ _ _ h => h) (Or.inl ⟨by rfl,?_⟩) hHeld ?_ ?_
   rotate_left
   ·rintro w' ⟨s0,s1⟩
    go_simp
    with_reducible rfl
   rotate_left
   ·simp only [Act.put,sA_,sZ_,sS_,i64_w,i32_w]
    rfl
   refine one_ (i:=2) (N:=some 5) #[true,true,true,false,true,true,false,false,false] rfl rfl (e8z HT_.1 (by kernel_rfl)) (by decide) (fun K hK => ?_)
   refine goes_ Tryz.func67 (by kernel_rfl) rfl #[.int .i64 a0_0] (by rfl) rfl rfl (by (try simp only [mA_,mC_,mN_]);first|done|rfl|(simp only [lD_,lT_];rfl)) ?_
   with_reducible refine (spec_l1Text.calls k a0_0 t102 _ A2.1).mono ?_
   rintro e w8 ⟨rfl,hb⟩
   refine ⟨_,rfl,?_⟩
   have n0_:=a1z.mk (c0z (g:=gb101) (o:=.cells #[.int .i64 a0_0,.int .i64 a0_1] 37 (0,0)) (by (with_reducible repeat (first|refine a8z ?_ _|refine a9z ?_|refine blk_alloc ?_ _));exact BK101.1) hb)
   have n1_:=a1z.mk (b1z (by repeat (first|(with_reducible first|exact HB.1|apply a3z|apply a0z|apply a2z|refine a5z ?_ GE101.1)|exact HB.1)) hb)
   clear BK101 HB
   have BK101:=n0_
   have HB:=n1_
   clear n0_ n1_
   (try clear hb)
   (try clear hb2)
   (try clear hk)
   (try clear hi)
   refine hK.out _ _ ⟨(b7z BK101.1 0).trans rfl,(b7z BK101.1 1).trans rfl⟩ (fun hHeld => ?_)
   clear hK K
   refine norm_ (a':=?_) ?_ ?_
   rotate_left
   ·show Act.put _ (some 5) _ = _
    simp only [Act.put,sA_,sZ_,sS_,i64_w,i32_w]
    rfl
   refine pure_ (i:=3) (N:=some 6) (v:=?_) (a':=?_) #[true,true,true,true,true,true,false,false,false] rfl rfl (d1z HT_.1 (by kernel_rfl)) (fun _ _ _ h => h) (Or.inl ⟨by rfl,?_⟩) ?_ ?_
   rotate_left
   ·intro w'
    go_simp
    with_reducible rfl
   rotate_left
   ·simp only [Act.put,sA_,sZ_,sS_,i64_w,i32_w]
    rfl
   refine one_ (i:=6) (N:=some 9) #[true,true,true,true,true,true,true,false,false] rfl rfl (e8z HT_.1 (by kernel_rfl)) (by decide) (fun K hK => ?_)
   refine goes_ Tryz.func40 (by kernel_rfl) rfl #[.int .i64 a0_1] (by rfl) rfl rfl (by (try simp only [mA_,mC_,mN_]);first|done|rfl|(simp only [lD_,lT_];rfl)) ?_
   with_reducible refine (spec_l1Dec.calls k a0_1 t103 _ A4.1).mono ?_
   rintro e w9 ⟨rfl,hb⟩
   refine ⟨_,rfl,?_⟩
   have n0_:=a1z.mk (c0z (g:=gb101) (o:=.cells #[.int .i64 a0_0,.int .i64 a0_1] 37 (0,0)) (by (with_reducible repeat (first|refine a8z ?_ _|refine a9z ?_|refine blk_alloc ?_ _));exact BK101.1) hb)
   have n1_:=a1z.mk (b1z (by repeat (first|(with_reducible first|exact HB.1|apply a3z|apply a0z|apply a2z|refine a5z ?_ GE101.1)|exact HB.1)) hb)
   clear BK101 HB
   have BK101:=n0_
   have HB:=n1_
   clear n0_ n1_
   (try clear hb)
   (try clear hb2)
   (try clear hk)
   (try clear hi)
   refine hK.out _ _ ⟨(b7z BK101.1 0).trans rfl,(b7z BK101.1 1).trans rfl⟩ (fun hHeld => ?_)
   clear hK K
   refine norm_ (a':=?_) ?_ ?_
   rotate_left
   ·show Act.put _ (some 9) _ = _
    simp only [Act.put,sA_,sZ_,sS_,i64_w,i32_w]
    rfl
   refine pure_ (i:=7) (N:=some 10) (v:=?_) (a':=?_) #[true,true,true,true,true,true,true,true,false] rfl rfl (d1z HT_.1 (by kernel_rfl)) (fun _ _ _ h => h) (Or.inl ⟨by rfl,?_⟩) ?_ ?_
   rotate_left
   ·intro w'
    go_simp
    with_reducible rfl
   rotate_left
   ·simp only [Act.put,sA_,sZ_,sS_,i64_w,i32_w]
    rfl
   refine pure_ (i:=8) (N:=some 2) (v:=?_) (a':=?_) #[true,true,true,true,true,true,true,true,true] rfl rfl (d1z HT_.1 (by kernel_rfl)) (fun _ _ _ h => h) (Or.inl ⟨by rfl,?_⟩) ?_ ?_
   rotate_left
   ·intro w'
    go_simp
    with_reducible rfl
   rotate_left
   ·simp only [Act.put,sA_,sZ_,sS_,i64_w,i32_w]
    rfl
   refine done_ (g8z HT_.1 (by kernel_rfl)) ?_
   try go_wp2
   go_ret
   exact ⟨by first|rfl|(simp [b5z,b4z] <;> rfl)|(simp [*,b5z,b4z] <;> rfl),by repeat (first|(with_reducible first|exact HB.1|apply a3z|apply a0z|apply a2z|refine a5z ?_ GE101.1)|exact HB.1)⟩
  ·rw [if_neg c5] at H
   exact absurd H (by simp)
 ·rw [if_neg c3] at H
  exact absurd H (by simp)
end Go.Proofs.YtgbdnbbfgcogjaaGreatDoor.Q
