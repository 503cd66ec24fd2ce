/- The law FnSetBoth (part 5 of 8): for every input the call answers true and its arguments read afterwards as before. No condition beyond the row's own. -/
import Derived.Test.YtmdhedkgpgoneaaCFnSetBoth4
namespace Go.Proofs.Ytmdhedkgpgoneaa.Q
open Go.RowKit Go.Proofs.YtmdhedkgpgoneaaW.PrintWords Go.Proofs.YtmdhedkgpgoneaaW.PrintLast Go.Proofs.YtmdhedkgpgoneaaW.PrintMore
attribute [local go_sem] e4z e2z e7z e6z d8z d7z e3z e1z
set_option linter.unusedVariables false
set_option linter.unusedSimpArgs false
mutual
def spec_l2Both.l0 : Nat → List (S63) → List (S63) → List (S63) → Int → Option ((List (S63)))
 | 0,_,_,_,_ => none
 | k + 1,x0,x1,x5,x6 => if x6 < (x0.length : Int) then (spec_l2Both.l1 k x0 x1 x5 x6 0) else (some x5)
def spec_l2Both.l1 : Nat → List (S63) → List (S63) → List (S63) → Int → Int → Option ((List (S63)))
 | 0,_,_,_,_,_ => none
 | k + 1,x0,x1,x5,x6,x7 => if x7 < (x1.length : Int) then (if 0 ≤ x6 then (if x6 < (x0.length : Int) then (if 0 ≤ x7 then (if ((c6z x1 x7).f0) > ((c6z x0 x6).f0) then (spec_l2Both.j2 k x0 x1 x5 x6 x7 ((c6z x1 x7).f0) ((c6z x0 x6).f1)) else (spec_l2Both.j2 k x0 x1 x5 x6 x7 ((c6z x0 x6).f0) ((c6z x0 x6).f1))) else (none)) else (none)) else (none)) else (spec_l2Both.l0 k x0 x1 x5 (wrap64 (x6 + 1)))
def spec_l2Both.j2 : Nat → List (S63) → List (S63) → List (S63) → Int → Int → Int → Int → Option ((List (S63)))
 | 0,_,_,_,_,_,_,_ => none
 | k + 1,x0,x1,x5,x6,x7,x106000,x106001 => if 0 ≤ x7 then (if x7 < (x1.length : Int) then (if ((c6z x1 x7).f1) < x106001 then (if x106000 ≤ ((c6z x1 x7).f1) then (if x5.length < 8796093022208 then (spec_l2Both.l1 k x0 x1 (x5 ++ [(⟨x106000,(c6z x1 x7).f1⟩ : S63)]) x6 (wrap64 (x7 + 1))) else (none)) else (spec_l2Both.l1 k x0 x1 x5 x6 (wrap64 (x7 + 1)))) else (if x106000 ≤ x106001 then (if x5.length < 8796093022208 then (spec_l2Both.l1 k x0 x1 (x5 ++ [(⟨x106000,x106001⟩ : S63)]) x6 (wrap64 (x7 + 1))) else (none)) else (spec_l2Both.l1 k x0 x1 x5 x6 (wrap64 (x7 + 1))))) else (none)) else (none)
end
def spec_l2Both.f (k : Nat) (l0 : List (S63)) (l1 : List (S63)) : Option ((List (S63))):=spec_l2Both.l0 k l0 l1 (([] : List (S63))) 0
set_option maxHeartbeats 8000000 in
set_option maxRecDepth 100000 in
theorem spec_l2Both.calls (k : Nat) (A0 : Option Addr) (c0 : Nat) (l0 : List (S63)) (A1 : Option Addr) (c1 : Nat) (l1 : List (S63)) (r : List (S63)) (w : World) (hr0 : Kd.C k63 w A0 l0.length l0) (hc0 : l0.length ≤ c0) (hr1 : Kd.C k63 w A1 l1.length l1) (hc1 : l1.length ≤ c1) (h : spec_l2Both.f k l0 l1 = some r) :
  Calls Try.prog 46 #[.slice A0 l0.length c0,.slice A1 l1.length c1] w fun e w' => ∃ v0_ : Value,e = .returned (v0_) ∧ Kd.R k63 63 w' w.heap.size (fun _ => True) v0_ r ∧ Below w.heap.size w w':=by
 have hu63:=Try.underlying63
 have HR0:=a0z.mk hr0
 have HC0:=a0z.mk hc0
 clear hr0 hc0
 have HR1:=a0z.mk hr1
 have HC1:=a0z.mk hc1
 clear hr1 hc1
 have HB:=a0z.mk (Below.refl w.heap.size w)
 have H : (spec_l2Both.l0 k l0 l1 (([] : List (S63))) 0) = some r:=h
 clear h
 obtain ⟨y101,hy101⟩ : ∃ y_ : List (S63),y_ = (([] : List (S63))):=⟨_,rfl⟩
 replace H : (spec_l2Both.l0 k l0 l1 y101 0) = some r:=by first|(rw [hy101];with_reducible exact H)|(have H2_:=(Option.bind_some _ _).symm.trans H;rw [hy101];with_reducible exact H2_)|(have H2_:=(Option.bind_some _ _).symm.trans H;with_reducible exact H2_)|with_reducible exact H|(rw [hy101];exact H)|exact H
 have Ny101:=a0z.mk hy101
 clear hy101
 have H':=a0z.mk H
 clear H
 go_enter Try.func46,Try.ntmps46
 go_wp2_with (first|((with_reducible refine d4z (N:=9) rfl ?_);refine Kd.R_lit k63 _ 63 ?hg (N:=9) ?hd (xs:=([] : List (S63))) (inner:=[]) (ok:=fun _ => True) (okp:=fun _ => True) ?hr ?hp (fun _ hk => hk) trivial (Below.refl _ _) (Nat.le_refl _) (by simp) ?_;(case hd => rfl);(case hg => rfl);(case hr => first|(go_simp;done)|(go_simp;rfl));(case hp => exact (Reps.none _ _));intro v102 w3 ho4 hb hg_ hnew_;clear hg_ hnew_;(first|rw [← Ny101.1] at ho4|(simp only [Int.reduceToNat] at ho4;rw [← Ny101.1] at ho4));have n0_:=a0z.mk (Kd.d5z ho4 (b1z (by repeat (first|(with_reducible first|exact HB.1|apply a3z|apply a1z|apply a2z)|exact HB.1))));have n1_:=a0z.mk (b3z (by repeat (first|(with_reducible first|exact HB.1|apply a3z|apply a1z|apply a2z)|exact HB.1)) hb);clear HB;have HO103:=n0_;have HB:=n1_;clear n0_ n1_;clear hb ho4))
 repeat (go_quiet (first|((with_reducible refine d4z (N:=9) rfl ?_);refine Kd.R_lit k63 _ 63 ?hg (N:=9) ?hd (xs:=([] : List (S63))) (inner:=[]) (ok:=fun _ => True) (okp:=fun _ => True) ?hr ?hp (fun _ hk => hk) trivial (Below.refl _ _) (Nat.le_refl _) (by simp) ?_;(case hd => rfl);(case hg => rfl);(case hr => first|(go_simp;done)|(go_simp;rfl));(case hp => exact (Reps.none _ _));intro v102 w3 ho4 hb hg_ hnew_;clear hg_ hnew_;(first|rw [← Ny101.1] at ho4|(simp only [Int.reduceToNat] at ho4;rw [← Ny101.1] at ho4));have n0_:=a0z.mk (Kd.d5z ho4 (b1z (by repeat (first|(with_reducible first|exact HB.1|apply a3z|apply a1z|apply a2z)|exact HB.1))));have n1_:=a0z.mk (b3z (by repeat (first|(with_reducible first|exact HB.1|apply a3z|apply a1z|apply a2z)|exact HB.1)) hb);clear HB;have HO103:=n0_;have HB:=n1_;clear n0_ n1_;clear hb ho4));try go_wp2_with (first|((with_reducible refine d4z (N:=9) rfl ?_);refine Kd.R_lit k63 _ 63 ?hg (N:=9) ?hd (xs:=([] : List (S63))) (inner:=[]) (ok:=fun _ => True) (okp:=fun _ => True) ?hr ?hp (fun _ hk => hk) trivial (Below.refl _ _) (Nat.le_refl _) (by simp) ?_;(case hd => rfl);(case hg => rfl);(case hr => first|(go_simp;done)|(go_simp;rfl));(case hp => exact (Reps.none _ _));intro v102 w3 ho4 hb hg_ hnew_;clear hg_ hnew_;(first|rw [← Ny101.1] at ho4|(simp only [Int.reduceToNat] at ho4;rw [← Ny101.1] at ho4));have n0_:=a0z.mk (Kd.d5z ho4 (b1z (by repeat (first|(with_reducible first|exact HB.1|apply a3z|apply a1z|apply a2z)|exact HB.1))));have n1_:=a0z.mk (b3z (by repeat (first|(with_reducible first|exact HB.1|apply a3z|apply a1z|apply a2z)|exact HB.1)) hb);clear HB;have HO103:=n0_;have HB:=n1_;clear n0_ n1_;clear hb ho4)))
 go_loopg [5,6] k (fun kq v5 v6 w' => ∃ (x5_1 : List (S63)) (x6_1 : Int),v6 = .int .i64 x6_1 ∧ a0z (spec_l2Both.l0 kq l0 l1 x5_1 x6_1 = some r) ∧ a0z (kq ≤ k) ∧ a0z (Kd.R k63 63 w' w.heap.size (fun _ => True) v5 x5_1) ∧ a0z (Below w.heap.size w w'))
 case atStart => exact ⟨(y101),(0),(by first|rfl|(simp;done)|(simp [*];done)),H',⟨Nat.le_refl _⟩,⟨by (with_reducible repeat (first|apply Kd.R_alloc|apply Kd.a4z|apply Kd.a5z));exact HO103.1⟩,⟨by repeat (first|(with_reducible first|exact HB.1|apply a3z|apply a1z|apply a2z)|exact HB.1)⟩⟩
 case round =>
  clear H'
  try clear c1
  try clear p2
  try clear c4
  obtain ⟨x5_1,x6_1,rfl,HA,HK1,HO_5,HB⟩:=hrel
  cases gk with
  | zero => exact absurd HA.1 (by simp [spec_l2Both.l0])
  | succ k1 =>
   have H:=HA.1
   clear HA
   simp only [spec_l2Both.l0] at H
   by_cases c5 : x6_1 < (l0.length : Int)
   ·rw [if_pos c5] at H
    have c5b0 : decide (x6_1 < (l0.length : Int)) = true:=decide_eq_true c5
    clear c5
    have H':=a0z.mk H
    clear H
    go_wp2
    repeat (go_quiet (fail);try go_wp2)
    go_loopg [5,7] k1 (fun kq v5 v7 w' => ∃ (x5_2 : List (S63)) (x7_2 : Int),v7 = .int .i64 x7_2 ∧ a0z (spec_l2Both.l1 kq l0 l1 x5_2 x6_1 x7_2 = some r) ∧ a0z (kq ≤ k1) ∧ a0z (Kd.R k63 63 w' w.heap.size (fun _ => True) v5 x5_2) ∧ a0z (Below w.heap.size w w'))
    case atStart => exact ⟨(x5_1),(0),(by first|rfl|(simp;done)|(simp [*];done)),H',⟨Nat.le_refl _⟩,⟨by (with_reducible repeat (first|apply Kd.R_alloc|apply Kd.a4z|apply Kd.a5z));exact HO_5.1⟩,⟨by repeat (first|(with_reducible first|exact HB.1|apply a3z|apply a1z|apply a2z)|exact HB.1)⟩⟩
    case round =>
     clear H'
     try clear c1
     try clear p2
     try clear c4
     try clear c5
     try clear c5b0
     try clear p2
     obtain ⟨x5_2,x7_2,rfl,HA,HK2,HO_5,HB⟩:=hrel
     cases gk with
     | zero => exact absurd HA.1 (by simp [spec_l2Both.l1])
     | succ k2 =>
      have H:=HA.1
      clear HA
      simp only [spec_l2Both.l1] at H
      by_cases c6 : x7_2 < (l1.length : Int)
      ·rw [if_pos c6] at H
       have c6b0 : decide (x7_2 < (l1.length : Int)) = true:=decide_eq_true c6
       clear c6
       by_cases c7 : 0 ≤ x6_1
       ·rw [if_pos c7] at H
        have c7b0 : decide (0 ≤ x6_1) = true:=decide_eq_true c7
        clear c7
        by_cases c8 : x6_1 < (l0.length : Int)
        ·rw [if_pos c8] at H
         have c8b0 : decide (x6_1 < (l0.length : Int)) = true:=decide_eq_true c8
         clear c8
         by_cases c9 : 0 ≤ x7_2
         ·rw [if_pos c9] at H
          have c9b0 : decide (0 ≤ x7_2) = true:=decide_eq_true c9
          clear c9
          have HC10:=a0z.mk H
          clear H
          have p104 : 0 ≤ (x6_1 : Int):=of_decide_eq_true (by first|(with_reducible assumption)|assumption)
          have q104 : x6_1 < (l0.length : Int):=of_decide_eq_true (by first|(with_reducible assumption)|assumption)
          obtain ⟨ad104,e104,hx104_0,hx104_1⟩:=h0z HR0.1 x6_1 p104 q104
          cases e104
          replace hx104_0:=(HB.1.cell (World.block_lt_of_cell? w _ hx104_0)).trans hx104_0
          replace hx104_1:=(HB.1.cell (World.block_lt_of_cell? w _ hx104_1)).trans hx104_1
          replace p104:=eq_true p104
          replace q104:=eq_true q104
          go_upto_if 33 with (first|((with_reducible refine d4z (N:=8) rfl ?_);refine e0z ?hg (N:=8) ?hd (cs:=#[.int .i64 0,.int .i64 0]) (t:=63) ?hr ?_;(case hd => rfl);(case hg => rfl);(case hr => first|(go_simp;done)|(go_simp;rfl));intro gb105 hg w11 hbox hb;have n0_:=a0z.mk (Kd.c3z (Kd.f4z (by (with_reducible repeat (first|apply Kd.R_alloc|apply Kd.a4z|apply Kd.a5z));exact HO_5.1) gb105 (Nat.le_of_eq hg.symm)) hb);have n1_:=a0z.mk (b3z (by repeat (first|(with_reducible first|exact HB.1|apply a3z|apply a1z|apply a2z)|exact HB.1)) hb);have n2_:=a0z.mk (hbox);have n3_:=a0z.mk ((by rw [hg];exact (b1z (by repeat (first|(with_reducible first|exact HB.1|apply a3z|apply a1z|apply a2z)|exact HB.1))) : w.heap.size ≤ gb105));have n4_:=a0z.mk ((by rw [hg];exact (b1z (by repeat (first|(with_reducible first|exact HB.1|apply a3z|apply a1z|apply a2z)|exact HB.1))) : w.heap.size ≤ gb105));clear HO_5;clear HB;have HO_5:=n0_;have HB:=n1_;have BK105:=n2_;have GW105:=n3_;have GE105:=n4_;clear n0_ n1_ n2_ n3_ n4_;clear hb hbox hg;have hcz12_0 : w11.cell? ⟨gb105,0,none⟩ = some (.int .i64 0):=(b2z BK105.1 0).trans rfl;have hcz12_1 : w11.cell? ⟨gb105,1,none⟩ = some (.int .i64 0):=(b2z BK105.1 1).trans rfl;have hfz12_0:=b7z BK105.1 0;have hfz12_1:=b7z BK105.1 1;have p106 : 0 ≤ (x7_2 : Int):=of_decide_eq_true (by first|(with_reducible assumption)|assumption);have q106 : x7_2 < (l1.length : Int):=of_decide_eq_true (by first|(with_reducible assumption)|assumption);obtain ⟨ad106,e106,hx106_0,hx106_1⟩:=h0z HR1.1 x7_2 p106 q106;cases e106;have hn106_0 : ad106.block ≠ gb105:=Nat.ne_of_lt (Nat.lt_of_lt_of_le (by have:=World.block_lt_of_cell? _ _ hx106_0;first|rwa [c8z] at this|exact this) GW105.1);have hn106_1 : ad106.block ≠ gb105:=Nat.ne_of_lt (Nat.lt_of_lt_of_le (by have:=World.block_lt_of_cell? _ _ hx106_0;first|rwa [c8z] at this|exact this) GW105.1);replace hx106_0:=(HB.1.cell (World.block_lt_of_cell? w _ hx106_0)).trans hx106_0;replace hx106_1:=(HB.1.cell (World.block_lt_of_cell? w _ hx106_1)).trans hx106_1;replace hx106_0:=(g0z (p:=⟨gb105,0,none⟩) (by (first|rw [c8z]|(show (Addr.add _ _).block ≠ _;rw [c8z])|skip);exact hn106_0) (.int .i64 ((c6z l0 x6_1).f0))).trans hx106_0;replace hx106_1:=(g0z (p:=⟨gb105,0,none⟩) (by (first|rw [c8z]|(show (Addr.add _ _).block ≠ _;rw [c8z])|skip);exact hn106_0) (.int .i64 ((c6z l0 x6_1).f0))).trans hx106_1;replace hx106_0:=(g0z (p:=⟨gb105,1,none⟩) (by (first|rw [c8z]|(show (Addr.add _ _).block ≠ _;rw [c8z])|skip);exact hn106_1) (.int .i64 ((c6z l0 x6_1).f1))).trans hx106_0;replace hx106_1:=(g0z (p:=⟨gb105,1,none⟩) (by (first|rw [c8z]|(show (Addr.add _ _).block ≠ _;rw [c8z])|skip);exact hn106_1) (.int .i64 ((c6z l0 x6_1).f1))).trans hx106_1;(try have hy106_0:=fun (n_ : Nat) => (show ((((w11.drewN n_).setCell ⟨gb105,0,none⟩ (.int .i64 ((c6z l0 x6_1).f0))).setCell ⟨gb105,1,none⟩ (.int .i64 ((c6z l0 x6_1).f1)))).cell? _ = some _ from hx106_0));(try have hy106_1:=fun (n_ : Nat) => (show ((((w11.drewN n_).setCell ⟨gb105,0,none⟩ (.int .i64 ((c6z l0 x6_1).f0))).setCell ⟨gb105,1,none⟩ (.int .i64 ((c6z l0 x6_1).f1)))).cell? _ = some _ from hx106_1));clear hn106_0;clear hn106_1;replace p106:=eq_true p106;replace q106:=eq_true q106))
          repeat (go_quiet (first|((with_reducible refine d4z (N:=8) rfl ?_);refine e0z ?hg (N:=8) ?hd (cs:=#[.int .i64 0,.int .i64 0]) (t:=63) ?hr ?_;(case hd => rfl);(case hg => rfl);(case hr => first|(go_simp;done)|(go_simp;rfl));intro gb105 hg w11 hbox hb;have n0_:=a0z.mk (Kd.c3z (Kd.f4z (by (with_reducible repeat (first|apply Kd.R_alloc|apply Kd.a4z|apply Kd.a5z));exact HO_5.1) gb105 (Nat.le_of_eq hg.symm)) hb);have n1_:=a0z.mk (b3z (by repeat (first|(with_reducible first|exact HB.1|apply a3z|apply a1z|apply a2z)|exact HB.1)) hb);have n2_:=a0z.mk (hbox);have n3_:=a0z.mk ((by rw [hg];exact (b1z (by repeat (first|(with_reducible first|exact HB.1|apply a3z|apply a1z|apply a2z)|exact HB.1))) : w.heap.size ≤ gb105));have n4_:=a0z.mk ((by rw [hg];exact (b1z (by repeat (first|(with_reducible first|exact HB.1|apply a3z|apply a1z|apply a2z)|exact HB.1))) : w.heap.size ≤ gb105));clear HO_5;clear HB;have HO_5:=n0_;have HB:=n1_;have BK105:=n2_;have GW105:=n3_;have GE105:=n4_;clear n0_ n1_ n2_ n3_ n4_;clear hb hbox hg;have hcz12_0 : w11.cell? ⟨gb105,0,none⟩ = some (.int .i64 0):=(b2z BK105.1 0).trans rfl;have hcz12_1 : w11.cell? ⟨gb105,1,none⟩ = some (.int .i64 0):=(b2z BK105.1 1).trans rfl;have hfz12_0:=b7z BK105.1 0;have hfz12_1:=b7z BK105.1 1;have p106 : 0 ≤ (x7_2 : Int):=of_decide_eq_true (by first|(with_reducible assumption)|assumption);have q106 : x7_2 < (l1.length : Int):=of_decide_eq_true (by first|(with_reducible assumption)|assumption);obtain ⟨ad106,e106,hx106_0,hx106_1⟩:=h0z HR1.1 x7_2 p106 q106;cases e106;have hn106_0 : ad106.block ≠ gb105:=Nat.ne_of_lt (Nat.lt_of_lt_of_le (by have:=World.block_lt_of_cell? _ _ hx106_0;first|rwa [c8z] at this|exact this) GW105.1);have hn106_1 : ad106.block ≠ gb105:=Nat.ne_of_lt (Nat.lt_of_lt_of_le (by have:=World.block_lt_of_cell? _ _ hx106_0;first|rwa [c8z] at this|exact this) GW105.1);replace hx106_0:=(HB.1.cell (World.block_lt_of_cell? w _ hx106_0)).trans hx106_0;replace hx106_1:=(HB.1.cell (World.block_lt_of_cell? w _ hx106_1)).trans hx106_1;replace hx106_0:=(g0z (p:=⟨gb105,0,none⟩) (by (first|rw [c8z]|(show (Addr.add _ _).block ≠ _;rw [c8z])|skip);exact hn106_0) (.int .i64 ((c6z l0 x6_1).f0))).trans hx106_0;replace hx106_1:=(g0z (p:=⟨gb105,0,none⟩) (by (first|rw [c8z]|(show (Addr.add _ _).block ≠ _;rw [c8z])|skip);exact hn106_0) (.int .i64 ((c6z l0 x6_1).f0))).trans hx106_1;replace hx106_0:=(g0z (p:=⟨gb105,1,none⟩) (by (first|rw [c8z]|(show (Addr.add _ _).block ≠ _;rw [c8z])|skip);exact hn106_1) (.int .i64 ((c6z l0 x6_1).f1))).trans hx106_0;replace hx106_1:=(g0z (p:=⟨gb105,1,none⟩) (by (first|rw [c8z]|(show (Addr.add _ _).block ≠ _;rw [c8z])|skip);exact hn106_1) (.int .i64 ((c6z l0 x6_1).f1))).trans hx106_1;(try have hy106_0:=fun (n_ : Nat) => (show ((((w11.drewN n_).setCell ⟨gb105,0,none⟩ (.int .i64 ((c6z l0 x6_1).f0))).setCell ⟨gb105,1,none⟩ (.int .i64 ((c6z l0 x6_1).f1)))).cell? _ = some _ from hx106_0));(try have hy106_1:=fun (n_ : Nat) => (show ((((w11.drewN n_).setCell ⟨gb105,0,none⟩ (.int .i64 ((c6z l0 x6_1).f0))).setCell ⟨gb105,1,none⟩ (.int .i64 ((c6z l0 x6_1).f1)))).cell? _ = some _ from hx106_1));clear hn106_0;clear hn106_1;replace p106:=eq_true p106;replace q106:=eq_true q106));go_upto_if 33 with (first|((with_reducible refine d4z (N:=8) rfl ?_);refine e0z ?hg (N:=8) ?hd (cs:=#[.int .i64 0,.int .i64 0]) (t:=63) ?hr ?_;(case hd => rfl);(case hg => rfl);(case hr => first|(go_simp;done)|(go_simp;rfl));intro gb105 hg w11 hbox hb;have n0_:=a0z.mk (Kd.c3z (Kd.f4z (by (with_reducible repeat (first|apply Kd.R_alloc|apply Kd.a4z|apply Kd.a5z));exact HO_5.1) gb105 (Nat.le_of_eq hg.symm)) hb);have n1_:=a0z.mk (b3z (by repeat (first|(with_reducible first|exact HB.1|apply a3z|apply a1z|apply a2z)|exact HB.1)) hb);have n2_:=a0z.mk (hbox);have n3_:=a0z.mk ((by rw [hg];exact (b1z (by repeat (first|(with_reducible first|exact HB.1|apply a3z|apply a1z|apply a2z)|exact HB.1))) : w.heap.size ≤ gb105));have n4_:=a0z.mk ((by rw [hg];exact (b1z (by repeat (first|(with_reducible first|exact HB.1|apply a3z|apply a1z|apply a2z)|exact HB.1))) : w.heap.size ≤ gb105));clear HO_5;clear HB;have HO_5:=n0_;have HB:=n1_;have BK105:=n2_;have GW105:=n3_;have GE105:=n4_;clear n0_ n1_ n2_ n3_ n4_;clear hb hbox hg;have hcz12_0 : w11.cell? ⟨gb105,0,none⟩ = some (.int .i64 0):=(b2z BK105.1 0).trans rfl;have hcz12_1 : w11.cell? ⟨gb105,1,none⟩ = some (.int .i64 0):=(b2z BK105.1 1).trans rfl;have hfz12_0:=b7z BK105.1 0;have hfz12_1:=b7z BK105.1 1;have p106 : 0 ≤ (x7_2 : Int):=of_decide_eq_true (by first|(with_reducible assumption)|assumption);have q106 : x7_2 < (l1.length : Int):=of_decide_eq_true (by first|(with_reducible assumption)|assumption);obtain ⟨ad106,e106,hx106_0,hx106_1⟩:=h0z HR1.1 x7_2 p106 q106;cases e106;have hn106_0 : ad106.block ≠ gb105:=Nat.ne_of_lt (Nat.lt_of_lt_of_le (by have:=World.block_lt_of_cell? _ _ hx106_0;first|rwa [c8z] at this|exact this) GW105.1);have hn106_1 : ad106.block ≠ gb105:=Nat.ne_of_lt (Nat.lt_of_lt_of_le (by have:=World.block_lt_of_cell? _ _ hx106_0;first|rwa [c8z] at this|exact this) GW105.1);replace hx106_0:=(HB.1.cell (World.block_lt_of_cell? w _ hx106_0)).trans hx106_0;replace hx106_1:=(HB.1.cell (World.block_lt_of_cell? w _ hx106_1)).trans hx106_1;replace hx106_0:=(g0z (p:=⟨gb105,0,none⟩) (by (first|rw [c8z]|(show (Addr.add _ _).block ≠ _;rw [c8z])|skip);exact hn106_0) (.int .i64 ((c6z l0 x6_1).f0))).trans hx106_0;replace hx106_1:=(g0z (p:=⟨gb105,0,none⟩) (by (first|rw [c8z]|(show (Addr.add _ _).block ≠ _;rw [c8z])|skip);exact hn106_0) (.int .i64 ((c6z l0 x6_1).f0))).trans hx106_1;replace hx106_0:=(g0z (p:=⟨gb105,1,none⟩) (by (first|rw [c8z]|(show (Addr.add _ _).block ≠ _;rw [c8z])|skip);exact hn106_1) (.int .i64 ((c6z l0 x6_1).f1))).trans hx106_0;replace hx106_1:=(g0z (p:=⟨gb105,1,none⟩) (by (first|rw [c8z]|(show (Addr.add _ _).block ≠ _;rw [c8z])|skip);exact hn106_1) (.int .i64 ((c6z l0 x6_1).f1))).trans hx106_1;(try have hy106_0:=fun (n_ : Nat) => (show ((((w11.drewN n_).setCell ⟨gb105,0,none⟩ (.int .i64 ((c6z l0 x6_1).f0))).setCell ⟨gb105,1,none⟩ (.int .i64 ((c6z l0 x6_1).f1)))).cell? _ = some _ from hx106_0));(try have hy106_1:=fun (n_ : Nat) => (show ((((w11.drewN n_).setCell ⟨gb105,0,none⟩ (.int .i64 ((c6z l0 x6_1).f0))).setCell ⟨gb105,1,none⟩ (.int .i64 ((c6z l0 x6_1).f1)))).cell? _ = some _ from hx106_1));clear hn106_0;clear hn106_1;replace p106:=eq_true p106;replace q106:=eq_true q106)))
          (try simp only [Act.put,sA_,sZ_,sS_])
          go_cut [] (fun wc => ∃ (kq : Nat) (x106000_9 : Int),a0z (spec_l2Both.j2 kq l0 l1 x5_2 x6_1 x7_2 x106000_9 ((c6z l0 x6_1).f1) = some r) ∧ a0z (kq ≤ k2) ∧ a0z (Kd.R k63 63 wc w.heap.size (fun k_ => k_ ≠ gb105) u5 x5_2) ∧ a0z (wc.heap[gb105]? = some (.cells #[.int .i64 x106000_9,.int .i64 ((c6z l0 x6_1).f1)] 63 (0,0))) ∧ a0z (Below w.heap.size w wc))
          case first =>
           have H:=HC10.1
           clear HC10
           by_cases c13 : ((c6z l1 x7_2).f0) > ((c6z l0 x6_1).f0)
           ·rw [if_pos c13] at H
            have c13b0 : decide (((c6z l0 x6_1).f0) < ((c6z l1 x7_2).f0)) = true:=decide_eq_true c13
            clear c13
            (first|rw [c13b0]|(simp only [i64_w,i32_w];rw [c13b0])|skip)
            have H':=a0z.mk H
            clear H
            have p107 : 0 ≤ (x7_2 : Int):=of_decide_eq_true (by first|(with_reducible assumption)|assumption)
            have q107 : x7_2 < (l1.length : Int):=of_decide_eq_true (by first|(with_reducible assumption)|assumption)
            obtain ⟨ad107,e107,hx107_0,hx107_1⟩:=h0z HR1.1 x7_2 p107 q107
            obtain rfl : ad106 = ad107:=(by injection e107)
            have hn107_0 : ad106.block ≠ gb105:=Nat.ne_of_lt (Nat.lt_of_lt_of_le (by have:=World.block_lt_of_cell? _ _ hx107_0;first|rwa [c8z] at this|exact this) GW105.1)
            have hn107_1 : ad106.block ≠ gb105:=Nat.ne_of_lt (Nat.lt_of_lt_of_le (by have:=World.block_lt_of_cell? _ _ hx107_0;first|rwa [c8z] at this|exact this) GW105.1)
            replace hx107_0:=(HB.1.cell (World.block_lt_of_cell? w _ hx107_0)).trans hx107_0
            replace hx107_1:=(HB.1.cell (World.block_lt_of_cell? w _ hx107_1)).trans hx107_1
            replace hx107_0:=(g0z (p:=⟨gb105,0,none⟩) (by (first|rw [c8z]|(show (Addr.add _ _).block ≠ _;rw [c8z])|skip);exact hn107_0) (.int .i64 ((c6z l0 x6_1).f0))).trans hx107_0
            replace hx107_1:=(g0z (p:=⟨gb105,0,none⟩) (by (first|rw [c8z]|(show (Addr.add _ _).block ≠ _;rw [c8z])|skip);exact hn107_0) (.int .i64 ((c6z l0 x6_1).f0))).trans hx107_1
            replace hx107_0:=(g0z (p:=⟨gb105,1,none⟩) (by (first|rw [c8z]|(show (Addr.add _ _).block ≠ _;rw [c8z])|skip);exact hn107_1) (.int .i64 ((c6z l0 x6_1).f1))).trans hx107_0
            replace hx107_1:=(g0z (p:=⟨gb105,1,none⟩) (by (first|rw [c8z]|(show (Addr.add _ _).block ≠ _;rw [c8z])|skip);exact hn107_1) (.int .i64 ((c6z l0 x6_1).f1))).trans hx107_1
            (try have hy107_0:=fun (n_ : Nat) => (show ((((w11.drewN n_).setCell ⟨gb105,0,none⟩ (.int .i64 ((c6z l0 x6_1).f0))).setCell ⟨gb105,1,none⟩ (.int .i64 ((c6z l0 x6_1).f1)))).cell? _ = some _ from hx107_0))
            (try have hy107_1:=fun (n_ : Nat) => (show ((((w11.drewN n_).setCell ⟨gb105,0,none⟩ (.int .i64 ((c6z l0 x6_1).f0))).setCell ⟨gb105,1,none⟩ (.int .i64 ((c6z l0 x6_1).f1)))).cell? _ = some _ from hx107_1))
            clear hn107_0
            clear hn107_1
            replace p107:=eq_true p107
            replace q107:=eq_true q107
            have hcz14_0 : w11.cell? ⟨gb105,0,none⟩ = some (.int .i64 0):=(b2z BK105.1 0).trans rfl
            have hcz14_1 : w11.cell? ⟨gb105,1,none⟩ = some (.int .i64 0):=(b2z BK105.1 1).trans rfl
            have hfz14_0:=b7z BK105.1 0
            have hfz14_1:=b7z BK105.1 1
            go_wp2
            repeat (go_quiet (fail);try go_wp2)
            go_meet
            case rel => exact ⟨_,((c6z l1 x7_2).f0),H',⟨by have:=HK1.1;have:=HK2.1;first|omega|exact Nat.le_refl _⟩,⟨by (with_reducible repeat (first|apply Kd.R_alloc|apply Kd.a4z|apply Kd.a5z));exact Kd.b5z (Kd.R_far (p:=⟨gb105,0,none⟩) (Kd.R_far (p:=⟨gb105,1,none⟩) (Kd.R_far (p:=⟨gb105,0,none⟩) (Kd.b5z HO_5.1 (fun k_ hk => (⟨hk,hk.2⟩ : _ ∧ k_ ≠ gb105))) (fun _ hk => hk.2) (.int .i64 ((c6z l0 x6_1).f0))) (fun _ hk => hk.2) (.int .i64 ((c6z l0 x6_1).f1))) (fun _ hk => hk.2) (.int .i64 ((c6z l1 x7_2).f0))) (fun _ hk => hk.1.2)⟩,⟨by (with_reducible repeat (first|refine a8z ?_ _|refine a9z ?_|refine a7z ?_ _));refine d6z (cs:=#[.int .i64 ((c6z l0 x6_1).f0),.int .i64 ((c6z l0 x6_1).f1)]) ?_ 0 _ rfl;(with_reducible repeat (first|refine a8z ?_ _|refine a9z ?_|refine a7z ?_ _));refine d6z (cs:=#[.int .i64 ((c6z l0 x6_1).f0),.int .i64 0]) ?_ 1 _ rfl;(with_reducible repeat (first|refine a8z ?_ _|refine a9z ?_|refine a7z ?_ _));refine d6z (cs:=#[.int .i64 0,.int .i64 0]) ?_ 0 _ rfl;(with_reducible repeat (first|refine a8z ?_ _|refine a9z ?_|refine a7z ?_ _));exact BK105.1⟩,⟨by repeat (first|(with_reducible first|exact HB.1|apply a3z|apply a1z|apply a2z|refine a6z ?_ GE105.1)|exact HB.1)⟩⟩
           ·rw [if_neg c13] at H
            have c13b0 : decide (((c6z l0 x6_1).f0) < ((c6z l1 x7_2).f0)) = false:=decide_eq_false c13
            clear c13
            (first|rw [c13b0]|(simp only [i64_w,i32_w];rw [c13b0])|skip)
            have H':=a0z.mk H
            clear H
            go_wp2
            repeat (go_quiet (fail);try go_wp2)
            go_meet
            case rel => exact ⟨_,((c6z l0 x6_1).f0),H',⟨by have:=HK1.1;have:=HK2.1;first|omega|exact Nat.le_refl _⟩,⟨by (with_reducible repeat (first|apply Kd.R_alloc|apply Kd.a4z|apply Kd.a5z));exact Kd.b5z (Kd.R_far (p:=⟨gb105,1,none⟩) (Kd.R_far (p:=⟨gb105,0,none⟩) (Kd.b5z HO_5.1 (fun k_ hk => (⟨hk,hk.2⟩ : _ ∧ k_ ≠ gb105))) (fun _ hk => hk.2) (.int .i64 ((c6z l0 x6_1).f0))) (fun _ hk => hk.2) (.int .i64 ((c6z l0 x6_1).f1))) (fun _ hk => hk.1.2)⟩,⟨by (with_reducible repeat (first|refine a8z ?_ _|refine a9z ?_|refine a7z ?_ _));refine d6z (cs:=#[.int .i64 ((c6z l0 x6_1).f0),.int .i64 0]) ?_ 1 _ rfl;(with_reducible repeat (first|refine a8z ?_ _|refine a9z ?_|refine a7z ?_ _));refine d6z (cs:=#[.int .i64 0,.int .i64 0]) ?_ 0 _ rfl;(with_reducible repeat (first|refine a8z ?_ _|refine a9z ?_|refine a7z ?_ _));exact BK105.1⟩,⟨by repeat (first|(with_reducible first|exact HB.1|apply a3z|apply a1z|apply a2z|refine a6z ?_ GE105.1)|exact HB.1)⟩⟩
          case rest =>
           clear HC10
           try clear c1
           try clear p1
           try clear q1
           try clear hx1
           try clear p2
           try clear c4
           try clear c5
           try clear c5b0
           try clear c6
           try clear c6b0
           try clear c7
           try clear c7b0
           try clear c8
           try clear c8b0
           try clear c9
           try clear c9b0
           try clear p10
           try clear q10
           try clear hx10
           try clear c13
           try clear c13b0
           try clear hcz12_0
           try clear hcz12_1
           try clear hcz14_0
           try clear hcz14_1
           try clear hfz12_0
           try clear hfz12_1
           try clear hfz14_0
           try clear hfz14_1
           try clear hx104_0
           try clear hx104_1
           try clear hx106_0
           try clear hx106_1
           try clear hx107_0
           try clear hx107_1
           try clear p104
           try clear p106
           try clear p107
           try clear p2
           try clear q104
           try clear q106
           try clear q107
           obtain ⟨kq,x106000_9,HA,HJ9,HO_5,BK105,HB⟩:=hcut
           cases kq with
           | zero => exact absurd HA.1 (by simp [spec_l2Both.j2])
           | succ kj9 =>
            have H:=HA.1
            clear HA
            simp only [spec_l2Both.j2] at H
            by_cases c15 : 0 ≤ x7_2
            ·rw [if_pos c15] at H
             have c15b0 : decide (0 ≤ x7_2) = true:=decide_eq_true c15
             clear c15
             by_cases c16 : x7_2 < (l1.length : Int)
             ·rw [if_pos c16] at H
              have c16b0 : decide (x7_2 < (l1.length : Int)) = true:=decide_eq_true c16
              clear c16
              by_cases c17 : ((c6z l1 x7_2).f1) < ((c6z l0 x6_1).f1)
              ·rw [if_pos c17] at H
               have c17b0 : decide (((c6z l1 x7_2).f1) < ((c6z l0 x6_1).f1)) = true:=decide_eq_true c17
               clear c17
               by_cases c18 : x106000_9 ≤ ((c6z l1 x7_2).f1)
               ·rw [if_pos c18] at H
                have c18b0 : decide (x106000_9 ≤ ((c6z l1 x7_2).f1)) = true:=decide_eq_true c18
                clear c18
                by_cases c19 : x5_2.length < 8796093022208
                ·rw [if_pos c19] at H
                 have LMc19:=a0z.mk c19
                 clear c19
                 obtain ⟨y110,hy110⟩ : ∃ y_ : List (S63),y_ = (x5_2 ++ [(⟨x106000_9,(c6z l1 x7_2).f1⟩ : S63)]):=⟨_,rfl⟩
                 replace H : (spec_l2Both.l1 kj9 l0 l1 y110 x6_1 (wrap64 (x7_2 + 1))) = some r:=by first|(rw [hy110];with_reducible exact H)|(have H2_:=(Option.bind_some _ _).symm.trans H;rw [hy110];with_reducible exact H2_)|(have H2_:=(Option.bind_some _ _).symm.trans H;with_reducible exact H2_)|with_reducible exact H|(rw [hy110];exact H)|exact H
                 have Ny110:=a0z.mk hy110
                 clear hy110
                 have H':=a0z.mk H
                 clear H
                 have p108 : 0 ≤ (x7_2 : Int):=of_decide_eq_true (by first|(with_reducible assumption)|assumption)
                 have q108 : x7_2 < (l1.length : Int):=of_decide_eq_true (by first|(with_reducible assumption)|assumption)
                 obtain ⟨ad108,e108,hx108_0,hx108_1⟩:=h0z HR1.1 x7_2 p108 q108
                 obtain rfl : ad106 = ad108:=(by injection e108)
                 replace hx108_0:=(HB.1.cell (World.block_lt_of_cell? w _ hx108_0)).trans hx108_0
                 replace hx108_1:=(HB.1.cell (World.block_lt_of_cell? w _ hx108_1)).trans hx108_1
                 replace p108:=eq_true p108
                 replace q108:=eq_true q108
                 have hcz20_0 : wc.cell? ⟨gb105,0,none⟩ = some (.int .i64 x106000_9):=(b2z BK105.1 0).trans rfl
                 have hcz20_1 : wc.cell? ⟨gb105,1,none⟩ = some (.int .i64 ((c6z l0 x6_1).f1)):=(b2z BK105.1 1).trans rfl
                 have hfz20_0:=b7z BK105.1 0
                 have hfz20_1:=b7z BK105.1 1
                 have p109 : 0 ≤ (x7_2 : Int):=of_decide_eq_true (by first|(with_reducible assumption)|assumption)
                 have q109 : x7_2 < (l1.length : Int):=of_decide_eq_true (by first|(with_reducible assumption)|assumption)
                 obtain ⟨ad109,e109,hx109_0,hx109_1⟩:=h0z HR1.1 x7_2 p109 q109
                 obtain rfl : ad106 = ad109:=(by injection e109)
                 replace hx109_0:=(HB.1.cell (World.block_lt_of_cell? w _ hx109_0)).trans hx109_0
                 replace hx109_1:=(HB.1.cell (World.block_lt_of_cell? w _ hx109_1)).trans hx109_1
                 replace p109:=eq_true p109
                 replace q109:=eq_true q109
                 go_wp2_with (first|((with_reducible refine e5z (b:=.append) (xs:=#[.tmp 59,.tmp 61]) rfl ?_);at_builtin;refine Kd.g6z k63 (w0:=w) w.heap.size rfl (.tmp 59) (.tmp 61) 41 63 (.agg #[(.int .i64 0),(.int .i64 0)]) 16 rfl Try.underlying41 info63 rfl (by decide) (by omega) u5 x5_2 (⟨x106000_9,(c6z l1 x7_2).f1⟩ : S63) [.int .i64 x106000_9,.int .i64 ((c6z l1 x7_2).f1)] (fun k_ => k_ ≠ gb105) (fun _ => False) rfl (by first|(go_simp;done)|(go_simp;rfl)) ?aP (fun _ hk => hk.elim) ?aF ?aO ?aB ?aS ?aL ?_;(case aP => exact h9z _ _ _ (⟨x106000_9,(c6z l1 x7_2).f1⟩ : S63));(case aB => exact (by repeat (first|(with_reducible first|exact HB.1|apply a3z|apply a1z|apply a2z|refine a6z ?_ GE105.1)|exact HB.1)));(case aF => exact (fun k_ hk => Kd.freshB (g:=gb105) (o:=.cells #[.int .i64 x106000_9,.int .i64 ((c6z l1 x7_2).f1)] 63 (0,0)) (by (with_reducible repeat (first|refine a8z ?_ _|refine a9z ?_|refine a7z ?_ _));refine d6z (cs:=#[.int .i64 x106000_9,.int .i64 ((c6z l0 x6_1).f1)]) ?_ 1 _ rfl;(with_reducible repeat (first|refine a8z ?_ _|refine a9z ?_|refine a7z ?_ _));exact BK105.1) k_ hk));(case aO => exact (by (with_reducible repeat (first|apply Kd.R_alloc|apply Kd.a4z|apply Kd.a5z));exact Kd.b5z (Kd.R_far (p:=⟨gb105,1,none⟩) (Kd.b5z HO_5.1 (fun k_ hk => (⟨hk,hk⟩ : _ ∧ k_ ≠ gb105))) (fun _ hk => hk.2) (.int .i64 ((c6z l1 x7_2).f1))) (fun _ hk => hk.1)));(case aS => exact (b1z (by repeat (first|(with_reducible first|exact HB.1|apply a3z|apply a1z|apply a2z|refine a6z ?_ GE105.1)|exact HB.1))));(case aL => have:=LMc19.1;omega);intro v111 w21 ho hb hg hat;rw [← Ny110.1] at ho;have n0_:=a0z.mk (f0z (g:=gb105) (o:=.cells #[.int .i64 x106000_9,.int .i64 ((c6z l1 x7_2).f1)] 63 (0,0)) (by (with_reducible repeat (first|refine a8z ?_ _|refine a9z ?_|refine a7z ?_ _));refine d6z (cs:=#[.int .i64 x106000_9,.int .i64 ((c6z l0 x6_1).f1)]) ?_ 1 _ rfl;(with_reducible repeat (first|refine a8z ?_ _|refine a9z ?_|refine a7z ?_ _));exact BK105.1) hg (Kd.h1z HO_5.1 (fun _ hk => hk)));have n1_:=a0z.mk (hb);have n2_:=a0z.mk (ho);clear BK105;clear HB;clear HO_5;have BK105:=n0_;have HB:=n1_;have HO112:=n2_;clear n0_ n1_ n2_;clear ho hb hg hat))
                 repeat (go_quiet (first|((with_reducible refine e5z (b:=.append) (xs:=#[.tmp 59,.tmp 61]) rfl ?_);at_builtin;refine Kd.g6z k63 (w0:=w) w.heap.size rfl (.tmp 59) (.tmp 61) 41 63 (.agg #[(.int .i64 0),(.int .i64 0)]) 16 rfl Try.underlying41 info63 rfl (by decide) (by omega) u5 x5_2 (⟨x106000_9,(c6z l1 x7_2).f1⟩ : S63) [.int .i64 x106000_9,.int .i64 ((c6z l1 x7_2).f1)] (fun k_ => k_ ≠ gb105) (fun _ => False) rfl (by first|(go_simp;done)|(go_simp;rfl)) ?aP (fun _ hk => hk.elim) ?aF ?aO ?aB ?aS ?aL ?_;(case aP => exact h9z _ _ _ (⟨x106000_9,(c6z l1 x7_2).f1⟩ : S63));(case aB => exact (by repeat (first|(with_reducible first|exact HB.1|apply a3z|apply a1z|apply a2z|refine a6z ?_ GE105.1)|exact HB.1)));(case aF => exact (fun k_ hk => Kd.freshB (g:=gb105) (o:=.cells #[.int .i64 x106000_9,.int .i64 ((c6z l1 x7_2).f1)] 63 (0,0)) (by (with_reducible repeat (first|refine a8z ?_ _|refine a9z ?_|refine a7z ?_ _));refine d6z (cs:=#[.int .i64 x106000_9,.int .i64 ((c6z l0 x6_1).f1)]) ?_ 1 _ rfl;(with_reducible repeat (first|refine a8z ?_ _|refine a9z ?_|refine a7z ?_ _));exact BK105.1) k_ hk));(case aO => exact (by (with_reducible repeat (first|apply Kd.R_alloc|apply Kd.a4z|apply Kd.a5z));exact Kd.b5z (Kd.R_far (p:=⟨gb105,1,none⟩) (Kd.b5z HO_5.1 (fun k_ hk => (⟨hk,hk⟩ : _ ∧ k_ ≠ gb105))) (fun _ hk => hk.2) (.int .i64 ((c6z l1 x7_2).f1))) (fun _ hk => hk.1)));(case aS => exact (b1z (by repeat (first|(with_reducible first|exact HB.1|apply a3z|apply a1z|apply a2z|refine a6z ?_ GE105.1)|exact HB.1))));(case aL => have:=LMc19.1;omega);intro v111 w21 ho hb hg hat;rw [← Ny110.1] at ho;have n0_:=a0z.mk (f0z (g:=gb105) (o:=.cells #[.int .i64 x106000_9,.int .i64 ((c6z l1 x7_2).f1)] 63 (0,0)) (by (with_reducible repeat (first|refine a8z ?_ _|refine a9z ?_|refine a7z ?_ _));refine d6z (cs:=#[.int .i64 x106000_9,.int .i64 ((c6z l0 x6_1).f1)]) ?_ 1 _ rfl;(with_reducible repeat (first|refine a8z ?_ _|refine a9z ?_|refine a7z ?_ _));exact BK105.1) hg (Kd.h1z HO_5.1 (fun _ hk => hk)));have n1_:=a0z.mk (hb);have n2_:=a0z.mk (ho);clear BK105;clear HB;clear HO_5;have BK105:=n0_;have HB:=n1_;have HO112:=n2_;clear n0_ n1_ n2_;clear ho hb hg hat));try go_wp2_with (first|((with_reducible refine e5z (b:=.append) (xs:=#[.tmp 59,.tmp 61]) rfl ?_);at_builtin;refine Kd.g6z k63 (w0:=w) w.heap.size rfl (.tmp 59) (.tmp 61) 41 63 (.agg #[(.int .i64 0),(.int .i64 0)]) 16 rfl Try.underlying41 info63 rfl (by decide) (by omega) u5 x5_2 (⟨x106000_9,(c6z l1 x7_2).f1⟩ : S63) [.int .i64 x106000_9,.int .i64 ((c6z l1 x7_2).f1)] (fun k_ => k_ ≠ gb105) (fun _ => False) rfl (by first|(go_simp;done)|(go_simp;rfl)) ?aP (fun _ hk => hk.elim) ?aF ?aO ?aB ?aS ?aL ?_;(case aP => exact h9z _ _ _ (⟨x106000_9,(c6z l1 x7_2).f1⟩ : S63));(case aB => exact (by repeat (first|(with_reducible first|exact HB.1|apply a3z|apply a1z|apply a2z|refine a6z ?_ GE105.1)|exact HB.1)));(case aF => exact (fun k_ hk => Kd.freshB (g:=gb105) (o:=.cells #[.int .i64 x106000_9,.int .i64 ((c6z l1 x7_2).f1)] 63 (0,0)) (by (with_reducible repeat (first|refine a8z ?_ _|refine a9z ?_|refine a7z ?_ _));refine d6z (cs:=#[.int .i64 x106000_9,.int .i64 ((c6z l0 x6_1).f1)]) ?_ 1 _ rfl;(with_reducible repeat (first|refine a8z ?_ _|refine a9z ?_|refine a7z ?_ _));exact BK105.1) k_ hk));(case aO => exact (by (with_reducible repeat (first|apply Kd.R_alloc|apply Kd.a4z|apply Kd.a5z));exact Kd.b5z (Kd.R_far (p:=⟨gb105,1,none⟩) (Kd.b5z HO_5.1 (fun k_ hk => (⟨hk,hk⟩ : _ ∧ k_ ≠ gb105))) (fun _ hk => hk.2) (.int .i64 ((c6z l1 x7_2).f1))) (fun _ hk => hk.1)));(case aS => exact (b1z (by repeat (first|(with_reducible first|exact HB.1|apply a3z|apply a1z|apply a2z|refine a6z ?_ GE105.1)|exact HB.1))));(case aL => have:=LMc19.1;omega);intro v111 w21 ho hb hg hat;rw [← Ny110.1] at ho;have n0_:=a0z.mk (f0z (g:=gb105) (o:=.cells #[.int .i64 x106000_9,.int .i64 ((c6z l1 x7_2).f1)] 63 (0,0)) (by (with_reducible repeat (first|refine a8z ?_ _|refine a9z ?_|refine a7z ?_ _));refine d6z (cs:=#[.int .i64 x106000_9,.int .i64 ((c6z l0 x6_1).f1)]) ?_ 1 _ rfl;(with_reducible repeat (first|refine a8z ?_ _|refine a9z ?_|refine a7z ?_ _));exact BK105.1) hg (Kd.h1z HO_5.1 (fun _ hk => hk)));have n1_:=a0z.mk (hb);have n2_:=a0z.mk (ho);clear BK105;clear HB;clear HO_5;have BK105:=n0_;have HB:=n1_;have HO112:=n2_;clear n0_ n1_ n2_;clear ho hb hg hat)))
                 go_roundg kj9
                 case measure => have:=HK1.1;have:=HK2.1;have:=HJ9.1;omega
                 case rel => exact ⟨(y110),(wrap64 (x7_2 + 1)),(by first|rfl|(simp;done)|(simp [*];done)),H',⟨by have:=HK1.1;have:=HK2.1;have:=HJ9.1;omega⟩,⟨by (with_reducible repeat (first|apply Kd.R_alloc|apply Kd.a4z|apply Kd.a5z));exact Kd.b5z HO112.1 (fun _ hk => trivial)⟩,⟨by repeat (first|(with_reducible first|exact HB.1|apply a3z|apply a1z|apply a2z|refine a6z ?_ GE105.1)|exact HB.1)⟩⟩
                ·rw [if_neg c19] at H
                 exact absurd H (by simp)
               ·rw [if_neg c18] at H
                have c18b0 : decide (x106000_9 ≤ ((c6z l1 x7_2).f1)) = false:=decide_eq_false c18
                clear c18
                have H':=a0z.mk H
                clear H
                have p108 : 0 ≤ (x7_2 : Int):=of_decide_eq_true (by first|(with_reducible assumption)|assumption)
                have q108 : x7_2 < (l1.length : Int):=of_decide_eq_true (by first|(with_reducible assumption)|assumption)
                obtain ⟨ad108,e108,hx108_0,hx108_1⟩:=h0z HR1.1 x7_2 p108 q108
                obtain rfl : ad106 = ad108:=(by injection e108)
                replace hx108_0:=(HB.1.cell (World.block_lt_of_cell? w _ hx108_0)).trans hx108_0
                replace hx108_1:=(HB.1.cell (World.block_lt_of_cell? w _ hx108_1)).trans hx108_1
                replace p108:=eq_true p108
                replace q108:=eq_true q108
                have hcz22_0 : wc.cell? ⟨gb105,0,none⟩ = some (.int .i64 x106000_9):=(b2z BK105.1 0).trans rfl
                have hcz22_1 : wc.cell? ⟨gb105,1,none⟩ = some (.int .i64 ((c6z l0 x6_1).f1)):=(b2z BK105.1 1).trans rfl
                have hfz22_0:=b7z BK105.1 0
                have hfz22_1:=b7z BK105.1 1
                have p109 : 0 ≤ (x7_2 : Int):=of_decide_eq_true (by first|(with_reducible assumption)|assumption)
                have q109 : x7_2 < (l1.length : Int):=of_decide_eq_true (by first|(with_reducible assumption)|assumption)
                obtain ⟨ad109,e109,hx109_0,hx109_1⟩:=h0z HR1.1 x7_2 p109 q109
                obtain rfl : ad106 = ad109:=(by injection e109)
                replace hx109_0:=(HB.1.cell (World.block_lt_of_cell? w _ hx109_0)).trans hx109_0
                replace hx109_1:=(HB.1.cell (World.block_lt_of_cell? w _ hx109_1)).trans hx109_1
                replace p109:=eq_true p109
                replace q109:=eq_true q109
                go_wp2
                repeat (go_quiet (fail);try go_wp2)
                go_roundg kj9
                case measure => have:=HK1.1;have:=HK2.1;have:=HJ9.1;omega
                case rel => exact ⟨(x5_2),(wrap64 (x7_2 + 1)),(by first|rfl|(simp;done)|(simp [*];done)),H',⟨by have:=HK1.1;have:=HK2.1;have:=HJ9.1;omega⟩,⟨by (with_reducible repeat (first|apply Kd.R_alloc|apply Kd.a4z|apply Kd.a5z));exact Kd.b5z (Kd.R_far (p:=⟨gb105,1,none⟩) (Kd.b5z HO_5.1 (fun k_ hk => (⟨hk,hk⟩ : _ ∧ k_ ≠ gb105))) (fun _ hk => hk.2) (.int .i64 ((c6z l1 x7_2).f1))) (fun _ hk => trivial)⟩,⟨by repeat (first|(with_reducible first|exact HB.1|apply a3z|apply a1z|apply a2z|refine a6z ?_ GE105.1)|exact HB.1)⟩⟩
              ·rw [if_neg c17] at H
               have c17b0 : decide (((c6z l1 x7_2).f1) < ((c6z l0 x6_1).f1)) = false:=decide_eq_false c17
               clear c17
               by_cases c23 : x106000_9 ≤ ((c6z l0 x6_1).f1)
               ·rw [if_pos c23] at H
                have c23b0 : decide (x106000_9 ≤ ((c6z l0 x6_1).f1)) = true:=decide_eq_true c23
                clear c23
                by_cases c24 : x5_2.length < 8796093022208
                ·rw [if_pos c24] at H
                 have LMc24:=a0z.mk c24
                 clear c24
                 obtain ⟨y113,hy113⟩ : ∃ y_ : List (S63),y_ = (x5_2 ++ [(⟨x106000_9,((c6z l0 x6_1).f1)⟩ : S63)]):=⟨_,rfl⟩
                 replace H : (spec_l2Both.l1 kj9 l0 l1 y113 x6_1 (wrap64 (x7_2 + 1))) = some r:=by first|(rw [hy113];with_reducible exact H)|(have H2_:=(Option.bind_some _ _).symm.trans H;rw [hy113];with_reducible exact H2_)|(have H2_:=(Option.bind_some _ _).symm.trans H;with_reducible exact H2_)|with_reducible exact H|(rw [hy113];exact H)|exact H
                 have Ny113:=a0z.mk hy113
                 clear hy113
                 have H':=a0z.mk H
                 clear H
                 have p108 : 0 ≤ (x7_2 : Int):=of_decide_eq_true (by first|(with_reducible assumption)|assumption)
                 have q108 : x7_2 < (l1.length : Int):=of_decide_eq_true (by first|(with_reducible assumption)|assumption)
                 obtain ⟨ad108,e108,hx108_0,hx108_1⟩:=h0z HR1.1 x7_2 p108 q108
                 obtain rfl : ad106 = ad108:=(by injection e108)
                 replace hx108_0:=(HB.1.cell (World.block_lt_of_cell? w _ hx108_0)).trans hx108_0
                 replace hx108_1:=(HB.1.cell (World.block_lt_of_cell? w _ hx108_1)).trans hx108_1
                 replace p108:=eq_true p108
                 replace q108:=eq_true q108
                 have hcz25_0 : wc.cell? ⟨gb105,0,none⟩ = some (.int .i64 x106000_9):=(b2z BK105.1 0).trans rfl
                 have hcz25_1 : wc.cell? ⟨gb105,1,none⟩ = some (.int .i64 ((c6z l0 x6_1).f1)):=(b2z BK105.1 1).trans rfl
                 have hfz25_0:=b7z BK105.1 0
                 have hfz25_1:=b7z BK105.1 1
                 go_wp2_with (first|((with_reducible refine e5z (b:=.append) (xs:=#[.tmp 59,.tmp 61]) rfl ?_);at_builtin;refine Kd.g6z k63 (w0:=w) w.heap.size rfl (.tmp 59) (.tmp 61) 41 63 (.agg #[(.int .i64 0),(.int .i64 0)]) 16 rfl Try.underlying41 info63 rfl (by decide) (by omega) u5 x5_2 (⟨x106000_9,((c6z l0 x6_1).f1)⟩ : S63) [.int .i64 x106000_9,.int .i64 ((c6z l0 x6_1).f1)] (fun k_ => k_ ≠ gb105) (fun _ => False) rfl rfl ?aP (fun _ hk => hk.elim) ?aF ?aO ?aB ?aS ?aL ?_;(case aP => exact h9z _ _ _ (⟨x106000_9,((c6z l0 x6_1).f1)⟩ : S63));(case aB => exact (by repeat (first|(with_reducible first|exact HB.1|apply a3z|apply a1z|apply a2z|refine a6z ?_ GE105.1)|exact HB.1)));(case aF => exact (fun k_ hk => Kd.freshB (g:=gb105) (o:=.cells #[.int .i64 x106000_9,.int .i64 ((c6z l0 x6_1).f1)] 63 (0,0)) (by (with_reducible repeat (first|refine a8z ?_ _|refine a9z ?_|refine a7z ?_ _));exact BK105.1) k_ hk));(case aO => exact (by (with_reducible repeat (first|apply Kd.R_alloc|apply Kd.a4z|apply Kd.a5z));exact HO_5.1));(case aS => exact (b1z (by repeat (first|(with_reducible first|exact HB.1|apply a3z|apply a1z|apply a2z|refine a6z ?_ GE105.1)|exact HB.1))));(case aL => have:=LMc24.1;omega);intro v114 w26 ho hb hg hat;rw [← Ny113.1] at ho;have n0_:=a0z.mk (f0z (g:=gb105) (o:=.cells #[.int .i64 x106000_9,.int .i64 ((c6z l0 x6_1).f1)] 63 (0,0)) (by (with_reducible repeat (first|refine a8z ?_ _|refine a9z ?_|refine a7z ?_ _));exact BK105.1) hg (Kd.h1z HO_5.1 (fun _ hk => hk)));have n1_:=a0z.mk (hb);have n2_:=a0z.mk (ho);clear BK105;clear HB;clear HO_5;have BK105:=n0_;have HB:=n1_;have HO115:=n2_;clear n0_ n1_ n2_;clear ho hb hg hat))
                 repeat (go_quiet (first|((with_reducible refine e5z (b:=.append) (xs:=#[.tmp 59,.tmp 61]) rfl ?_);at_builtin;refine Kd.g6z k63 (w0:=w) w.heap.size rfl (.tmp 59) (.tmp 61) 41 63 (.agg #[(.int .i64 0),(.int .i64 0)]) 16 rfl Try.underlying41 info63 rfl (by decide) (by omega) u5 x5_2 (⟨x106000_9,((c6z l0 x6_1).f1)⟩ : S63) [.int .i64 x106000_9,.int .i64 ((c6z l0 x6_1).f1)] (fun k_ => k_ ≠ gb105) (fun _ => False) rfl rfl ?aP (fun _ hk => hk.elim) ?aF ?aO ?aB ?aS ?aL ?_;(case aP => exact h9z _ _ _ (⟨x106000_9,((c6z l0 x6_1).f1)⟩ : S63));(case aB => exact (by repeat (first|(with_reducible first|exact HB.1|apply a3z|apply a1z|apply a2z|refine a6z ?_ GE105.1)|exact HB.1)));(case aF => exact (fun k_ hk => Kd.freshB (g:=gb105) (o:=.cells #[.int .i64 x106000_9,.int .i64 ((c6z l0 x6_1).f1)] 63 (0,0)) (by (with_reducible repeat (first|refine a8z ?_ _|refine a9z ?_|refine a7z ?_ _));exact BK105.1) k_ hk));(case aO => exact (by (with_reducible repeat (first|apply Kd.R_alloc|apply Kd.a4z|apply Kd.a5z));exact HO_5.1));(case aS => exact (b1z (by repeat (first|(with_reducible first|exact HB.1|apply a3z|apply a1z|apply a2z|refine a6z ?_ GE105.1)|exact HB.1))));(case aL => have:=LMc24.1;omega);intro v114 w26 ho hb hg hat;rw [← Ny113.1] at ho;have n0_:=a0z.mk (f0z (g:=gb105) (o:=.cells #[.int .i64 x106000_9,.int .i64 ((c6z l0 x6_1).f1)] 63 (0,0)) (by (with_reducible repeat (first|refine a8z ?_ _|refine a9z ?_|refine a7z ?_ _));exact BK105.1) hg (Kd.h1z HO_5.1 (fun _ hk => hk)));have n1_:=a0z.mk (hb);have n2_:=a0z.mk (ho);clear BK105;clear HB;clear HO_5;have BK105:=n0_;have HB:=n1_;have HO115:=n2_;clear n0_ n1_ n2_;clear ho hb hg hat));try go_wp2_with (first|((with_reducible refine e5z (b:=.append) (xs:=#[.tmp 59,.tmp 61]) rfl ?_);at_builtin;refine Kd.g6z k63 (w0:=w) w.heap.size rfl (.tmp 59) (.tmp 61) 41 63 (.agg #[(.int .i64 0),(.int .i64 0)]) 16 rfl Try.underlying41 info63 rfl (by decide) (by omega) u5 x5_2 (⟨x106000_9,((c6z l0 x6_1).f1)⟩ : S63) [.int .i64 x106000_9,.int .i64 ((c6z l0 x6_1).f1)] (fun k_ => k_ ≠ gb105) (fun _ => False) rfl rfl ?aP (fun _ hk => hk.elim) ?aF ?aO ?aB ?aS ?aL ?_;(case aP => exact h9z _ _ _ (⟨x106000_9,((c6z l0 x6_1).f1)⟩ : S63));(case aB => exact (by repeat (first|(with_reducible first|exact HB.1|apply a3z|apply a1z|apply a2z|refine a6z ?_ GE105.1)|exact HB.1)));(case aF => exact (fun k_ hk => Kd.freshB (g:=gb105) (o:=.cells #[.int .i64 x106000_9,.int .i64 ((c6z l0 x6_1).f1)] 63 (0,0)) (by (with_reducible repeat (first|refine a8z ?_ _|refine a9z ?_|refine a7z ?_ _));exact BK105.1) k_ hk));(case aO => exact (by (with_reducible repeat (first|apply Kd.R_alloc|apply Kd.a4z|apply Kd.a5z));exact HO_5.1));(case aS => exact (b1z (by repeat (first|(with_reducible first|exact HB.1|apply a3z|apply a1z|apply a2z|refine a6z ?_ GE105.1)|exact HB.1))));(case aL => have:=LMc24.1;omega);intro v114 w26 ho hb hg hat;rw [← Ny113.1] at ho;have n0_:=a0z.mk (f0z (g:=gb105) (o:=.cells #[.int .i64 x106000_9,.int .i64 ((c6z l0 x6_1).f1)] 63 (0,0)) (by (with_reducible repeat (first|refine a8z ?_ _|refine a9z ?_|refine a7z ?_ _));exact BK105.1) hg (Kd.h1z HO_5.1 (fun _ hk => hk)));have n1_:=a0z.mk (hb);have n2_:=a0z.mk (ho);clear BK105;clear HB;clear HO_5;have BK105:=n0_;have HB:=n1_;have HO115:=n2_;clear n0_ n1_ n2_;clear ho hb hg hat)))
                 go_roundg kj9
                 case measure => have:=HK1.1;have:=HK2.1;have:=HJ9.1;omega
                 case rel => exact ⟨(y113),(wrap64 (x7_2 + 1)),(by first|rfl|(simp;done)|(simp [*];done)),H',⟨by have:=HK1.1;have:=HK2.1;have:=HJ9.1;omega⟩,⟨by (with_reducible repeat (first|apply Kd.R_alloc|apply Kd.a4z|apply Kd.a5z));exact Kd.b5z HO115.1 (fun _ hk => trivial)⟩,⟨by repeat (first|(with_reducible first|exact HB.1|apply a3z|apply a1z|apply a2z|refine a6z ?_ GE105.1)|exact HB.1)⟩⟩
                ·rw [if_neg c24] at H
                 exact absurd H (by simp)
               ·rw [if_neg c23] at H
                have c23b0 : decide (x106000_9 ≤ ((c6z l0 x6_1).f1)) = false:=decide_eq_false c23
                clear c23
                have H':=a0z.mk H
                clear H
                have p108 : 0 ≤ (x7_2 : Int):=of_decide_eq_true (by first|(with_reducible assumption)|assumption)
                have q108 : x7_2 < (l1.length : Int):=of_decide_eq_true (by first|(with_reducible assumption)|assumption)
                obtain ⟨ad108,e108,hx108_0,hx108_1⟩:=h0z HR1.1 x7_2 p108 q108
                obtain rfl : ad106 = ad108:=(by injection e108)
                replace hx108_0:=(HB.1.cell (World.block_lt_of_cell? w _ hx108_0)).trans hx108_0
                replace hx108_1:=(HB.1.cell (World.block_lt_of_cell? w _ hx108_1)).trans hx108_1
                replace p108:=eq_true p108
                replace q108:=eq_true q108
                have hcz27_0 : wc.cell? ⟨gb105,0,none⟩ = some (.int .i64 x106000_9):=(b2z BK105.1 0).trans rfl
                have hcz27_1 : wc.cell? ⟨gb105,1,none⟩ = some (.int .i64 ((c6z l0 x6_1).f1)):=(b2z BK105.1 1).trans rfl
                have hfz27_0:=b7z BK105.1 0
                have hfz27_1:=b7z BK105.1 1
                go_wp2
                repeat (go_quiet (fail);try go_wp2)
                go_roundg kj9
                case measure => have:=HK1.1;have:=HK2.1;have:=HJ9.1;omega
                case rel => exact ⟨(x5_2),(wrap64 (x7_2 + 1)),(by first|rfl|(simp;done)|(simp [*];done)),H',⟨by have:=HK1.1;have:=HK2.1;have:=HJ9.1;omega⟩,⟨by (with_reducible repeat (first|apply Kd.R_alloc|apply Kd.a4z|apply Kd.a5z));exact Kd.b5z HO_5.1 (fun _ hk => trivial)⟩,⟨by repeat (first|(with_reducible first|exact HB.1|apply a3z|apply a1z|apply a2z|refine a6z ?_ GE105.1)|exact HB.1)⟩⟩
             ·rw [if_neg c16] at H
              exact absurd H (by simp)
            ·rw [if_neg c15] at H
             exact absurd H (by simp)
         ·rw [if_neg c9] at H
          exact absurd H (by simp)
        ·rw [if_neg c8] at H
         exact absurd H (by simp)
       ·rw [if_neg c7] at H
        exact absurd H (by simp)
      ·rw [if_neg c6] at H
       have c6b0 : decide (x7_2 < (l1.length : Int)) = false:=decide_eq_false c6
       clear c6
       have H':=a0z.mk H
       clear H
       go_wp2
       repeat (go_quiet (fail);try go_wp2)
       go_roundg k2
       case measure => have:=HK1.1;have:=HK2.1;omega
       case rel => exact ⟨(x5_2),(wrap64 (x6_1 + 1)),(by first|rfl|(simp;done)|(simp [*];done)),H',⟨by have:=HK1.1;have:=HK2.1;omega⟩,⟨by (with_reducible repeat (first|apply Kd.R_alloc|apply Kd.a4z|apply Kd.a5z));exact HO_5.1⟩,⟨by repeat (first|(with_reducible first|exact HB.1|apply a3z|apply a1z|apply a2z)|exact HB.1)⟩⟩
   ·rw [if_neg c5] at H
    have c5b0 : decide (x6_1 < (l0.length : Int)) = false:=decide_eq_false c5
    clear c5
    obtain rfl:=Option.some.inj H
    go_wp2
    repeat (go_quiet (fail);try go_wp2)
    go_ret
    exact ⟨_,by first|rfl|(simp [c2z,c1z] <;> rfl)|(simp [*,c2z,c1z] <;> rfl),by (with_reducible repeat (first|apply Kd.R_alloc|apply Kd.a4z|apply Kd.a5z));exact HO_5.1,by repeat (first|(with_reducible first|exact HB.1|apply a3z|apply a1z|apply a2z)|exact HB.1)⟩
end Go.Proofs.Ytmdhedkgpgoneaa.Q

namespace Go.Proofs.Ytmdhedkgpgoneaa.Q
open Go.RowKit Go.Proofs.YtmdhedkgpgoneaaW.PrintWords Go.Proofs.YtmdhedkgpgoneaaW.PrintLast Go.Proofs.YtmdhedkgpgoneaaW.PrintMore
attribute [local go_sem] e4z e2z e7z e6z d8z d7z e3z e1z
set_option linter.unusedVariables false
set_option linter.unusedSimpArgs false
def spec_SetBoth.j0 : Nat → List (S44) → List (S44) → Bool → Option ((List (S44)) × Bool)
 | 0,_,_,_ => none
 | k + 1,x0,x1,x13 => if x13 = true then (some ((([] : List (S44))),false)) else ((spec_l2Spans.f k x0).bind fun t106 => ((spec_l2Spans.f k x1).bind fun t109 => ((spec_l2Both.f k t106 t109).bind fun t112 => ((spec_l2Cover.f k t112).bind fun t115 => ((spec_l2Room.f t115).bind fun bt118 => (some (bt118.1,bt118.2)))))))
def spec_SetBoth.f (k : Nat) (l0 : List (S44)) (l1 : List (S44)) : Option ((List (S44)) × Bool):=(spec_SetOk.f k l0).bind fun t101 => (if t101 = true then ((spec_SetOk.f k l1).bind fun t102 => (spec_SetBoth.j0 k l0 l1 (!t102))) else (spec_SetBoth.j0 k l0 l1 true))
set_option maxHeartbeats 8000000 in
set_option maxRecDepth 100000 in
theorem spec_SetBoth.calls (k : Nat) (A0 : Option Addr) (c0 : Nat) (l0 : List (S44)) (A1 : Option Addr) (c1 : Nat) (l1 : List (S44)) (r1 : List (S44)) (r2 : Bool) (w : World) (hr0 : Kd.C k44 w A0 l0.length l0) (hc0 : l0.length ≤ c0) (hr1 : Kd.C k44 w A1 l1.length l1) (hc1 : l1.length ≤ c1) (h : spec_SetBoth.f k l0 l1 = some (r1,r2)) :
  Calls Try.prog 24 #[.slice A0 l0.length c0,.slice A1 l1.length c1] w fun e w' => ∃ v0_ : Value,e = .returned (.tuple #[v0_,.bool r2]) ∧ Kd.R k44 44 w' w.heap.size (fun _ => True) v0_ r1 ∧ Below w.heap.size w w':=by
 have HR0:=a0z.mk hr0
 have HC0:=a0z.mk hc0
 clear hr0 hc0
 have HR1:=a0z.mk hr1
 have HC1:=a0z.mk hc1
 clear hr1 hc1
 have HB:=a0z.mk (Below.refl w.heap.size w)
 have H : ((spec_SetOk.f k l0).bind fun t101 => (if t101 = true then ((spec_SetOk.f k l1).bind fun t102 => (spec_SetBoth.j0 k l0 l1 (!t102))) else (spec_SetBoth.j0 k l0 l1 true))) = some (r1,r2):=h
 clear h
 have HC3:=a0z.mk H
 clear H
 go_enter Try.func24,Try.ntmps24
 go_upto_region 1 with (fail)
 go_cut [13] (fun v13 wc => ∃ (kq : Nat) (x13_2 : Bool),v13 = .bool x13_2 ∧ a0z (spec_SetBoth.j0 kq l0 l1 x13_2 = some (r1,r2)) ∧ a0z (kq ≤ k) ∧ a0z (Below w.heap.size w wc))
 case first =>
  have H:=HC3.1
  clear HC3
  replace H:=Option.bind_eq_some_iff.mp H
  obtain ⟨t101,A40,H⟩:=H
  replace H : (if t101 = true then ((spec_SetOk.f k l1).bind fun t102 => (spec_SetBoth.j0 k l0 l1 (!t102))) else (spec_SetBoth.j0 k l0 l1 true)) = some (r1,r2):=H
  have A4:=a0z.mk A40
  clear A40
  by_cases c5 : t101 = true
  ·subst c5
   have H1 : ((spec_SetOk.f k l1).bind fun t102 => (spec_SetBoth.j0 k l0 l1 (!t102))) = some (r1,r2):=by rw [if_pos rfl] at H;exact H
   clear H
   have H:=H1
   clear H1
   replace H:=Option.bind_eq_some_iff.mp H
   obtain ⟨t102,A60,H⟩:=H
   replace H : (spec_SetBoth.j0 k l0 l1 (!t102)) = some (r1,r2):=H
   have A6:=a0z.mk A60
   clear A60
   have H':=a0z.mk H
   clear H
   go_wp2_with (first|((with_reducible refine b8z (f:=14) rfl ?_);refine d2z (some 7) rfl rfl Try.func14 (by kernel_rfl) rfl #[.slice A0 l0.length c0] rfl (by (try simp only [List.map_toArray,List.map_cons,List.map_nil]);first|done|rfl|(simp only [List.length_drop,List.length_take];rfl)) ?_;(with_reducible refine (spec_SetOk.calls k _ _ l0 true _ ?side1 ?side2 A4.1).mono ?_);(case side1 => repeat (first|exact (Kd.f2z HR0.1 HB.1)|(with_reducible refine Kd.C_alloc ?_ _)|(with_reducible refine Kd.C_drewN ?_ _)|(with_reducible refine Kd.C_drew ?_)));(case side2 => exact HC0.1);rintro e w7 ⟨rfl,hb⟩;refine ⟨_,rfl,?_⟩;have n0_:=a0z.mk (b3z (by repeat (first|(with_reducible first|exact HB.1|apply a3z|apply a1z|apply a2z)|exact HB.1)) hb);clear HB;have HB:=n0_;clear n0_;(try clear hb);(try clear hb2);(try clear hk);(try clear hi))|(go_at_call 14;(with_reducible refine (spec_SetOk.calls k _ _ l1 t102 _ ?side1 ?side2 A6.1).mono ?_);(case side1 => repeat (first|exact (Kd.f2z HR1.1 HB.1)|(with_reducible refine Kd.C_alloc ?_ _)|(with_reducible refine Kd.C_drewN ?_ _)|(with_reducible refine Kd.C_drew ?_)));(case side2 => exact HC1.1);rintro e w8 ⟨rfl,hb⟩;have n0_:=a0z.mk (b3z (by repeat (first|(with_reducible first|exact HB.1|apply a3z|apply a1z|apply a2z)|exact HB.1)) hb);clear HB;have HB:=n0_;clear n0_;(try clear hb);(try clear hb2);(try clear hk);(try clear hi)))
   go_meet
   case rel => exact ⟨_,(!t102),(by first|rfl|(simp;done)|(simp [*];done)),H',⟨by first|omega|exact Nat.le_refl _⟩,⟨by repeat (first|(with_reducible first|exact HB.1|apply a3z|apply a1z|apply a2z)|exact HB.1)⟩⟩
  ·replace c5:=Bool.eq_false_iff.mpr c5
   subst c5
   have H1 : (spec_SetBoth.j0 k l0 l1 true) = some (r1,r2):=by rw [if_neg (show ¬ (false = true) by decide)] at H;exact H
   clear H
   have H:=H1
   clear H1
   have H':=a0z.mk H
   clear H
   go_wp2_with (first|((with_reducible refine b8z (f:=14) rfl ?_);refine d2z (some 7) rfl rfl Try.func14 (by kernel_rfl) rfl #[.slice A0 l0.length c0] rfl (by (try simp only [List.map_toArray,List.map_cons,List.map_nil]);first|done|rfl|(simp only [List.length_drop,List.length_take];rfl)) ?_;(with_reducible refine (spec_SetOk.calls k _ _ l0 false _ ?side1 ?side2 A4.1).mono ?_);(case side1 => repeat (first|exact (Kd.f2z HR0.1 HB.1)|(with_reducible refine Kd.C_alloc ?_ _)|(with_reducible refine Kd.C_drewN ?_ _)|(with_reducible refine Kd.C_drew ?_)));(case side2 => exact HC0.1);rintro e w9 ⟨rfl,hb⟩;refine ⟨_,rfl,?_⟩;have n0_:=a0z.mk (b3z (by repeat (first|(with_reducible first|exact HB.1|apply a3z|apply a1z|apply a2z)|exact HB.1)) hb);clear HB;have HB:=n0_;clear n0_;(try clear hb);(try clear hb2);(try clear hk);(try clear hi)))
   go_meet
   case rel => exact ⟨_,(true),(by first|rfl|(simp;done)|(simp [*];done)),H',⟨by first|omega|exact Nat.le_refl _⟩,⟨by repeat (first|(with_reducible first|exact HB.1|apply a3z|apply a1z|apply a2z)|exact HB.1)⟩⟩
 case rest =>
  clear HC3
  try clear c1
  try clear c2
  try clear p2
  try clear c5
  obtain ⟨kq,x13_2,rfl,HA,HJ2,HB⟩:=hcut
  cases kq with
  | zero => exact absurd HA.1 (by simp [spec_SetBoth.j0])
  | succ kj2 =>
   have H:=HA.1
   clear HA
   simp only [spec_SetBoth.j0] at H
   by_cases c10 : x13_2 = true
   ·subst c10
    have H1 : (some ((([] : List (S44))),false)) = some (r1,r2):=by rw [if_pos rfl] at H;exact H
    clear H
    have H:=H1
    clear H1
    obtain ⟨y103,hy103⟩ : ∃ y_ : List (S44),y_ = (([] : List (S44))):=⟨_,rfl⟩
    replace H : (some (y103,false)) = some (r1,r2):=by first|(rw [hy103];with_reducible exact H)|(have H2_:=(Option.bind_some _ _).symm.trans H;rw [hy103];with_reducible exact H2_)|(have H2_:=(Option.bind_some _ _).symm.trans H;with_reducible exact H2_)|with_reducible exact H|(rw [hy103];exact H)|exact H
    have Ny103:=a0z.mk hy103
    clear hy103
    simp only [Option.some.injEq,Prod.mk.injEq] at H
    obtain ⟨rfl,rfl⟩:=H
    go_wp2_with (first|((with_reducible refine d4z (N:=14) rfl ?_);refine Kd.R_lit k44 _ 44 ?hg (N:=14) ?hd (xs:=([] : List (S44))) (inner:=[]) (ok:=fun _ => True) (okp:=fun _ => True) ?hr ?hp (fun _ hk => hk) trivial (Below.refl _ _) (Nat.le_refl _) (by simp) ?_;(case hd => rfl);(case hg => rfl);(case hr => first|(go_simp;done)|(go_simp;rfl));(case hp => exact (Reps.none _ _));intro v104 w11 ho12 hb hg_ hnew_;clear hg_ hnew_;(first|rw [← Ny103.1] at ho12|(simp only [Int.reduceToNat] at ho12;rw [← Ny103.1] at ho12));have n0_:=a0z.mk (Kd.d5z ho12 (b1z (by repeat (first|(with_reducible first|exact HB.1|apply a3z|apply a1z|apply a2z)|exact HB.1))));have n1_:=a0z.mk (b3z (by repeat (first|(with_reducible first|exact HB.1|apply a3z|apply a1z|apply a2z)|exact HB.1)) hb);clear HB;have HO105:=n0_;have HB:=n1_;clear n0_ n1_;clear hb ho12))
    go_ret2
    exact ⟨_,by first|rfl|(simp [c2z,c1z] <;> rfl)|(simp [*,c2z,c1z] <;> rfl),by (with_reducible repeat (first|apply Kd.R_alloc|apply Kd.a4z|apply Kd.a5z));exact HO105.1,by repeat (first|(with_reducible first|exact HB.1|apply a3z|apply a1z|apply a2z)|exact HB.1)⟩
   ·replace c10:=Bool.eq_false_iff.mpr c10
    subst c10
    have H1 : ((spec_l2Spans.f kj2 l0).bind fun t106 => ((spec_l2Spans.f kj2 l1).bind fun t109 => ((spec_l2Both.f kj2 t106 t109).bind fun t112 => ((spec_l2Cover.f kj2 t112).bind fun t115 => ((spec_l2Room.f t115).bind fun bt118 => (some (bt118.1,bt118.2))))))) = some (r1,r2):=by rw [if_neg (show ¬ (false = true) by decide)] at H;exact H
    clear H
    have H:=H1
    clear H1
    replace H:=Option.bind_eq_some_iff.mp H
    obtain ⟨t106,A130,H⟩:=H
    replace H : ((spec_l2Spans.f kj2 l1).bind fun t109 => ((spec_l2Both.f kj2 t106 t109).bind fun t112 => ((spec_l2Cover.f kj2 t112).bind fun t115 => ((spec_l2Room.f t115).bind fun bt118 => (some (bt118.1,bt118.2)))))) = some (r1,r2):=H
    have A13:=a0z.mk A130
    clear A130
    replace H:=Option.bind_eq_some_iff.mp H
    obtain ⟨t109,A140,H⟩:=H
    replace H : ((spec_l2Both.f kj2 t106 t109).bind fun t112 => ((spec_l2Cover.f kj2 t112).bind fun t115 => ((spec_l2Room.f t115).bind fun bt118 => (some (bt118.1,bt118.2))))) = some (r1,r2):=H
    have A14:=a0z.mk A140
    clear A140
    replace H:=Option.bind_eq_some_iff.mp H
    obtain ⟨t112,A150,H⟩:=H
    replace H : ((spec_l2Cover.f kj2 t112).bind fun t115 => ((spec_l2Room.f t115).bind fun bt118 => (some (bt118.1,bt118.2)))) = some (r1,r2):=H
    have A15:=a0z.mk A150
    clear A150
    replace H:=Option.bind_eq_some_iff.mp H
    obtain ⟨t115,A160,H⟩:=H
    replace H : ((spec_l2Room.f t115).bind fun bt118 => (some (bt118.1,bt118.2))) = some (r1,r2):=H
    have A16:=a0z.mk A160
    clear A160
    replace H:=Option.bind_eq_some_iff.mp H
    obtain ⟨⟨t118,t121⟩,A170,H⟩:=H
    replace H : (some (t118,t121)) = some (r1,r2):=H
    have A17:=a0z.mk A170
    clear A170
    simp only [Option.some.injEq,Prod.mk.injEq] at H
    obtain ⟨rfl,rfl⟩:=H
    go_wp2_with (first|((with_reducible refine b8z (f:=35) rfl ?_);refine d2z (some 16) rfl rfl Try.func35 (by kernel_rfl) rfl #[.slice A0 l0.length c0] rfl (by (try simp only [List.map_toArray,List.map_cons,List.map_nil]);first|done|rfl|(simp only [List.length_drop,List.length_take];rfl)) ?_;(with_reducible refine (spec_l2Spans.calls kj2 _ _ l0 t106 _ ?side1 ?side2 A13.1).mono ?_);(case side1 => repeat (first|exact (Kd.f2z HR0.1 HB.1)|(with_reducible refine Kd.C_alloc ?_ _)|(with_reducible refine Kd.C_drewN ?_ _)|(with_reducible refine Kd.C_drew ?_)));(case side2 => exact HC0.1);rintro e w18 ⟨v107,rfl,ho0,hb⟩;refine ⟨_,rfl,?_⟩;have n0_:=a0z.mk (Kd.d5z ho0 (b1z (by repeat (first|(with_reducible first|exact HB.1|apply a3z|apply a1z|apply a2z)|exact HB.1))));have n1_:=a0z.mk (b3z (by repeat (first|(with_reducible first|exact HB.1|apply a3z|apply a1z|apply a2z)|exact HB.1)) hb);clear HB;have HO108:=n0_;have HB:=n1_;clear n0_ n1_;(try clear hb);(try clear hb2);(try clear hk);(try clear hi);(try clear ho0))|((with_reducible refine b8z (f:=35) rfl ?_);refine d2z (some 18) rfl rfl Try.func35 (by kernel_rfl) rfl #[.slice A1 l1.length c1] rfl (by (try simp only [List.map_toArray,List.map_cons,List.map_nil]);first|done|rfl|(simp only [List.length_drop,List.length_take];rfl)) ?_;(with_reducible refine (spec_l2Spans.calls kj2 _ _ l1 t109 _ ?side1 ?side2 A14.1).mono ?_);(case side1 => repeat (first|exact (Kd.f2z HR1.1 HB.1)|(with_reducible refine Kd.C_alloc ?_ _)|(with_reducible refine Kd.C_drewN ?_ _)|(with_reducible refine Kd.C_drew ?_)));(case side2 => exact HC1.1);rintro e w19 ⟨v110,rfl,ho0,hb⟩;refine ⟨_,rfl,?_⟩;have n0_:=a0z.mk (Kd.c4z (by (with_reducible repeat (first|apply Kd.R_alloc|apply Kd.a4z|apply Kd.a5z));exact HO108.1) (Kd.d1z ho0) hb);have n1_:=a0z.mk (Kd.d5z (Kd.d0z ho0 (Kd.R_lt (by (with_reducible repeat (first|apply Kd.R_alloc|apply Kd.a4z|apply Kd.a5z));exact HO108.1))) (b1z (by repeat (first|(with_reducible first|exact HB.1|apply a3z|apply a1z|apply a2z)|exact HB.1))));have n2_:=a0z.mk (b3z (by repeat (first|(with_reducible first|exact HB.1|apply a3z|apply a1z|apply a2z)|exact HB.1)) hb);clear HO108;clear HB;have HO108:=n0_;have HO111:=n1_;have HB:=n2_;clear n0_ n1_ n2_;(try clear hb);(try clear hb2);(try clear hk);(try clear hi);(try clear ho0);obtain ⟨Ao20,co20,eo20⟩:=Kd.d3z HO108.1;subst eo20;obtain ⟨Ao21,co21,eo21⟩:=Kd.d3z HO111.1;subst eo21)|((with_reducible refine b8z (f:=46) rfl ?_);refine d2z (some 19) rfl rfl Try.func46 (by kernel_rfl) rfl #[.slice Ao20 t106.length co20,.slice Ao21 t109.length co21] rfl (by (try simp only [List.map_toArray,List.map_cons,List.map_nil]);first|done|rfl|(simp only [List.length_drop,List.length_take];rfl)) ?_;(with_reducible refine (spec_l2Both.calls kj2 _ _ t106 _ _ t109 t112 _ ?side1 ?side2 ?side3 ?side4 A15.1).mono ?_);(case side1 => repeat (first|exact (Kd.b4z HO108.1).2.2|(with_reducible refine Kd.C_alloc ?_ _)|(with_reducible refine Kd.C_drewN ?_ _)|(with_reducible refine Kd.C_drew ?_)));(case side2 => exact (Kd.b4z HO108.1).2.1);(case side3 => repeat (first|exact (Kd.b4z HO111.1).2.2|(with_reducible refine Kd.C_alloc ?_ _)|(with_reducible refine Kd.C_drewN ?_ _)|(with_reducible refine Kd.C_drew ?_)));(case side4 => exact (Kd.b4z HO111.1).2.1);rintro e w22 ⟨v113,rfl,ho0,hb⟩;refine ⟨_,rfl,?_⟩;have n0_:=a0z.mk (Kd.c4z (by (with_reducible repeat (first|apply Kd.R_alloc|apply Kd.a4z|apply Kd.a5z));exact HO108.1) (Kd.d1z ho0) hb);have n1_:=a0z.mk (Kd.c4z (by (with_reducible repeat (first|apply Kd.R_alloc|apply Kd.a4z|apply Kd.a5z));exact HO111.1) (Kd.d1z ho0) hb);have n2_:=a0z.mk (Kd.d5z (Kd.d0z (Kd.d0z ho0 (Kd.R_lt (by (with_reducible repeat (first|apply Kd.R_alloc|apply Kd.a4z|apply Kd.a5z));exact HO108.1))) (Kd.R_lt (by (with_reducible repeat (first|apply Kd.R_alloc|apply Kd.a4z|apply Kd.a5z));exact HO111.1))) (b1z (by repeat (first|(with_reducible first|exact HB.1|apply a3z|apply a1z|apply a2z)|exact HB.1))));have n3_:=a0z.mk (b3z (by repeat (first|(with_reducible first|exact HB.1|apply a3z|apply a1z|apply a2z)|exact HB.1)) hb);clear HO108;clear HO111;clear HB;have HO108:=n0_;have HO111:=n1_;have HO114:=n2_;have HB:=n3_;clear n0_ n1_ n2_ n3_;(try clear hb);(try clear hb2);(try clear hk);(try clear hi);(try clear ho0);obtain ⟨Ao23,co23,eo23⟩:=Kd.d3z HO114.1;subst eo23)|((with_reducible refine b8z (f:=34) rfl ?_);refine d2z (some 20) rfl rfl Try.func34 (by kernel_rfl) rfl #[.slice Ao23 t112.length co23] rfl (by (try simp only [List.map_toArray,List.map_cons,List.map_nil]);first|done|rfl|(simp only [List.length_drop,List.length_take];rfl)) ?_;(with_reducible refine (spec_l2Cover.calls kj2 _ _ t112 t115 _ ?side1 ?side2 A16.1).mono ?_);(case side1 => repeat (first|exact (Kd.b4z HO114.1).2.2|(with_reducible refine Kd.C_alloc ?_ _)|(with_reducible refine Kd.C_drewN ?_ _)|(with_reducible refine Kd.C_drew ?_)));(case side2 => exact (Kd.b4z HO114.1).2.1);rintro e w24 ⟨v116,rfl,ho0,hb⟩;refine ⟨_,rfl,?_⟩;have n0_:=a0z.mk (Kd.c3z (by (with_reducible repeat (first|apply Kd.R_alloc|apply Kd.a4z|apply Kd.a5z));exact HO108.1) hb);have n1_:=a0z.mk (Kd.c3z (by (with_reducible repeat (first|apply Kd.R_alloc|apply Kd.a4z|apply Kd.a5z));exact HO111.1) hb);have n2_:=a0z.mk (Kd.c3z (by (with_reducible repeat (first|apply Kd.R_alloc|apply Kd.a4z|apply Kd.a5z));exact HO114.1) hb);have n3_:=a0z.mk (Kd.d5z ho0 (b1z (by repeat (first|(with_reducible first|exact HB.1|apply a3z|apply a1z|apply a2z)|exact HB.1))));have n4_:=a0z.mk (b3z (by repeat (first|(with_reducible first|exact HB.1|apply a3z|apply a1z|apply a2z)|exact HB.1)) hb);clear HO108;clear HO111;clear HO114;clear HB;have HO108:=n0_;have HO111:=n1_;have HO114:=n2_;have HO117:=n3_;have HB:=n4_;clear n0_ n1_ n2_ n3_ n4_;(try clear hb);(try clear hb2);(try clear hk);(try clear hi);(try clear ho0);obtain ⟨Ao25,co25,eo25⟩:=Kd.d3z HO117.1;subst eo25)|((with_reducible refine b8z (f:=42) rfl ?_);refine d2z (some 21) rfl rfl Try.func42 (by kernel_rfl) rfl #[.slice Ao25 t115.length co25] rfl (by (try simp only [List.map_toArray,List.map_cons,List.map_nil]);first|done|rfl|(simp only [List.length_drop,List.length_take];rfl)) ?_;(with_reducible refine (spec_l2Room.calls (fun k_ => some k_ = (.slice Ao25 t115.length co25 : Value).ownBlock) (.slice Ao25 t115.length co25) t115 t118 t121 w _ ?side1 ?side2 A17.1).mono ?_);(case side1 => repeat (first|(with_reducible first|exact HB.1|apply a3z|apply a1z|apply a2z)|exact HB.1));(case side2 => exact Kd.R_tight rfl HO117.1);rintro e w26 ⟨v119,rfl,ho0,hb,hkp⟩;refine ⟨_,rfl,?_⟩;have n0_:=a0z.mk (Kd.b5z (ok':=fun k_ => some k_ ≠ (.slice Ao21 t109.length co21 : Value).ownBlock ∧ some k_ ≠ (.slice Ao23 t112.length co23 : Value).ownBlock) (Kd.R_keptB ((Kd.i9z HO108.1 (Kd.R_typed HO117.1) (by decide))) hkp (fun k_ hk_ hs_ => (hk_.2) hs_)) (fun k_ hk_ => ⟨hk_.1.1.1.2,hk_.1.1.2⟩));have n1_:=a0z.mk (Kd.b5z (ok':=fun k_ => some k_ ≠ (.slice Ao20 t106.length co20 : Value).ownBlock ∧ some k_ ≠ (.slice Ao23 t112.length co23 : Value).ownBlock) (Kd.R_keptB ((Kd.i9z HO111.1 (Kd.R_typed HO117.1) (by decide))) hkp (fun k_ hk_ hs_ => (hk_.2) hs_)) (fun k_ hk_ => ⟨hk_.1.1.1.2,hk_.1.1.2⟩));have n2_:=a0z.mk (Kd.b5z (ok':=fun k_ => some k_ ≠ (.slice Ao20 t106.length co20 : Value).ownBlock ∧ some k_ ≠ (.slice Ao21 t109.length co21 : Value).ownBlock) (Kd.R_keptB ((Kd.i9z HO114.1 (Kd.R_typed HO117.1) (by decide))) hkp (fun k_ hk_ hs_ => (hk_.2) hs_)) (fun k_ hk_ => ⟨hk_.1.1.1.2,hk_.1.1.2⟩));have n3_:=a0z.mk (Kd.b5z (ok':=fun k_ => True) ho0 (fun k_ hk_ => trivial));have n4_:=a0z.mk (hb);clear HO108;clear HO111;clear HO114;clear HB;clear HO117;have HO108:=n0_;have HO111:=n1_;have HO114:=n2_;have HO120:=n3_;have HB:=n4_;clear n0_ n1_ n2_ n3_ n4_;(try clear hb);(try clear hkp);(try clear ho0)))
    go_ret2
    exact ⟨_,by first|rfl|(simp [c2z,c1z] <;> rfl)|(simp [*,c2z,c1z] <;> rfl),by (with_reducible repeat (first|apply Kd.R_alloc|apply Kd.a4z|apply Kd.a5z));exact HO120.1,by repeat (first|(with_reducible first|exact HB.1|apply a3z|apply a1z|apply a2z)|exact HB.1)⟩
end Go.Proofs.Ytmdhedkgpgoneaa.Q

namespace Go.Proofs.Ytmdhedkgpgoneaa.Q
open Go.RowKit Go.Proofs.YtmdhedkgpgoneaaW.PrintWords Go.Proofs.YtmdhedkgpgoneaaW.PrintLast Go.Proofs.YtmdhedkgpgoneaaW.PrintMore
attribute [local go_sem] e4z e2z e7z e6z d8z d7z e3z e1z
set_option linter.unusedVariables false
set_option linter.unusedSimpArgs false
mutual
def impl_SetBoth.j0 : Nat → List (S44) → List (S44) → Bool → Option ((List (S44)) × Bool)
 | 0,_,_,_ => none
 | k + 1,x0,x1,x19 => if x19 = true then (some (([] : List (S44)),false)) else ((impl_spans.f k x0).bind fun t103 => (impl_SetBoth.l0 k x1 ([] : List (S55)) t103 (t103.length : Int) 0))
def impl_SetBoth.l0 : Nat → List (S44) → List (S55) → List (S55) → Int → Int → Option ((List (S44)) × Bool)
 | 0,_,_,_,_,_ => none
 | k + 1,x1,x6,x21,x22,x23 => if x23 < x22 then (if 0 ≤ x23 then (if x23 < (x21.length : Int) then ((impl_spans.f k x1).bind fun t115 => (impl_SetBoth.l1 k x1 x6 x21 x22 x23 t115 (t115.length : Int) 0 ((b0z x21 x23).f0) ((b0z x21 x23).f1))) else (none)) else (none)) else ((impl_set.f k x6).bind fun t106 => ((impl_limited.f t106).bind fun bt109 => (some (bt109.1,bt109.2))))
def impl_SetBoth.l1 : Nat → List (S44) → List (S55) → List (S55) → Int → Int → List (S55) → Int → Int → Int → Int → Option ((List (S44)) × Bool)
 | 0,_,_,_,_,_,_,_,_,_,_ => none
 | k + 1,x1,x6,x21,x22,x23,x28,x29,x30,x115000,x115001 => if x30 < x29 then (if 0 ≤ x30 then (if x30 < (x28.length : Int) then (if (mx x115000 ((b0z x28 x30).f0)) ≤ (mn x115001 ((b0z x28 x30).f1)) then (if x6.length < 8796093022208 then (impl_SetBoth.l1 k x1 (x6 ++ [(⟨mx x115000 ((b0z x28 x30).f0),mn x115001 ((b0z x28 x30).f1)⟩ : S55)]) x21 x22 x23 x28 x29 (wrap64 (x30 + 1)) x115000 x115001) else (none)) else (impl_SetBoth.l1 k x1 x6 x21 x22 x23 x28 x29 (wrap64 (x30 + 1)) x115000 x115001)) else (none)) else (none)) else (impl_SetBoth.l0 k x1 x6 x21 x22 (wrap64 (x23 + 1)))
end
def impl_SetBoth.f (k : Nat) (l0 : List (S44)) (l1 : List (S44)) : Option ((List (S44)) × Bool):=(impl_SetOk.f k l0).bind fun t101 => (if t101 = true then ((impl_SetOk.f k l1).bind fun t102 => (impl_SetBoth.j0 k l0 l1 (!t102))) else (impl_SetBoth.j0 k l0 l1 true))
set_option maxHeartbeats 8000000 in
set_option maxRecDepth 100000 in
theorem impl_SetBoth.calls (k : Nat) (A0 : Option Addr) (c0 : Nat) (l0 : List (S44)) (A1 : Option Addr) (c1 : Nat) (l1 : List (S44)) (r1 : List (S44)) (r2 : Bool) (w : World) (hr0 : Kd.C k44 w A0 l0.length l0) (hc0 : l0.length ≤ c0) (hr1 : Kd.C k44 w A1 l1.length l1) (hc1 : l1.length ≤ c1) (h : impl_SetBoth.f k l0 l1 = some (r1,r2)) :
  Calls Try.prog 25 #[.slice A0 l0.length c0,.slice A1 l1.length c1] w fun e w' => ∃ v0_ : Value,e = .returned (.tuple #[v0_,.bool r2]) ∧ Kd.R k44 44 w' w.heap.size (fun _ => True) v0_ r1 ∧ Below w.heap.size w w':=by
 have hu55:=Try.underlying55
 have HR0:=a0z.mk hr0
 have HC0:=a0z.mk hc0
 clear hr0 hc0
 have HR1:=a0z.mk hr1
 have HC1:=a0z.mk hc1
 clear hr1 hc1
 have HB:=a0z.mk (Below.refl w.heap.size w)
 have H : ((impl_SetOk.f k l0).bind fun t101 => (if t101 = true then ((impl_SetOk.f k l1).bind fun t102 => (impl_SetBoth.j0 k l0 l1 (!t102))) else (impl_SetBoth.j0 k l0 l1 true))) = some (r1,r2):=h
 clear h
 have HC3:=a0z.mk H
 clear H
 go_enter Try.func25,Try.ntmps25
 go_upto_region 1 with (fail)
 go_cut [19] (fun v19 wc => ∃ (kq : Nat) (x19_2 : Bool),v19 = .bool x19_2 ∧ a0z (impl_SetBoth.j0 kq l0 l1 x19_2 = some (r1,r2)) ∧ a0z (kq ≤ k) ∧ a0z (Below w.heap.size w wc))
 case first =>
  have H:=HC3.1
  clear HC3
  replace H:=Option.bind_eq_some_iff.mp H
  obtain ⟨t101,A40,H⟩:=H
  replace H : (if t101 = true then ((impl_SetOk.f k l1).bind fun t102 => (impl_SetBoth.j0 k l0 l1 (!t102))) else (impl_SetBoth.j0 k l0 l1 true)) = some (r1,r2):=H
  have A4:=a0z.mk A40
  clear A40
  by_cases c5 : t101 = true
  ·subst c5
   have H1 : ((impl_SetOk.f k l1).bind fun t102 => (impl_SetBoth.j0 k l0 l1 (!t102))) = some (r1,r2):=by rw [if_pos rfl] at H;exact H
   clear H
   have H:=H1
   clear H1
   replace H:=Option.bind_eq_some_iff.mp H
   obtain ⟨t102,A60,H⟩:=H
   replace H : (impl_SetBoth.j0 k l0 l1 (!t102)) = some (r1,r2):=H
   have A6:=a0z.mk A60
   clear A60
   have H':=a0z.mk H
   clear H
   go_wp2_with (first|((with_reducible refine b8z (f:=16) rfl ?_);refine d2z (some 13) rfl rfl Try.func16 (by kernel_rfl) rfl #[.slice A0 l0.length c0] rfl (by (try simp only [List.map_toArray,List.map_cons,List.map_nil]);first|done|rfl|(simp only [List.length_drop,List.length_take];rfl)) ?_;(with_reducible refine (impl_SetOk.calls k _ _ l0 true _ ?side1 ?side2 A4.1).mono ?_);(case side1 => repeat (first|exact (Kd.f2z HR0.1 HB.1)|(with_reducible refine Kd.C_alloc ?_ _)|(with_reducible refine Kd.C_drewN ?_ _)|(with_reducible refine Kd.C_drew ?_)));(case side2 => exact HC0.1);rintro e w7 ⟨rfl,hb⟩;refine ⟨_,rfl,?_⟩;have n0_:=a0z.mk (b3z (by repeat (first|(with_reducible first|exact HB.1|apply a3z|apply a1z|apply a2z)|exact HB.1)) hb);clear HB;have HB:=n0_;clear n0_;(try clear hb);(try clear hb2);(try clear hk);(try clear hi))|(go_at_call 16;(with_reducible refine (impl_SetOk.calls k _ _ l1 t102 _ ?side1 ?side2 A6.1).mono ?_);(case side1 => repeat (first|exact (Kd.f2z HR1.1 HB.1)|(with_reducible refine Kd.C_alloc ?_ _)|(with_reducible refine Kd.C_drewN ?_ _)|(with_reducible refine Kd.C_drew ?_)));(case side2 => exact HC1.1);rintro e w8 ⟨rfl,hb⟩;have n0_:=a0z.mk (b3z (by repeat (first|(with_reducible first|exact HB.1|apply a3z|apply a1z|apply a2z)|exact HB.1)) hb);clear HB;have HB:=n0_;clear n0_;(try clear hb);(try clear hb2);(try clear hk);(try clear hi)))
   go_meet
   case rel => exact ⟨_,(!t102),(by first|rfl|(simp;done)|(simp [*];done)),H',⟨by first|omega|exact Nat.le_refl _⟩,⟨by repeat (first|(with_reducible first|exact HB.1|apply a3z|apply a1z|apply a2z)|exact HB.1)⟩⟩
  ·replace c5:=Bool.eq_false_iff.mpr c5
   subst c5
   have H1 : (impl_SetBoth.j0 k l0 l1 true) = some (r1,r2):=by rw [if_neg (show ¬ (false = true) by decide)] at H;exact H
   clear H
   have H:=H1
   clear H1
   have H':=a0z.mk H
   clear H
   go_wp2_with (first|((with_reducible refine b8z (f:=16) rfl ?_);refine d2z (some 13) rfl rfl Try.func16 (by kernel_rfl) rfl #[.slice A0 l0.length c0] rfl (by (try simp only [List.map_toArray,List.map_cons,List.map_nil]);first|done|rfl|(simp only [List.length_drop,List.length_take];rfl)) ?_;(with_reducible refine (impl_SetOk.calls k _ _ l0 false _ ?side1 ?side2 A4.1).mono ?_);(case side1 => repeat (first|exact (Kd.f2z HR0.1 HB.1)|(with_reducible refine Kd.C_alloc ?_ _)|(with_reducible refine Kd.C_drewN ?_ _)|(with_reducible refine Kd.C_drew ?_)));(case side2 => exact HC0.1);rintro e w9 ⟨rfl,hb⟩;refine ⟨_,rfl,?_⟩;have n0_:=a0z.mk (b3z (by repeat (first|(with_reducible first|exact HB.1|apply a3z|apply a1z|apply a2z)|exact HB.1)) hb);clear HB;have HB:=n0_;clear n0_;(try clear hb);(try clear hb2);(try clear hk);(try clear hi)))
   go_meet
   case rel => exact ⟨_,(true),(by first|rfl|(simp;done)|(simp [*];done)),H',⟨by first|omega|exact Nat.le_refl _⟩,⟨by repeat (first|(with_reducible first|exact HB.1|apply a3z|apply a1z|apply a2z)|exact HB.1)⟩⟩
 case rest =>
  clear HC3
  try clear c1
  try clear c2
  try clear p2
  try clear c5
  obtain ⟨kq,x19_2,rfl,HA,HJ2,HB⟩:=hcut
  cases kq with
  | zero => exact absurd HA.1 (by simp [impl_SetBoth.j0])
  | succ kj2 =>
   have H:=HA.1
   clear HA
   simp only [impl_SetBoth.j0] at H
   by_cases c10 : x19_2 = true
   ·subst c10
    have H1 : (some (([] : List (S44)),false)) = some (r1,r2):=by rw [if_pos rfl] at H;exact H
    clear H
    have H:=H1
    clear H1
    simp only [Option.some.injEq,Prod.mk.injEq] at H
    obtain ⟨rfl,rfl⟩:=H
    go_wp2
    go_ret2
    exact ⟨_,by first|rfl|(simp [c2z,c1z] <;> rfl)|(simp [*,c2z,c1z] <;> rfl),by first|exact Kd.R_nil _ _ _ _ _|exact Kd.N_nil _ _ _ _ _|exact Kd.V_nil _ _ _ _ _|exact Kd.Q_nil _ _ _ _ _|exact Kd.S_nil _ _ _ _ _,by repeat (first|(with_reducible first|exact HB.1|apply a3z|apply a1z|apply a2z)|exact HB.1)⟩
   ·replace c10:=Bool.eq_false_iff.mpr c10
    subst c10
    have H1 : ((impl_spans.f kj2 l0).bind fun t103 => (impl_SetBoth.l0 kj2 l1 ([] : List (S55)) t103 (t103.length : Int) 0)) = some (r1,r2):=by rw [if_neg (show ¬ (false = true) by decide)] at H;exact H
    clear H
    have H:=H1
    clear H1
    replace H:=Option.bind_eq_some_iff.mp H
    obtain ⟨t103,A110,H⟩:=H
    replace H : (impl_SetBoth.l0 kj2 l1 ([] : List (S55)) t103 (t103.length : Int) 0) = some (r1,r2):=H
    have A11:=a0z.mk A110
    clear A110
    have H':=a0z.mk H
    clear H
    go_wp2_with (first|((with_reducible refine b8z (f:=40) rfl ?_);refine d2z (some 21) rfl rfl Try.func40 (by kernel_rfl) rfl #[.slice A0 l0.length c0] rfl (by (try simp only [List.map_toArray,List.map_cons,List.map_nil]);first|done|rfl|(simp only [List.length_drop,List.length_take];rfl)) ?_;(with_reducible refine (impl_spans.calls kj2 _ _ l0 t103 _ ?side1 ?side2 A11.1).mono ?_);(case side1 => repeat (first|exact (Kd.f2z HR0.1 HB.1)|(with_reducible refine Kd.C_alloc ?_ _)|(with_reducible refine Kd.C_drewN ?_ _)|(with_reducible refine Kd.C_drew ?_)));(case side2 => exact HC0.1);rintro e w12 ⟨v104,rfl,ho0,hb⟩;refine ⟨_,rfl,?_⟩;have n0_:=a0z.mk (Kd.d5z ho0 (b1z (by repeat (first|(with_reducible first|exact HB.1|apply a3z|apply a1z|apply a2z)|exact HB.1))));have n1_:=a0z.mk (b3z (by repeat (first|(with_reducible first|exact HB.1|apply a3z|apply a1z|apply a2z)|exact HB.1)) hb);clear HB;have HO105:=n0_;have HB:=n1_;clear n0_ n1_;(try clear hb);(try clear hb2);(try clear hk);(try clear hi);(try clear ho0);obtain ⟨Ao13,co13,eo13⟩:=Kd.d3z HO105.1;subst eo13))
    go_loopg [6,23] kj2 (fun kq v6 v23 w' => ∃ (x6_2 : List (S55)) (x23_2 : Int),v23 = .int .i64 x23_2 ∧ a0z (impl_SetBoth.l0 kq l1 x6_2 t103 (t103.length : Int) x23_2 = some (r1,r2)) ∧ a0z (kq ≤ kj2) ∧ a0z (Kd.R k55 55 w' w.heap.size (fun k_ => some k_ ≠ ((.slice Ao13 t103.length co13) : Value).ownBlock) v6 x6_2) ∧ a0z (Kd.R k55 55 w' w.heap.size (fun k_ => some k_ ≠ (v6 : Value).ownBlock) (.slice Ao13 t103.length co13) t103) ∧ a0z (Below w.heap.size w w'))
    case atStart => exact ⟨(([] : List (S55))),(0),(by first|rfl|(simp;done)|(simp [*];done)),H',⟨Nat.le_refl _⟩,⟨by first|exact Kd.R_nil _ _ _ _ _|exact Kd.N_nil _ _ _ _ _|exact Kd.V_nil _ _ _ _ _|exact Kd.Q_nil _ _ _ _ _|exact Kd.S_nil _ _ _ _ _⟩,⟨by (with_reducible repeat (first|apply Kd.R_alloc|apply Kd.a4z|apply Kd.a5z));exact Kd.b5z HO105.1 (fun _ hk => (by simp [Value.ownBlock]))⟩,⟨by repeat (first|(with_reducible first|exact HB.1|apply a3z|apply a1z|apply a2z)|exact HB.1)⟩⟩
    case round =>
     clear H'
     try clear c1
     try clear c2
     try clear p2
     try clear c4
     try clear c5
     try clear c10
     try clear p2
     obtain ⟨x6_2,x23_2,rfl,HA,HK2,HO_6,HO_21,HB⟩:=hrel
     cases gk with
     | zero => exact absurd HA.1 (by simp [impl_SetBoth.l0])
     | succ k2 =>
      have H:=HA.1
      clear HA
      simp only [impl_SetBoth.l0] at H
      by_cases c14 : x23_2 < (t103.length : Int)
      ·rw [if_pos c14] at H
       have c14b0 : decide (x23_2 < (t103.length : Int)) = true:=decide_eq_true c14
       clear c14
       by_cases c15 : 0 ≤ x23_2
       ·rw [if_pos c15] at H
        have c15b0 : decide (0 ≤ x23_2) = true:=decide_eq_true c15
        clear c15
        by_cases c16 : x23_2 < (t103.length : Int)
        ·rw [if_pos c16] at H
         have c16b0 : decide (x23_2 < (t103.length : Int)) = true:=decide_eq_true c16
         clear c16
         replace H:=Option.bind_eq_some_iff.mp H
         obtain ⟨t115,A170,H⟩:=H
         replace H : (impl_SetBoth.l1 k2 l1 x6_2 t103 (t103.length : Int) x23_2 t115 (t115.length : Int) 0 ((b0z t103 x23_2).f0) ((b0z t103 x23_2).f1)) = some (r1,r2):=H
         have A17:=a0z.mk A170
         clear A170
         have H':=a0z.mk H
         clear H
         have p113 : 0 ≤ (x23_2 : Int):=of_decide_eq_true (by first|(with_reducible assumption)|assumption)
         have q113 : x23_2 < (t103.length : Int):=of_decide_eq_true (by first|(with_reducible assumption)|assumption)
         obtain ⟨ad113,e113,hx113_0,hx113_1⟩:=i8z (Kd.b4z HO_21.1).2.2 x23_2 p113 q113
         cases e113
         replace p113:=eq_true p113
         replace q113:=eq_true q113
         go_wp2_with (first|((with_reducible refine d4z (N:=8) rfl ?_);refine e0z ?hg (N:=8) ?hd (cs:=#[.int .i64 0,.int .i64 0]) (t:=55) ?hr ?_;(case hd => rfl);(case hg => rfl);(case hr => first|(go_simp;done)|(go_simp;rfl));intro gb114 hg w18 hbox hb;have n0_:=a0z.mk (Kd.c3z (Kd.f4z (by (with_reducible repeat (first|apply Kd.R_alloc|apply Kd.a4z|apply Kd.a5z));exact HO_6.1) gb114 (Nat.le_of_eq hg.symm)) hb);have n1_:=a0z.mk (Kd.c3z (Kd.f4z (by (with_reducible repeat (first|apply Kd.R_alloc|apply Kd.a4z|apply Kd.a5z));exact HO_21.1) gb114 (Nat.le_of_eq hg.symm)) hb);have n2_:=a0z.mk (b3z (by repeat (first|(with_reducible first|exact HB.1|apply a3z|apply a1z|apply a2z)|exact HB.1)) hb);have n3_:=a0z.mk (hbox);have n4_:=a0z.mk ((by rw [hg];exact (b1z (by repeat (first|(with_reducible first|exact HB.1|apply a3z|apply a1z|apply a2z)|exact HB.1))) : w.heap.size ≤ gb114));have n5_:=a0z.mk ((by rw [hg];exact (b1z (by repeat (first|(with_reducible first|exact HB.1|apply a3z|apply a1z|apply a2z)|exact HB.1))) : w.heap.size ≤ gb114));clear HO_6;clear HO_21;clear HB;have HO_6:=n0_;have HO_21:=n1_;have HB:=n2_;have BK114:=n3_;have GW114:=n4_;have GE114:=n5_;clear n0_ n1_ n2_ n3_ n4_ n5_;clear hb hbox hg;have hcz19_0 : w18.cell? ⟨gb114,0,none⟩ = some (.int .i64 0):=(b2z BK114.1 0).trans rfl;have hcz19_1 : w18.cell? ⟨gb114,1,none⟩ = some (.int .i64 0):=(b2z BK114.1 1).trans rfl;have hfz19_0:=b7z BK114.1 0;have hfz19_1:=b7z BK114.1 1)|((with_reducible refine b8z (f:=40) rfl ?_);refine d2z (some 28) rfl rfl Try.func40 (by kernel_rfl) rfl #[.slice A1 l1.length c1] rfl (by (try simp only [List.map_toArray,List.map_cons,List.map_nil]);first|done|rfl|(simp only [List.length_drop,List.length_take];rfl)) ?_;(with_reducible refine (impl_spans.calls k2 _ _ l1 t115 _ ?side1 ?side2 A17.1).mono ?_);(case side1 => exact Kd.f2z HR1.1 (by repeat (first|(with_reducible first|exact HB.1|apply a3z|apply a1z|apply a2z|refine a6z ?_ GE114.1)|exact HB.1)));(case side2 => exact HC1.1);rintro e w20 ⟨v116,rfl,ho0,hb⟩;refine ⟨_,rfl,?_⟩;have n0_:=a0z.mk (Kd.c4z (by (with_reducible repeat (first|apply Kd.R_alloc|apply Kd.a4z|apply Kd.a5z));exact (Kd.b5z (Kd.R_far (p:=⟨gb114,1,none⟩) (Kd.R_far (p:=⟨gb114,0,none⟩) (Kd.b5z HO_6.1 (fun k_ hk => (⟨hk,hk.2⟩ : _ ∧ k_ ≠ gb114))) (fun _ hk => hk.2) (.int .i64 ((b0z t103 x23_2).f0))) (fun _ hk => hk.2) (.int .i64 ((b0z t103 x23_2).f1))) (fun _ h_ => h_.1))) (Kd.d1z ho0) hb);have n1_:=a0z.mk (Kd.c4z (by (with_reducible repeat (first|apply Kd.R_alloc|apply Kd.a4z|apply Kd.a5z));exact (Kd.b5z (Kd.R_far (p:=⟨gb114,1,none⟩) (Kd.R_far (p:=⟨gb114,0,none⟩) (Kd.b5z HO_21.1 (fun k_ hk => (⟨hk,hk.2⟩ : _ ∧ k_ ≠ gb114))) (fun _ hk => hk.2) (.int .i64 ((b0z t103 x23_2).f0))) (fun _ hk => hk.2) (.int .i64 ((b0z t103 x23_2).f1))) (fun _ h_ => h_.1))) (Kd.d1z ho0) hb);have n2_:=a0z.mk (Kd.d5z (Kd.R_newB (Kd.d0z (Kd.d0z ho0 (Kd.R_lt (by (with_reducible repeat (first|apply Kd.R_alloc|apply Kd.a4z|apply Kd.a5z));exact (Kd.b5z (Kd.R_far (p:=⟨gb114,1,none⟩) (Kd.R_far (p:=⟨gb114,0,none⟩) (Kd.b5z HO_6.1 (fun k_ hk => (⟨hk,hk.2⟩ : _ ∧ k_ ≠ gb114))) (fun _ hk => hk.2) (.int .i64 ((b0z t103 x23_2).f0))) (fun _ hk => hk.2) (.int .i64 ((b0z t103 x23_2).f1))) (fun _ h_ => h_.1))))) (Kd.R_lt (by (with_reducible repeat (first|apply Kd.R_alloc|apply Kd.a4z|apply Kd.a5z));exact (Kd.b5z (Kd.R_far (p:=⟨gb114,1,none⟩) (Kd.R_far (p:=⟨gb114,0,none⟩) (Kd.b5z HO_21.1 (fun k_ hk => (⟨hk,hk.2⟩ : _ ∧ k_ ≠ gb114))) (fun _ hk => hk.2) (.int .i64 ((b0z t103 x23_2).f0))) (fun _ hk => hk.2) (.int .i64 ((b0z t103 x23_2).f1))) (fun _ h_ => h_.1))))) (g:=gb114) (o:=.cells #[.int .i64 ((b0z t103 x23_2).f0),.int .i64 ((b0z t103 x23_2).f1)] 55 (0,0)) (by (with_reducible repeat (first|refine a8z ?_ _|refine a9z ?_|refine a7z ?_ _));refine d6z (cs:=#[.int .i64 ((b0z t103 x23_2).f0),.int .i64 0]) ?_ 1 _ rfl;(with_reducible repeat (first|refine a8z ?_ _|refine a9z ?_|refine a7z ?_ _));refine d6z (cs:=#[.int .i64 0,.int .i64 0]) ?_ 0 _ rfl;(with_reducible repeat (first|refine a8z ?_ _|refine a9z ?_|refine a7z ?_ _));exact BK114.1)) (b1z (by repeat (first|(with_reducible first|exact HB.1|apply a3z|apply a1z|apply a2z|refine a6z ?_ GE114.1)|exact HB.1))));have n3_:=a0z.mk (d9z (g:=gb114) (o:=.cells #[.int .i64 ((b0z t103 x23_2).f0),.int .i64 ((b0z t103 x23_2).f1)] 55 (0,0)) (by (with_reducible repeat (first|refine a8z ?_ _|refine a9z ?_|refine a7z ?_ _));refine d6z (cs:=#[.int .i64 ((b0z t103 x23_2).f0),.int .i64 0]) ?_ 1 _ rfl;(with_reducible repeat (first|refine a8z ?_ _|refine a9z ?_|refine a7z ?_ _));refine d6z (cs:=#[.int .i64 0,.int .i64 0]) ?_ 0 _ rfl;(with_reducible repeat (first|refine a8z ?_ _|refine a9z ?_|refine a7z ?_ _));exact BK114.1) hb);have n4_:=a0z.mk (b3z (by repeat (first|(with_reducible first|exact HB.1|apply a3z|apply a1z|apply a2z|refine a6z ?_ GE114.1)|exact HB.1)) hb);clear HO_6;clear HO_21;clear BK114;clear HB;have HO_6:=n0_;have HO_21:=n1_;have HO117:=n2_;have BK114:=n3_;have HB:=n4_;clear n0_ n1_ n2_ n3_ n4_;(try clear hb);(try clear hb2);(try clear hk);(try clear hi);(try clear ho0);obtain ⟨Ao21,co21,eo21⟩:=Kd.d3z HO117.1;subst eo21))
         go_loopg [6,30] k2 (fun kq v6 v30 w' => ∃ (x6_3 : List (S55)) (x30_3 : Int),v30 = .int .i64 x30_3 ∧ a0z (impl_SetBoth.l1 kq l1 x6_3 t103 (t103.length : Int) x23_2 t115 (t115.length : Int) x30_3 ((b0z t103 x23_2).f0) ((b0z t103 x23_2).f1) = some (r1,r2)) ∧ a0z (kq ≤ k2) ∧ a0z (Kd.R k55 55 w' w.heap.size (fun k_ => some k_ ≠ ((.slice (some ad113) t103.length co13) : Value).ownBlock ∧ some k_ ≠ ((.slice Ao21 t115.length co21) : Value).ownBlock ∧ k_ ≠ gb114) v6 x6_3) ∧ a0z (Kd.R k55 55 w' w.heap.size (fun k_ => some k_ ≠ (v6 : Value).ownBlock ∧ some k_ ≠ ((.slice Ao21 t115.length co21) : Value).ownBlock ∧ k_ ≠ gb114) (.slice (some ad113) t103.length co13) t103) ∧ a0z (Kd.R k55 55 w' w.heap.size (fun k_ => some k_ ≠ (v6 : Value).ownBlock ∧ some k_ ≠ ((.slice (some ad113) t103.length co13) : Value).ownBlock ∧ k_ ≠ gb114) (.slice Ao21 t115.length co21) t115) ∧ a0z (w'.heap[gb114]? = some (.cells #[.int .i64 ((b0z t103 x23_2).f0),.int .i64 ((b0z t103 x23_2).f1)] 55 (0,0))) ∧ a0z (Below w.heap.size w w'))
         case atStart => exact ⟨(x6_2),(0),(by first|rfl|(simp;done)|(simp [*];done)),H',⟨Nat.le_refl _⟩,⟨by (with_reducible repeat (first|apply Kd.R_alloc|apply Kd.a4z|apply Kd.a5z));exact Kd.b5z HO_6.1 (fun _ hk => ⟨hk.1.1,⟨hk.2,hk.1.2⟩⟩)⟩,⟨by (with_reducible repeat (first|apply Kd.R_alloc|apply Kd.a4z|apply Kd.a5z));exact Kd.b5z HO_21.1 (fun _ hk => ⟨hk.1.1,⟨hk.2,hk.1.2⟩⟩)⟩,⟨by (with_reducible repeat (first|apply Kd.R_alloc|apply Kd.a4z|apply Kd.a5z));exact Kd.b5z HO117.1 (fun _ hk => ⟨hk.1.1.2,⟨hk.1.2,hk.2⟩⟩)⟩,⟨by (with_reducible repeat (first|refine a8z ?_ _|refine a9z ?_|refine a7z ?_ _));exact BK114.1⟩,⟨by repeat (first|(with_reducible first|exact HB.1|apply a3z|apply a1z|apply a2z|refine a6z ?_ GE114.1)|exact HB.1)⟩⟩
         case round =>
          clear H'
          try clear c1
          try clear p1
          try clear q1
          try clear hx1
          try clear c2
          try clear p2
          try clear c4
          try clear c5
          try clear c10
          try clear p11
          try clear q11
          try clear hx11
          try clear c14
          try clear c14b0
          try clear c15
          try clear c15b0
          try clear c16
          try clear c16b0
          try clear hcz19_0
          try clear hcz19_1
          try clear hfz19_0
          try clear hfz19_1
          try clear hx113_0
          try clear hx113_1
          try clear p113
          try clear p2
          try clear q113
          obtain ⟨x6_3,x30_3,rfl,HA,HK3,HO_6,HO_21,HO_28,BK114,HB⟩:=hrel
          cases gk with
          | zero => exact absurd HA.1 (by simp [impl_SetBoth.l1])
          | succ k3 =>
           have H:=HA.1
           clear HA
           simp only [impl_SetBoth.l1] at H
           by_cases c22 : x30_3 < (t115.length : Int)
           ·rw [if_pos c22] at H
            have c22b0 : decide (x30_3 < (t115.length : Int)) = true:=decide_eq_true c22
            clear c22
            by_cases c23 : 0 ≤ x30_3
            ·rw [if_pos c23] at H
             have c23b0 : decide (0 ≤ x30_3) = true:=decide_eq_true c23
             clear c23
             by_cases c24 : x30_3 < (t115.length : Int)
             ·rw [if_pos c24] at H
              have c24b0 : decide (x30_3 < (t115.length : Int)) = true:=decide_eq_true c24
              clear c24
              obtain ⟨ji25,hji25⟩ : ∃ j_ : Int,(mx ((b0z t103 x23_2).f0) ((b0z t115 x30_3).f0)) = j_:=⟨_,rfl⟩
              replace H : (if (ji25) ≤ (mn ((b0z t103 x23_2).f1) ((b0z t115 x30_3).f1)) then (if x6_3.length < 8796093022208 then (impl_SetBoth.l1 k3 l1 (x6_3 ++ [(⟨ji25,mn ((b0z t103 x23_2).f1) ((b0z t115 x30_3).f1)⟩ : S55)]) t103 (t103.length : Int) x23_2 t115 (t115.length : Int) (wrap64 (x30_3 + 1)) ((b0z t103 x23_2).f0) ((b0z t103 x23_2).f1)) else (none)) else (impl_SetBoth.l1 k3 l1 x6_3 t103 (t103.length : Int) x23_2 t115 (t115.length : Int) (wrap64 (x30_3 + 1)) ((b0z t103 x23_2).f0) ((b0z t103 x23_2).f1))) = some (r1,r2):=by first|(rw [hji25] at H;exact H)|(simp only [hji25] at H ⊢;exact H)
              have hji25_ : (if ((b0z t103 x23_2).f0) < ((b0z t115 x30_3).f0) then ((b0z t115 x30_3).f0) else ((b0z t103 x23_2).f0)) = ji25:=hji25
              obtain ⟨ji26,hji26⟩ : ∃ j_ : Int,(mn ((b0z t103 x23_2).f1) ((b0z t115 x30_3).f1)) = j_:=⟨_,rfl⟩
              replace H : (if (ji25) ≤ (ji26) then (if x6_3.length < 8796093022208 then (impl_SetBoth.l1 k3 l1 (x6_3 ++ [(⟨ji25,ji26⟩ : S55)]) t103 (t103.length : Int) x23_2 t115 (t115.length : Int) (wrap64 (x30_3 + 1)) ((b0z t103 x23_2).f0) ((b0z t103 x23_2).f1)) else (none)) else (impl_SetBoth.l1 k3 l1 x6_3 t103 (t103.length : Int) x23_2 t115 (t115.length : Int) (wrap64 (x30_3 + 1)) ((b0z t103 x23_2).f0) ((b0z t103 x23_2).f1))) = some (r1,r2):=by first|(rw [hji26] at H;exact H)|(simp only [hji26] at H ⊢;exact H)
              have hji26_ : (if ((b0z t115 x30_3).f1) < ((b0z t103 x23_2).f1) then ((b0z t115 x30_3).f1) else ((b0z t103 x23_2).f1)) = ji26:=hji26
              by_cases c27 : (ji25) ≤ (ji26)
              ·rw [if_pos c27] at H
               have c27b0 : decide ((ji25) ≤ (ji26)) = true:=decide_eq_true c27
               clear c27
               by_cases c28 : x6_3.length < 8796093022208
               ·rw [if_pos c28] at H
                have LMc28:=a0z.mk c28
                clear c28
                obtain ⟨y121,hy121⟩ : ∃ y_ : List (S55),y_ = (x6_3 ++ [(⟨ji25,ji26⟩ : S55)]):=⟨_,rfl⟩
                replace H : (impl_SetBoth.l1 k3 l1 y121 t103 (t103.length : Int) x23_2 t115 (t115.length : Int) (wrap64 (x30_3 + 1)) ((b0z t103 x23_2).f0) ((b0z t103 x23_2).f1)) = some (r1,r2):=by first|(rw [hy121];with_reducible exact H)|(have H2_:=(Option.bind_some _ _).symm.trans H;rw [hy121];with_reducible exact H2_)|(have H2_:=(Option.bind_some _ _).symm.trans H;with_reducible exact H2_)|with_reducible exact H|(rw [hy121];exact H)|exact H
                have Ny121:=a0z.mk hy121
                clear hy121
                have H':=a0z.mk H
                clear H
                have p118 : 0 ≤ (x30_3 : Int):=of_decide_eq_true (by first|(with_reducible assumption)|assumption)
                have q118 : x30_3 < (t115.length : Int):=of_decide_eq_true (by first|(with_reducible assumption)|assumption)
                obtain ⟨ad118,e118,hx118_0,hx118_1⟩:=i8z (Kd.b4z HO_28.1).2.2 x30_3 p118 q118
                cases e118
                replace p118:=eq_true p118
                replace q118:=eq_true q118
                go_wp2_with (first|((with_reducible refine d4z (N:=10) rfl ?_);refine e0z ?hg (N:=10) ?hd (cs:=#[.int .i64 0,.int .i64 0]) (t:=55) ?hr ?_;(case hd => rfl);(case hg => rfl);(case hr => first|(go_simp;done)|(go_simp;rfl));intro gb119 hg w29 hbox hb;have n0_:=a0z.mk (Kd.c3z (Kd.f4z (by (with_reducible repeat (first|apply Kd.R_alloc|apply Kd.a4z|apply Kd.a5z));exact HO_6.1) gb119 (Nat.le_of_eq hg.symm)) hb);have n1_:=a0z.mk (Kd.c3z (Kd.f4z (by (with_reducible repeat (first|apply Kd.R_alloc|apply Kd.a4z|apply Kd.a5z));exact HO_21.1) gb119 (Nat.le_of_eq hg.symm)) hb);have n2_:=a0z.mk (Kd.c3z (Kd.f4z (by (with_reducible repeat (first|apply Kd.R_alloc|apply Kd.a4z|apply Kd.a5z));exact HO_28.1) gb119 (Nat.le_of_eq hg.symm)) hb);have n3_:=a0z.mk (d9z (g:=gb114) (o:=.cells #[.int .i64 ((b0z t103 x23_2).f0),.int .i64 ((b0z t103 x23_2).f1)] 55 (0,0)) (by (with_reducible repeat (first|refine a8z ?_ _|refine a9z ?_|refine a7z ?_ _));exact BK114.1) hb);have n4_:=a0z.mk (b3z (by repeat (first|(with_reducible first|exact HB.1|apply a3z|apply a1z|apply a2z|refine a6z ?_ GE114.1)|exact HB.1)) hb);have n5_:=a0z.mk (hbox);have n6_:=a0z.mk ((by rw [hg];exact (b1z (by repeat (first|(with_reducible first|exact HB.1|apply a3z|apply a1z|apply a2z|refine a6z ?_ GE114.1)|exact HB.1))) : w.heap.size ≤ gb119));have n7_:=a0z.mk ((by rw [hg];exact (b1z (by repeat (first|(with_reducible first|exact HB.1|apply a3z|apply a1z|apply a2z|refine a6z ?_ GE114.1)|exact HB.1))) : w.heap.size ≤ gb119));have n8_:=a0z.mk ((by rw [hg];exact Nat.ne_of_lt (g7z (g:=gb114) (o:=.cells #[.int .i64 ((b0z t103 x23_2).f0),.int .i64 ((b0z t103 x23_2).f1)] 55 (0,0)) (by (with_reducible repeat (first|refine a8z ?_ _|refine a9z ?_|refine a7z ?_ _));exact BK114.1)) : gb114 ≠ gb119));have n9_:=a0z.mk ((by rw [hg];exact Nat.ne_of_gt (g7z (g:=gb114) (o:=.cells #[.int .i64 ((b0z t103 x23_2).f0),.int .i64 ((b0z t103 x23_2).f1)] 55 (0,0)) (by (with_reducible repeat (first|refine a8z ?_ _|refine a9z ?_|refine a7z ?_ _));exact BK114.1)) : gb119 ≠ gb114));clear HO_6;clear HO_21;clear HO_28;clear BK114;clear HB;have HO_6:=n0_;have HO_21:=n1_;have HO_28:=n2_;have BK114:=n3_;have HB:=n4_;have BK119:=n5_;have GW119:=n6_;have GE119:=n7_;have NB114_119:=n8_;have NB119_114:=n9_;clear n0_ n1_ n2_ n3_ n4_ n5_ n6_ n7_ n8_ n9_;clear hb hbox hg;have hnb30:=NB119_114.1;have hnc30:=NB114_119.1;have hcz31_0 : w29.cell? ⟨gb119,0,none⟩ = some (.int .i64 0):=(b2z BK119.1 0).trans rfl;have hcz31_1 : w29.cell? ⟨gb119,1,none⟩ = some (.int .i64 0):=(b2z BK119.1 1).trans rfl;have hfz31_0:=b7z BK119.1 0;have hfz31_1:=b7z BK119.1 1;have hcz32_0 : w29.cell? ⟨gb114,0,none⟩ = some (.int .i64 ((b0z t103 x23_2).f0)):=(b2z BK114.1 0).trans rfl;have hcz32_1 : w29.cell? ⟨gb114,1,none⟩ = some (.int .i64 ((b0z t103 x23_2).f1)):=(b2z BK114.1 1).trans rfl;have hfz32_0:=b7z BK114.1 0;have hfz32_1:=b7z BK114.1 1)|((with_reducible refine d4z (N:=11) rfl ?_);refine e0z ?hg (N:=11) ?hd (cs:=#[.int .i64 0,.int .i64 0]) (t:=55) ?hr ?_;(case hd => rfl);(case hg => rfl);(case hr => first|(go_simp;done)|(go_simp;rfl));intro gb120 hg w33 hbox hb;have n0_:=a0z.mk (Kd.c3z (Kd.f4z (by (with_reducible repeat (first|apply Kd.R_alloc|apply Kd.a4z|apply Kd.a5z));exact (Kd.b5z (Kd.R_far (p:=⟨gb119,1,none⟩) (Kd.R_far (p:=⟨gb119,0,none⟩) (Kd.b5z HO_6.1 (fun k_ hk => (⟨hk,hk.2⟩ : _ ∧ k_ ≠ gb119))) (fun _ hk => hk.2) (.int .i64 ((b0z t115 x30_3).f0))) (fun _ hk => hk.2) (.int .i64 ((b0z t115 x30_3).f1))) (fun _ h_ => h_.1))) gb120 (Nat.le_of_eq hg.symm)) hb);have n1_:=a0z.mk (Kd.c3z (Kd.f4z (by (with_reducible repeat (first|apply Kd.R_alloc|apply Kd.a4z|apply Kd.a5z));exact (Kd.b5z (Kd.R_far (p:=⟨gb119,1,none⟩) (Kd.R_far (p:=⟨gb119,0,none⟩) (Kd.b5z HO_21.1 (fun k_ hk => (⟨hk,hk.2⟩ : _ ∧ k_ ≠ gb119))) (fun _ hk => hk.2) (.int .i64 ((b0z t115 x30_3).f0))) (fun _ hk => hk.2) (.int .i64 ((b0z t115 x30_3).f1))) (fun _ h_ => h_.1))) gb120 (Nat.le_of_eq hg.symm)) hb);have n2_:=a0z.mk (Kd.c3z (Kd.f4z (by (with_reducible repeat (first|apply Kd.R_alloc|apply Kd.a4z|apply Kd.a5z));exact (Kd.b5z (Kd.R_far (p:=⟨gb119,1,none⟩) (Kd.R_far (p:=⟨gb119,0,none⟩) (Kd.b5z HO_28.1 (fun k_ hk => (⟨hk,hk.2⟩ : _ ∧ k_ ≠ gb119))) (fun _ hk => hk.2) (.int .i64 ((b0z t115 x30_3).f0))) (fun _ hk => hk.2) (.int .i64 ((b0z t115 x30_3).f1))) (fun _ h_ => h_.1))) gb120 (Nat.le_of_eq hg.symm)) hb);have n3_:=a0z.mk (d9z (g:=gb114) (o:=.cells #[.int .i64 ((b0z t103 x23_2).f0),.int .i64 ((b0z t103 x23_2).f1)] 55 (0,0)) (by (with_reducible repeat (first|refine a8z ?_ _|refine a9z ?_|refine a7z ?_ _));refine f6z ?_ NB114_119.1 _;(with_reducible repeat (first|refine a8z ?_ _|refine a9z ?_|refine a7z ?_ _));refine f6z ?_ NB114_119.1 _;(with_reducible repeat (first|refine a8z ?_ _|refine a9z ?_|refine a7z ?_ _));exact BK114.1) hb);have n4_:=a0z.mk (d9z (g:=gb119) (o:=.cells #[.int .i64 ((b0z t115 x30_3).f0),.int .i64 ((b0z t115 x30_3).f1)] 55 (0,0)) (by (with_reducible repeat (first|refine a8z ?_ _|refine a9z ?_|refine a7z ?_ _));refine d6z (cs:=#[.int .i64 ((b0z t115 x30_3).f0),.int .i64 0]) ?_ 1 _ rfl;(with_reducible repeat (first|refine a8z ?_ _|refine a9z ?_|refine a7z ?_ _));refine d6z (cs:=#[.int .i64 0,.int .i64 0]) ?_ 0 _ rfl;(with_reducible repeat (first|refine a8z ?_ _|refine a9z ?_|refine a7z ?_ _));exact BK119.1) hb);have n5_:=a0z.mk (b3z (by repeat (first|(with_reducible first|exact HB.1|apply a3z|apply a1z|apply a2z|refine a6z ?_ GE114.1|refine a6z ?_ GE119.1)|exact HB.1)) hb);have n6_:=a0z.mk (hbox);have n7_:=a0z.mk ((by rw [hg];exact (b1z (by repeat (first|(with_reducible first|exact HB.1|apply a3z|apply a1z|apply a2z|refine a6z ?_ GE114.1|refine a6z ?_ GE119.1)|exact HB.1))) : w.heap.size ≤ gb120));have n8_:=a0z.mk ((by rw [hg];exact (b1z (by repeat (first|(with_reducible first|exact HB.1|apply a3z|apply a1z|apply a2z|refine a6z ?_ GE114.1|refine a6z ?_ GE119.1)|exact HB.1))) : w.heap.size ≤ gb120));have n9_:=a0z.mk ((by rw [hg];exact Nat.ne_of_lt (g7z (g:=gb114) (o:=.cells #[.int .i64 ((b0z t103 x23_2).f0),.int .i64 ((b0z t103 x23_2).f1)] 55 (0,0)) (by (with_reducible repeat (first|refine a8z ?_ _|refine a9z ?_|refine a7z ?_ _));refine f6z ?_ NB114_119.1 _;(with_reducible repeat (first|refine a8z ?_ _|refine a9z ?_|refine a7z ?_ _));refine f6z ?_ NB114_119.1 _;(with_reducible repeat (first|refine a8z ?_ _|refine a9z ?_|refine a7z ?_ _));exact BK114.1)) : gb114 ≠ gb120));have n10_:=a0z.mk ((by rw [hg];exact Nat.ne_of_gt (g7z (g:=gb114) (o:=.cells #[.int .i64 ((b0z t103 x23_2).f0),.int .i64 ((b0z t103 x23_2).f1)] 55 (0,0)) (by (with_reducible repeat (first|refine a8z ?_ _|refine a9z ?_|refine a7z ?_ _));refine f6z ?_ NB114_119.1 _;(with_reducible repeat (first|refine a8z ?_ _|refine a9z ?_|refine a7z ?_ _));refine f6z ?_ NB114_119.1 _;(with_reducible repeat (first|refine a8z ?_ _|refine a9z ?_|refine a7z ?_ _));exact BK114.1)) : gb120 ≠ gb114));have n11_:=a0z.mk ((by rw [hg];exact Nat.ne_of_lt (g7z (g:=gb119) (o:=.cells #[.int .i64 ((b0z t115 x30_3).f0),.int .i64 ((b0z t115 x30_3).f1)] 55 (0,0)) (by (with_reducible repeat (first|refine a8z ?_ _|refine a9z ?_|refine a7z ?_ _));refine d6z (cs:=#[.int .i64 ((b0z t115 x30_3).f0),.int .i64 0]) ?_ 1 _ rfl;(with_reducible repeat (first|refine a8z ?_ _|refine a9z ?_|refine a7z ?_ _));refine d6z (cs:=#[.int .i64 0,.int .i64 0]) ?_ 0 _ rfl;(with_reducible repeat (first|refine a8z ?_ _|refine a9z ?_|refine a7z ?_ _));exact BK119.1)) : gb119 ≠ gb120));have n12_:=a0z.mk ((by rw [hg];exact Nat.ne_of_gt (g7z (g:=gb119) (o:=.cells #[.int .i64 ((b0z t115 x30_3).f0),.int .i64 ((b0z t115 x30_3).f1)] 55 (0,0)) (by (with_reducible repeat (first|refine a8z ?_ _|refine a9z ?_|refine a7z ?_ _));refine d6z (cs:=#[.int .i64 ((b0z t115 x30_3).f0),.int .i64 0]) ?_ 1 _ rfl;(with_reducible repeat (first|refine a8z ?_ _|refine a9z ?_|refine a7z ?_ _));refine d6z (cs:=#[.int .i64 0,.int .i64 0]) ?_ 0 _ rfl;(with_reducible repeat (first|refine a8z ?_ _|refine a9z ?_|refine a7z ?_ _));exact BK119.1)) : gb120 ≠ gb119));clear HO_6;clear HO_21;clear HO_28;clear BK114;clear BK119;clear HB;have HO_6:=n0_;have HO_21:=n1_;have HO_28:=n2_;have BK114:=n3_;have BK119:=n4_;have HB:=n5_;have BK120:=n6_;have GW120:=n7_;have GE120:=n8_;have NB114_120:=n9_;have NB120_114:=n10_;have NB119_120:=n11_;have NB120_119:=n12_;clear n0_ n1_ n2_ n3_ n4_ n5_ n6_ n7_ n8_ n9_ n10_ n11_ n12_;clear hb hbox hg;have hnb34:=NB120_114.1;have hnc34:=NB114_120.1;have hnb35:=NB120_119.1;have hnc35:=NB119_120.1;have hcz36_0 : w33.cell? ⟨gb120,0,none⟩ = some (.int .i64 0):=(b2z BK120.1 0).trans rfl;have hcz36_1 : w33.cell? ⟨gb120,1,none⟩ = some (.int .i64 0):=(b2z BK120.1 1).trans rfl;have hfz36_0:=b7z BK120.1 0;have hfz36_1:=b7z BK120.1 1)|((with_reducible refine e5z (b:=.append) (xs:=#[.tmp 50,.tmp 52]) rfl ?_);at_builtin;refine Kd.g6z k55 (w0:=w) w.heap.size rfl (.tmp 50) (.tmp 52) 48 55 (.agg #[(.int .i64 0),(.int .i64 0)]) 16 rfl Try.underlying48 info55 rfl (by decide) (by omega) u6 x6_3 (⟨ji25,ji26⟩ : S55) [.int .i64 ji25,.int .i64 ji26] (fun k_ => some k_ ≠ (.slice (some ad113) t103.length co13 : Value).ownBlock ∧ some k_ ≠ (.slice (some ad118) t115.length co21 : Value).ownBlock ∧ k_ ≠ gb114 ∧ k_ ≠ gb119 ∧ k_ ≠ gb120) (fun _ => False) rfl (by first|(go_simp;done)|(go_simp;rfl)) ?aP (fun _ hk => hk.elim) ?aF ?aO ?aB ?aS ?aL ?_;(case aP => exact k55_mkM _ _ _ (⟨ji25,ji26⟩ : S55));(case aB => exact (by repeat (first|(with_reducible first|exact HB.1|apply a3z|apply a1z|apply a2z|refine a6z ?_ GE114.1|refine a6z ?_ GE119.1|refine a6z ?_ GE120.1)|exact HB.1)));(case aF => exact (fun k_ hk => ⟨Kd.fresh' (Kd.R_lt (by (with_reducible repeat (first|apply Kd.R_alloc|apply Kd.a4z|apply Kd.a5z));exact (Kd.b5z (Kd.R_far (p:=⟨gb120,1,none⟩) (Kd.R_far (p:=⟨gb120,0,none⟩) (Kd.b5z HO_21.1 (fun k_ hk => (⟨hk,hk.2⟩ : _ ∧ k_ ≠ gb120))) (fun _ hk => hk.2) (.int .i64 ji25)) (fun _ hk => hk.2) (.int .i64 ji26)) (fun _ h_ => h_.1)))) k_ hk,Kd.fresh' (Kd.R_lt (by (with_reducible repeat (first|apply Kd.R_alloc|apply Kd.a4z|apply Kd.a5z));exact (Kd.b5z (Kd.R_far (p:=⟨gb120,1,none⟩) (Kd.R_far (p:=⟨gb120,0,none⟩) (Kd.b5z HO_28.1 (fun k_ hk => (⟨hk,hk.2⟩ : _ ∧ k_ ≠ gb120))) (fun _ hk => hk.2) (.int .i64 ji25)) (fun _ hk => hk.2) (.int .i64 ji26)) (fun _ h_ => h_.1)))) k_ hk,Kd.freshB (g:=gb114) (o:=.cells #[.int .i64 ((b0z t103 x23_2).f0),.int .i64 ((b0z t103 x23_2).f1)] 55 (0,0)) (by (with_reducible repeat (first|refine a8z ?_ _|refine a9z ?_|refine a7z ?_ _));refine f6z ?_ NB114_120.1 _;(with_reducible repeat (first|refine a8z ?_ _|refine a9z ?_|refine a7z ?_ _));refine f6z ?_ NB114_120.1 _;(with_reducible repeat (first|refine a8z ?_ _|refine a9z ?_|refine a7z ?_ _));exact BK114.1) k_ hk,Kd.freshB (g:=gb119) (o:=.cells #[.int .i64 ((b0z t115 x30_3).f0),.int .i64 ((b0z t115 x30_3).f1)] 55 (0,0)) (by (with_reducible repeat (first|refine a8z ?_ _|refine a9z ?_|refine a7z ?_ _));refine f6z ?_ NB119_120.1 _;(with_reducible repeat (first|refine a8z ?_ _|refine a9z ?_|refine a7z ?_ _));refine f6z ?_ NB119_120.1 _;(with_reducible repeat (first|refine a8z ?_ _|refine a9z ?_|refine a7z ?_ _));exact BK119.1) k_ hk,Kd.freshB (g:=gb120) (o:=.cells #[.int .i64 ji25,.int .i64 ji26] 55 (0,0)) (by (with_reducible repeat (first|refine a8z ?_ _|refine a9z ?_|refine a7z ?_ _));refine d6z (cs:=#[.int .i64 ji25,.int .i64 0]) ?_ 1 _ rfl;(with_reducible repeat (first|refine a8z ?_ _|refine a9z ?_|refine a7z ?_ _));refine d6z (cs:=#[.int .i64 0,.int .i64 0]) ?_ 0 _ rfl;(with_reducible repeat (first|refine a8z ?_ _|refine a9z ?_|refine a7z ?_ _));exact BK120.1) k_ hk⟩));(case aO => exact (by (with_reducible repeat (first|apply Kd.R_alloc|apply Kd.a4z|apply Kd.a5z));exact Kd.b5z (Kd.R_far (p:=⟨gb120,1,none⟩) (Kd.R_far (p:=⟨gb120,0,none⟩) (Kd.b5z HO_6.1 (fun k_ hk => (⟨hk,hk.2⟩ : _ ∧ k_ ≠ gb120))) (fun _ hk => hk.2) (.int .i64 ji25)) (fun _ hk => hk.2) (.int .i64 ji26)) (fun _ hk => ⟨hk.1.1.1.1,⟨hk.1.1.1.2.1,⟨hk.1.1.1.2.2,⟨hk.1.1.2,hk.1.2⟩⟩⟩⟩)));(case aS => exact (b1z (by repeat (first|(with_reducible first|exact HB.1|apply a3z|apply a1z|apply a2z|refine a6z ?_ GE114.1|refine a6z ?_ GE119.1|refine a6z ?_ GE120.1)|exact HB.1))));(case aL => have:=LMc28.1;omega);intro v122 w37 ho hb hg hat;rw [← Ny121.1] at ho;have n0_:=a0z.mk (Kd.c9z (ok:=(fun k_ => some k_ ≠ (.slice (some ad118) t115.length co21 : Value).ownBlock ∧ k_ ≠ gb114 ∧ k_ ≠ gb119 ∧ k_ ≠ gb120)) (by (with_reducible repeat (first|apply Kd.R_alloc|apply Kd.a4z|apply Kd.a5z));exact Kd.b5z (Kd.R_far (p:=⟨gb120,1,none⟩) (Kd.R_far (p:=⟨gb120,0,none⟩) (Kd.b5z HO_21.1 (fun k_ hk => (⟨hk,hk.2⟩ : _ ∧ k_ ≠ gb120))) (fun _ hk => hk.2) (.int .i64 ji25)) (fun _ hk => hk.2) (.int .i64 ji26)) (fun _ hk => ⟨⟨hk.1.1.1.2.1,⟨hk.1.1.1.2.2,⟨hk.1.1.2,hk.1.2⟩⟩⟩,hk.1.1.1.1⟩)) hg hat);have n1_:=a0z.mk (Kd.c9z (ok:=(fun k_ => some k_ ≠ (.slice (some ad113) t103.length co13 : Value).ownBlock ∧ k_ ≠ gb114 ∧ k_ ≠ gb119 ∧ k_ ≠ gb120)) (by (with_reducible repeat (first|apply Kd.R_alloc|apply Kd.a4z|apply Kd.a5z));exact Kd.b5z (Kd.R_far (p:=⟨gb120,1,none⟩) (Kd.R_far (p:=⟨gb120,0,none⟩) (Kd.b5z HO_28.1 (fun k_ hk => (⟨hk,hk.2⟩ : _ ∧ k_ ≠ gb120))) (fun _ hk => hk.2) (.int .i64 ji25)) (fun _ hk => hk.2) (.int .i64 ji26)) (fun _ hk => ⟨⟨hk.1.1.1.2.1,⟨hk.1.1.1.2.2,⟨hk.1.1.2,hk.1.2⟩⟩⟩,hk.1.1.1.1⟩)) hg hat);have n2_:=a0z.mk (f0z (g:=gb114) (o:=.cells #[.int .i64 ((b0z t103 x23_2).f0),.int .i64 ((b0z t103 x23_2).f1)] 55 (0,0)) (by (with_reducible repeat (first|refine a8z ?_ _|refine a9z ?_|refine a7z ?_ _));refine f6z ?_ NB114_120.1 _;(with_reducible repeat (first|refine a8z ?_ _|refine a9z ?_|refine a7z ?_ _));refine f6z ?_ NB114_120.1 _;(with_reducible repeat (first|refine a8z ?_ _|refine a9z ?_|refine a7z ?_ _));exact BK114.1) hg (Kd.h1z HO_6.1 (fun _ hk => hk.1.1.2.2)));have n3_:=a0z.mk (f0z (g:=gb119) (o:=.cells #[.int .i64 ((b0z t115 x30_3).f0),.int .i64 ((b0z t115 x30_3).f1)] 55 (0,0)) (by (with_reducible repeat (first|refine a8z ?_ _|refine a9z ?_|refine a7z ?_ _));refine f6z ?_ NB119_120.1 _;(with_reducible repeat (first|refine a8z ?_ _|refine a9z ?_|refine a7z ?_ _));refine f6z ?_ NB119_120.1 _;(with_reducible repeat (first|refine a8z ?_ _|refine a9z ?_|refine a7z ?_ _));exact BK119.1) hg (Kd.h1z HO_6.1 (fun _ hk => hk.1.2)));have n4_:=a0z.mk (f0z (g:=gb120) (o:=.cells #[.int .i64 ji25,.int .i64 ji26] 55 (0,0)) (by (with_reducible repeat (first|refine a8z ?_ _|refine a9z ?_|refine a7z ?_ _));refine d6z (cs:=#[.int .i64 ji25,.int .i64 0]) ?_ 1 _ rfl;(with_reducible repeat (first|refine a8z ?_ _|refine a9z ?_|refine a7z ?_ _));refine d6z (cs:=#[.int .i64 0,.int .i64 0]) ?_ 0 _ rfl;(with_reducible repeat (first|refine a8z ?_ _|refine a9z ?_|refine a7z ?_ _));exact BK120.1) hg (Kd.h1z HO_6.1 (fun _ hk => hk.2)));have n5_:=a0z.mk (hb);have n6_:=a0z.mk (ho);clear HO_21;clear HO_28;clear BK114;clear BK119;clear BK120;clear HB;clear HO_6;have HO_21:=n0_;have HO_28:=n1_;have BK114:=n2_;have BK119:=n3_;have BK120:=n4_;have HB:=n5_;have HO123:=n6_;clear n0_ n1_ n2_ n3_ n4_ n5_ n6_;clear ho hb hg hat))
                go_roundg k3
                case measure => have:=HJ2.1;have:=HK2.1;have:=HK3.1;omega
                case rel => exact ⟨(y121),(wrap64 (x30_3 + 1)),(by first|rfl|(simp;done)|(simp [*];done)),H',⟨by have:=HJ2.1;have:=HK2.1;have:=HK3.1;omega⟩,⟨by (with_reducible repeat (first|apply Kd.R_alloc|apply Kd.a4z|apply Kd.a5z));exact Kd.b5z HO123.1 (fun _ hk => ⟨hk.1,⟨hk.2.1,hk.2.2.1⟩⟩)⟩,⟨by (with_reducible repeat (first|apply Kd.R_alloc|apply Kd.a4z|apply Kd.a5z));exact Kd.b5z HO_21.1 (fun _ hk => ⟨hk.2,⟨hk.1.1,hk.1.2.1⟩⟩)⟩,⟨by (with_reducible repeat (first|apply Kd.R_alloc|apply Kd.a4z|apply Kd.a5z));exact Kd.b5z HO_28.1 (fun _ hk => ⟨hk.2,⟨hk.1.1,hk.1.2.1⟩⟩)⟩,⟨by (with_reducible repeat (first|refine a8z ?_ _|refine a9z ?_|refine a7z ?_ _));exact BK114.1⟩,⟨by repeat (first|(with_reducible first|exact HB.1|apply a3z|apply a1z|apply a2z|refine a6z ?_ GE114.1|refine a6z ?_ GE119.1|refine a6z ?_ GE120.1)|exact HB.1)⟩⟩
               ·rw [if_neg c28] at H
                exact absurd H (by simp)
              ·rw [if_neg c27] at H
               have c27b0 : decide ((ji25) ≤ (ji26)) = false:=decide_eq_false c27
               clear c27
               have H':=a0z.mk H
               clear H
               have p118 : 0 ≤ (x30_3 : Int):=of_decide_eq_true (by first|(with_reducible assumption)|assumption)
               have q118 : x30_3 < (t115.length : Int):=of_decide_eq_true (by first|(with_reducible assumption)|assumption)
               obtain ⟨ad118,e118,hx118_0,hx118_1⟩:=i8z (Kd.b4z HO_28.1).2.2 x30_3 p118 q118
               cases e118
               replace p118:=eq_true p118
               replace q118:=eq_true q118
               go_wp2_with (first|((with_reducible refine d4z (N:=10) rfl ?_);refine e0z ?hg (N:=10) ?hd (cs:=#[.int .i64 0,.int .i64 0]) (t:=55) ?hr ?_;(case hd => rfl);(case hg => rfl);(case hr => first|(go_simp;done)|(go_simp;rfl));intro gb119 hg w38 hbox hb;have n0_:=a0z.mk (Kd.c3z (Kd.f4z (by (with_reducible repeat (first|apply Kd.R_alloc|apply Kd.a4z|apply Kd.a5z));exact HO_6.1) gb119 (Nat.le_of_eq hg.symm)) hb);have n1_:=a0z.mk (Kd.c3z (Kd.f4z (by (with_reducible repeat (first|apply Kd.R_alloc|apply Kd.a4z|apply Kd.a5z));exact HO_21.1) gb119 (Nat.le_of_eq hg.symm)) hb);have n2_:=a0z.mk (Kd.c3z (Kd.f4z (by (with_reducible repeat (first|apply Kd.R_alloc|apply Kd.a4z|apply Kd.a5z));exact HO_28.1) gb119 (Nat.le_of_eq hg.symm)) hb);have n3_:=a0z.mk (d9z (g:=gb114) (o:=.cells #[.int .i64 ((b0z t103 x23_2).f0),.int .i64 ((b0z t103 x23_2).f1)] 55 (0,0)) (by (with_reducible repeat (first|refine a8z ?_ _|refine a9z ?_|refine a7z ?_ _));exact BK114.1) hb);have n4_:=a0z.mk (b3z (by repeat (first|(with_reducible first|exact HB.1|apply a3z|apply a1z|apply a2z|refine a6z ?_ GE114.1)|exact HB.1)) hb);have n5_:=a0z.mk (hbox);have n6_:=a0z.mk ((by rw [hg];exact (b1z (by repeat (first|(with_reducible first|exact HB.1|apply a3z|apply a1z|apply a2z|refine a6z ?_ GE114.1)|exact HB.1))) : w.heap.size ≤ gb119));have n7_:=a0z.mk ((by rw [hg];exact (b1z (by repeat (first|(with_reducible first|exact HB.1|apply a3z|apply a1z|apply a2z|refine a6z ?_ GE114.1)|exact HB.1))) : w.heap.size ≤ gb119));have n8_:=a0z.mk ((by rw [hg];exact Nat.ne_of_lt (g7z (g:=gb114) (o:=.cells #[.int .i64 ((b0z t103 x23_2).f0),.int .i64 ((b0z t103 x23_2).f1)] 55 (0,0)) (by (with_reducible repeat (first|refine a8z ?_ _|refine a9z ?_|refine a7z ?_ _));exact BK114.1)) : gb114 ≠ gb119));have n9_:=a0z.mk ((by rw [hg];exact Nat.ne_of_gt (g7z (g:=gb114) (o:=.cells #[.int .i64 ((b0z t103 x23_2).f0),.int .i64 ((b0z t103 x23_2).f1)] 55 (0,0)) (by (with_reducible repeat (first|refine a8z ?_ _|refine a9z ?_|refine a7z ?_ _));exact BK114.1)) : gb119 ≠ gb114));clear HO_6;clear HO_21;clear HO_28;clear BK114;clear HB;have HO_6:=n0_;have HO_21:=n1_;have HO_28:=n2_;have BK114:=n3_;have HB:=n4_;have BK119:=n5_;have GW119:=n6_;have GE119:=n7_;have NB114_119:=n8_;have NB119_114:=n9_;clear n0_ n1_ n2_ n3_ n4_ n5_ n6_ n7_ n8_ n9_;clear hb hbox hg;have hnb39:=NB119_114.1;have hnc39:=NB114_119.1;have hcz40_0 : w38.cell? ⟨gb119,0,none⟩ = some (.int .i64 0):=(b2z BK119.1 0).trans rfl;have hcz40_1 : w38.cell? ⟨gb119,1,none⟩ = some (.int .i64 0):=(b2z BK119.1 1).trans rfl;have hfz40_0:=b7z BK119.1 0;have hfz40_1:=b7z BK119.1 1;have hcz41_0 : w38.cell? ⟨gb114,0,none⟩ = some (.int .i64 ((b0z t103 x23_2).f0)):=(b2z BK114.1 0).trans rfl;have hcz41_1 : w38.cell? ⟨gb114,1,none⟩ = some (.int .i64 ((b0z t103 x23_2).f1)):=(b2z BK114.1 1).trans rfl;have hfz41_0:=b7z BK114.1 0;have hfz41_1:=b7z BK114.1 1)|((with_reducible refine d4z (N:=11) rfl ?_);refine e0z ?hg (N:=11) ?hd (cs:=#[.int .i64 0,.int .i64 0]) (t:=55) ?hr ?_;(case hd => rfl);(case hg => rfl);(case hr => first|(go_simp;done)|(go_simp;rfl));intro gb120 hg w42 hbox hb;have n0_:=a0z.mk (Kd.c3z (Kd.f4z (by (with_reducible repeat (first|apply Kd.R_alloc|apply Kd.a4z|apply Kd.a5z));exact (Kd.b5z (Kd.R_far (p:=⟨gb119,1,none⟩) (Kd.R_far (p:=⟨gb119,0,none⟩) (Kd.b5z HO_6.1 (fun k_ hk => (⟨hk,hk.2⟩ : _ ∧ k_ ≠ gb119))) (fun _ hk => hk.2) (.int .i64 ((b0z t115 x30_3).f0))) (fun _ hk => hk.2) (.int .i64 ((b0z t115 x30_3).f1))) (fun _ h_ => h_.1))) gb120 (Nat.le_of_eq hg.symm)) hb);have n1_:=a0z.mk (Kd.c3z (Kd.f4z (by (with_reducible repeat (first|apply Kd.R_alloc|apply Kd.a4z|apply Kd.a5z));exact (Kd.b5z (Kd.R_far (p:=⟨gb119,1,none⟩) (Kd.R_far (p:=⟨gb119,0,none⟩) (Kd.b5z HO_21.1 (fun k_ hk => (⟨hk,hk.2⟩ : _ ∧ k_ ≠ gb119))) (fun _ hk => hk.2) (.int .i64 ((b0z t115 x30_3).f0))) (fun _ hk => hk.2) (.int .i64 ((b0z t115 x30_3).f1))) (fun _ h_ => h_.1))) gb120 (Nat.le_of_eq hg.symm)) hb);have n2_:=a0z.mk (Kd.c3z (Kd.f4z (by (with_reducible repeat (first|apply Kd.R_alloc|apply Kd.a4z|apply Kd.a5z));exact (Kd.b5z (Kd.R_far (p:=⟨gb119,1,none⟩) (Kd.R_far (p:=⟨gb119,0,none⟩) (Kd.b5z HO_28.1 (fun k_ hk => (⟨hk,hk.2⟩ : _ ∧ k_ ≠ gb119))) (fun _ hk => hk.2) (.int .i64 ((b0z t115 x30_3).f0))) (fun _ hk => hk.2) (.int .i64 ((b0z t115 x30_3).f1))) (fun _ h_ => h_.1))) gb120 (Nat.le_of_eq hg.symm)) hb);have n3_:=a0z.mk (d9z (g:=gb114) (o:=.cells #[.int .i64 ((b0z t103 x23_2).f0),.int .i64 ((b0z t103 x23_2).f1)] 55 (0,0)) (by (with_reducible repeat (first|refine a8z ?_ _|refine a9z ?_|refine a7z ?_ _));refine f6z ?_ NB114_119.1 _;(with_reducible repeat (first|refine a8z ?_ _|refine a9z ?_|refine a7z ?_ _));refine f6z ?_ NB114_119.1 _;(with_reducible repeat (first|refine a8z ?_ _|refine a9z ?_|refine a7z ?_ _));exact BK114.1) hb);have n4_:=a0z.mk (d9z (g:=gb119) (o:=.cells #[.int .i64 ((b0z t115 x30_3).f0),.int .i64 ((b0z t115 x30_3).f1)] 55 (0,0)) (by (with_reducible repeat (first|refine a8z ?_ _|refine a9z ?_|refine a7z ?_ _));refine d6z (cs:=#[.int .i64 ((b0z t115 x30_3).f0),.int .i64 0]) ?_ 1 _ rfl;(with_reducible repeat (first|refine a8z ?_ _|refine a9z ?_|refine a7z ?_ _));refine d6z (cs:=#[.int .i64 0,.int .i64 0]) ?_ 0 _ rfl;(with_reducible repeat (first|refine a8z ?_ _|refine a9z ?_|refine a7z ?_ _));exact BK119.1) hb);have n5_:=a0z.mk (b3z (by repeat (first|(with_reducible first|exact HB.1|apply a3z|apply a1z|apply a2z|refine a6z ?_ GE114.1|refine a6z ?_ GE119.1)|exact HB.1)) hb);have n6_:=a0z.mk (hbox);have n7_:=a0z.mk ((by rw [hg];exact (b1z (by repeat (first|(with_reducible first|exact HB.1|apply a3z|apply a1z|apply a2z|refine a6z ?_ GE114.1|refine a6z ?_ GE119.1)|exact HB.1))) : w.heap.size ≤ gb120));have n8_:=a0z.mk ((by rw [hg];exact (b1z (by repeat (first|(with_reducible first|exact HB.1|apply a3z|apply a1z|apply a2z|refine a6z ?_ GE114.1|refine a6z ?_ GE119.1)|exact HB.1))) : w.heap.size ≤ gb120));have n9_:=a0z.mk ((by rw [hg];exact Nat.ne_of_lt (g7z (g:=gb114) (o:=.cells #[.int .i64 ((b0z t103 x23_2).f0),.int .i64 ((b0z t103 x23_2).f1)] 55 (0,0)) (by (with_reducible repeat (first|refine a8z ?_ _|refine a9z ?_|refine a7z ?_ _));refine f6z ?_ NB114_119.1 _;(with_reducible repeat (first|refine a8z ?_ _|refine a9z ?_|refine a7z ?_ _));refine f6z ?_ NB114_119.1 _;(with_reducible repeat (first|refine a8z ?_ _|refine a9z ?_|refine a7z ?_ _));exact BK114.1)) : gb114 ≠ gb120));have n10_:=a0z.mk ((by rw [hg];exact Nat.ne_of_gt (g7z (g:=gb114) (o:=.cells #[.int .i64 ((b0z t103 x23_2).f0),.int .i64 ((b0z t103 x23_2).f1)] 55 (0,0)) (by (with_reducible repeat (first|refine a8z ?_ _|refine a9z ?_|refine a7z ?_ _));refine f6z ?_ NB114_119.1 _;(with_reducible repeat (first|refine a8z ?_ _|refine a9z ?_|refine a7z ?_ _));refine f6z ?_ NB114_119.1 _;(with_reducible repeat (first|refine a8z ?_ _|refine a9z ?_|refine a7z ?_ _));exact BK114.1)) : gb120 ≠ gb114));have n11_:=a0z.mk ((by rw [hg];exact Nat.ne_of_lt (g7z (g:=gb119) (o:=.cells #[.int .i64 ((b0z t115 x30_3).f0),.int .i64 ((b0z t115 x30_3).f1)] 55 (0,0)) (by (with_reducible repeat (first|refine a8z ?_ _|refine a9z ?_|refine a7z ?_ _));refine d6z (cs:=#[.int .i64 ((b0z t115 x30_3).f0),.int .i64 0]) ?_ 1 _ rfl;(with_reducible repeat (first|refine a8z ?_ _|refine a9z ?_|refine a7z ?_ _));refine d6z (cs:=#[.int .i64 0,.int .i64 0]) ?_ 0 _ rfl;(with_reducible repeat (first|refine a8z ?_ _|refine a9z ?_|refine a7z ?_ _));exact BK119.1)) : gb119 ≠ gb120));have n12_:=a0z.mk ((by rw [hg];exact Nat.ne_of_gt (g7z (g:=gb119) (o:=.cells #[.int .i64 ((b0z t115 x30_3).f0),.int .i64 ((b0z t115 x30_3).f1)] 55 (0,0)) (by (with_reducible repeat (first|refine a8z ?_ _|refine a9z ?_|refine a7z ?_ _));refine d6z (cs:=#[.int .i64 ((b0z t115 x30_3).f0),.int .i64 0]) ?_ 1 _ rfl;(with_reducible repeat (first|refine a8z ?_ _|refine a9z ?_|refine a7z ?_ _));refine d6z (cs:=#[.int .i64 0,.int .i64 0]) ?_ 0 _ rfl;(with_reducible repeat (first|refine a8z ?_ _|refine a9z ?_|refine a7z ?_ _));exact BK119.1)) : gb120 ≠ gb119));clear HO_6;clear HO_21;clear HO_28;clear BK114;clear BK119;clear HB;have HO_6:=n0_;have HO_21:=n1_;have HO_28:=n2_;have BK114:=n3_;have BK119:=n4_;have HB:=n5_;have BK120:=n6_;have GW120:=n7_;have GE120:=n8_;have NB114_120:=n9_;have NB120_114:=n10_;have NB119_120:=n11_;have NB120_119:=n12_;clear n0_ n1_ n2_ n3_ n4_ n5_ n6_ n7_ n8_ n9_ n10_ n11_ n12_;clear hb hbox hg;have hnb43:=NB120_114.1;have hnc43:=NB114_120.1;have hnb44:=NB120_119.1;have hnc44:=NB119_120.1;have hcz45_0 : w42.cell? ⟨gb120,0,none⟩ = some (.int .i64 0):=(b2z BK120.1 0).trans rfl;have hcz45_1 : w42.cell? ⟨gb120,1,none⟩ = some (.int .i64 0):=(b2z BK120.1 1).trans rfl;have hfz45_0:=b7z BK120.1 0;have hfz45_1:=b7z BK120.1 1))
               go_roundg k3
               case measure => have:=HJ2.1;have:=HK2.1;have:=HK3.1;omega
               case rel => exact ⟨(x6_3),(wrap64 (x30_3 + 1)),(by first|rfl|(simp;done)|(simp [*];done)),H',⟨by have:=HJ2.1;have:=HK2.1;have:=HK3.1;omega⟩,⟨by (with_reducible repeat (first|apply Kd.R_alloc|apply Kd.a4z|apply Kd.a5z));exact Kd.b5z (Kd.R_far (p:=⟨gb120,1,none⟩) (Kd.R_far (p:=⟨gb120,0,none⟩) (Kd.b5z HO_6.1 (fun k_ hk => (⟨hk,hk.2⟩ : _ ∧ k_ ≠ gb120))) (fun _ hk => hk.2) (.int .i64 ji25)) (fun _ hk => hk.2) (.int .i64 ji26)) (fun _ hk => ⟨hk.1.1.1.1,⟨hk.1.1.1.2.1,hk.1.1.1.2.2⟩⟩)⟩,⟨by (with_reducible repeat (first|apply Kd.R_alloc|apply Kd.a4z|apply Kd.a5z));exact Kd.b5z (Kd.R_far (p:=⟨gb120,1,none⟩) (Kd.R_far (p:=⟨gb120,0,none⟩) (Kd.b5z HO_21.1 (fun k_ hk => (⟨hk,hk.2⟩ : _ ∧ k_ ≠ gb120))) (fun _ hk => hk.2) (.int .i64 ji25)) (fun _ hk => hk.2) (.int .i64 ji26)) (fun _ hk => ⟨hk.1.1.1.1,⟨hk.1.1.1.2.1,hk.1.1.1.2.2⟩⟩)⟩,⟨by (with_reducible repeat (first|apply Kd.R_alloc|apply Kd.a4z|apply Kd.a5z));exact Kd.b5z (Kd.R_far (p:=⟨gb120,1,none⟩) (Kd.R_far (p:=⟨gb120,0,none⟩) (Kd.b5z HO_28.1 (fun k_ hk => (⟨hk,hk.2⟩ : _ ∧ k_ ≠ gb120))) (fun _ hk => hk.2) (.int .i64 ji25)) (fun _ hk => hk.2) (.int .i64 ji26)) (fun _ hk => ⟨hk.1.1.1.1,⟨hk.1.1.1.2.1,hk.1.1.1.2.2⟩⟩)⟩,⟨by (with_reducible repeat (first|refine a8z ?_ _|refine a9z ?_|refine a7z ?_ _));refine f6z ?_ NB114_120.1 _;(with_reducible repeat (first|refine a8z ?_ _|refine a9z ?_|refine a7z ?_ _));refine f6z ?_ NB114_120.1 _;(with_reducible repeat (first|refine a8z ?_ _|refine a9z ?_|refine a7z ?_ _));exact BK114.1⟩,⟨by repeat (first|(with_reducible first|exact HB.1|apply a3z|apply a1z|apply a2z|refine a6z ?_ GE114.1|refine a6z ?_ GE119.1|refine a6z ?_ GE120.1)|exact HB.1)⟩⟩
             ·rw [if_neg c24] at H
              exact absurd H (by simp)
            ·rw [if_neg c23] at H
             exact absurd H (by simp)
           ·rw [if_neg c22] at H
            have c22b0 : decide (x30_3 < (t115.length : Int)) = false:=decide_eq_false c22
            clear c22
            have H':=a0z.mk H
            clear H
            go_wp2
            go_roundg k3
            case measure => have:=HJ2.1;have:=HK2.1;have:=HK3.1;omega
            case rel => exact ⟨(x6_3),(wrap64 (x23_2 + 1)),(by first|rfl|(simp;done)|(simp [*];done)),H',⟨by have:=HJ2.1;have:=HK2.1;have:=HK3.1;omega⟩,⟨by (with_reducible repeat (first|apply Kd.R_alloc|apply Kd.a4z|apply Kd.a5z));exact Kd.b5z HO_6.1 (fun _ hk => hk.1)⟩,⟨by (with_reducible repeat (first|apply Kd.R_alloc|apply Kd.a4z|apply Kd.a5z));exact Kd.b5z HO_21.1 (fun _ hk => hk.1)⟩,⟨by repeat (first|(with_reducible first|exact HB.1|apply a3z|apply a1z|apply a2z|refine a6z ?_ GE114.1)|exact HB.1)⟩⟩
        ·rw [if_neg c16] at H
         exact absurd H (by simp)
       ·rw [if_neg c15] at H
        exact absurd H (by simp)
      ·rw [if_neg c14] at H
       have c14b0 : decide (x23_2 < (t103.length : Int)) = false:=decide_eq_false c14
       clear c14
       replace H:=Option.bind_eq_some_iff.mp H
       obtain ⟨t106,A460,H⟩:=H
       replace H : ((impl_limited.f t106).bind fun bt109 => (some (bt109.1,bt109.2))) = some (r1,r2):=H
       have A46:=a0z.mk A460
       clear A460
       replace H:=Option.bind_eq_some_iff.mp H
       obtain ⟨⟨t109,t112⟩,A470,H⟩:=H
       replace H : (some (t109,t112)) = some (r1,r2):=H
       have A47:=a0z.mk A470
       clear A470
       simp only [Option.some.injEq,Prod.mk.injEq] at H
       obtain ⟨rfl,rfl⟩:=H
       obtain ⟨Ao48,co48,eo48⟩:=Kd.d3z HO_6.1
       subst eo48
       go_wp2_with (first|((with_reducible refine b8z (f:=39) rfl ?_);refine d2z (some 57) rfl rfl Try.func39 (by kernel_rfl) rfl #[.slice Ao48 x6_2.length co48] rfl (by (try simp only [List.map_toArray,List.map_cons,List.map_nil]);first|done|rfl|(simp only [List.length_drop,List.length_take];rfl)) ?_;(with_reducible refine (impl_set.calls k2 _ _ x6_2 t106 _ ?side1 ?side2 A46.1).mono ?_);(case side1 => repeat (first|exact (Kd.b4z HO_6.1).2.2|(with_reducible refine Kd.C_alloc ?_ _)|(with_reducible refine Kd.C_drewN ?_ _)|(with_reducible refine Kd.C_drew ?_)));(case side2 => exact (Kd.b4z HO_6.1).2.1);rintro e w49 ⟨v107,rfl,ho0,hb⟩;refine ⟨_,rfl,?_⟩;have n0_:=a0z.mk (Kd.c3z (by (with_reducible repeat (first|apply Kd.R_alloc|apply Kd.a4z|apply Kd.a5z));exact HO_6.1) hb);have n1_:=a0z.mk (Kd.c3z (by (with_reducible repeat (first|apply Kd.R_alloc|apply Kd.a4z|apply Kd.a5z));exact HO_21.1) hb);have n2_:=a0z.mk (Kd.d5z ho0 (b1z (by repeat (first|(with_reducible first|exact HB.1|apply a3z|apply a1z|apply a2z)|exact HB.1))));have n3_:=a0z.mk (b3z (by repeat (first|(with_reducible first|exact HB.1|apply a3z|apply a1z|apply a2z)|exact HB.1)) hb);clear HO_6;clear HO_21;clear HB;have HO_6:=n0_;have HO_21:=n1_;have HO108:=n2_;have HB:=n3_;clear n0_ n1_ n2_ n3_;(try clear hb);(try clear hb2);(try clear hk);(try clear hi);(try clear ho0);obtain ⟨Ao50,co50,eo50⟩:=Kd.d3z HO108.1;subst eo50)|((with_reducible refine b8z (f:=43) rfl ?_);refine d2z (some 58) rfl rfl Try.func43 (by kernel_rfl) rfl #[.slice Ao50 t106.length co50] rfl (by (try simp only [List.map_toArray,List.map_cons,List.map_nil]);first|done|rfl|(simp only [List.length_drop,List.length_take];rfl)) ?_;(with_reducible refine (impl_limited.calls (fun k_ => some k_ = (.slice Ao50 t106.length co50 : Value).ownBlock) (.slice Ao50 t106.length co50) t106 t109 t112 w _ ?side1 ?side2 A47.1).mono ?_);(case side1 => repeat (first|(with_reducible first|exact HB.1|apply a3z|apply a1z|apply a2z)|exact HB.1));(case side2 => exact Kd.R_tight rfl HO108.1);rintro e w51 ⟨v110,rfl,ho0,hb,hkp⟩;refine ⟨_,rfl,?_⟩;have n0_:=a0z.mk (Kd.b5z (ok':=fun k_ => some k_ ≠ (.slice Ao13 t103.length co13 : Value).ownBlock) (Kd.R_keptB ((Kd.i9z HO_6.1 (Kd.R_typed HO108.1) (by decide))) hkp (fun k_ hk_ hs_ => (hk_.2) hs_)) (fun k_ hk_ => hk_.1.1));have n1_:=a0z.mk (Kd.b5z (ok':=fun k_ => some k_ ≠ (.slice Ao48 x6_2.length co48 : Value).ownBlock) (Kd.R_keptB ((Kd.i9z HO_21.1 (Kd.R_typed HO108.1) (by decide))) hkp (fun k_ hk_ hs_ => (hk_.2) hs_)) (fun k_ hk_ => hk_.1.1));have n2_:=a0z.mk (Kd.b5z (ok':=fun k_ => True) ho0 (fun k_ hk_ => trivial));have n3_:=a0z.mk (hb);clear HO_6;clear HO_21;clear HB;clear HO108;have HO_6:=n0_;have HO_21:=n1_;have HO111:=n2_;have HB:=n3_;clear n0_ n1_ n2_ n3_;(try clear hb);(try clear hkp);(try clear ho0)))
       go_ret2
       exact ⟨_,by first|rfl|(simp [c2z,c1z] <;> rfl)|(simp [*,c2z,c1z] <;> rfl),by (with_reducible repeat (first|apply Kd.R_alloc|apply Kd.a4z|apply Kd.a5z));exact HO111.1,by repeat (first|(with_reducible first|exact HB.1|apply a3z|apply a1z|apply a2z)|exact HB.1)⟩
end Go.Proofs.Ytmdhedkgpgoneaa.Q

namespace Go.Proofs.Ytmdhedkgpgoneaa.Q
open Go.RowKit Go.Proofs.YtmdhedkgpgoneaaW.PrintWords Go.Proofs.YtmdhedkgpgoneaaW.PrintLast Go.Proofs.YtmdhedkgpgoneaaW.PrintMore
attribute [local go_sem] e4z e2z e7z e6z d8z d7z e3z e1z
set_option linter.unusedVariables false
set_option linter.unusedSimpArgs false
mutual
def impl_SetLess.j0 : Nat → List (S44) → List (S44) → Bool → Option ((List (S44)) × Bool)
 | 0,_,_,_ => none
 | k + 1,x0,x1,x18 => if x18 = true then (some (([] : List (S44)),false)) else ((impl_spans.f k x0).bind fun t103 => ((impl_union.f k t103).bind fun t106 => (impl_SetLess.l0 k x1 ([] : List (S55)) t106 (t106.length : Int) 0)))
def impl_SetLess.l0 : Nat → List (S44) → List (S55) → List (S55) → Int → Int → Option ((List (S44)) × Bool)
 | 0,_,_,_,_,_ => none
 | k + 1,x1,x6,x21,x22,x23 => if x23 < x22 then (if 0 ≤ x23 then (if x23 < (x21.length : Int) then ((impl_spans.f k x1).bind fun t118 => ((impl_union.f k t118).bind fun t121 => (impl_SetLess.l1 k x1 x6 x21 x22 x23 t121 (t121.length : Int) 0 ((b0z x21 x23).f0) ((b0z x21 x23).f1)))) else (none)) else (none)) else ((impl_set.f k x6).bind fun t109 => ((impl_limited.f t109).bind fun bt112 => (some (bt112.1,bt112.2))))
def impl_SetLess.l1 : Nat → List (S44) → List (S55) → List (S55) → Int → Int → List (S55) → Int → Int → Int → Int → Option ((List (S44)) × Bool)
 | 0,_,_,_,_,_,_,_,_,_,_ => none
 | k + 1,x1,x6,x21,x22,x23,x29,x30,x31,x118000,x118001 => if x31 < x30 then (if 0 ≤ x31 then (if x31 < (x29.length : Int) then (if ((b0z x29 x31).f1) < x118000 then (impl_SetLess.j3 k x1 x6 x21 x22 x23 x29 x30 x31 true x118000 x118001 ((b0z x29 x31).f0) ((b0z x29 x31).f1)) else (impl_SetLess.j3 k x1 x6 x21 x22 x23 x29 x30 x31 (decide (((b0z x29 x31).f0) > x118001)) x118000 x118001 ((b0z x29 x31).f0) ((b0z x29 x31).f1))) else (none)) else (none)) else (if x118000 ≤ x118001 then (if x6.length < 8796093022208 then (impl_SetLess.l0 k x1 (x6 ++ [(⟨x118000,x118001⟩ : S55)]) x21 x22 (wrap64 (x23 + 1))) else (none)) else (impl_SetLess.l0 k x1 x6 x21 x22 (wrap64 (x23 + 1))))
def impl_SetLess.j3 : Nat → List (S44) → List (S55) → List (S55) → Int → Int → List (S55) → Int → Int → Bool → Int → Int → Int → Int → Option ((List (S44)) × Bool)
 | 0,_,_,_,_,_,_,_,_,_,_,_,_,_ => none
 | k + 1,x1,x6,x21,x22,x23,x29,x30,x31,x46,x118000,x118001,x129000,x129001 => if x46 = true then (impl_SetLess.l1 k x1 x6 x21 x22 x23 x29 x30 (wrap64 (x31 + 1)) x118000 x118001) else (if x118000 < x129000 then (if x6.length < 8796093022208 then (impl_SetLess.l1 k x1 (x6 ++ [(⟨x118000,wrap64 (x129000 - 1)⟩ : S55)]) x21 x22 x23 x29 x30 (wrap64 (x31 + 1)) (wrap64 (x129001 + 1)) x118001) else (none)) else (impl_SetLess.l1 k x1 x6 x21 x22 x23 x29 x30 (wrap64 (x31 + 1)) (wrap64 (x129001 + 1)) x118001))
end
def impl_SetLess.f (k : Nat) (l0 : List (S44)) (l1 : List (S44)) : Option ((List (S44)) × Bool):=(impl_SetOk.f k l0).bind fun t101 => (if t101 = true then ((impl_SetOk.f k l1).bind fun t102 => (impl_SetLess.j0 k l0 l1 (!t102))) else (impl_SetLess.j0 k l0 l1 true))
set_option maxHeartbeats 8000000 in
set_option maxRecDepth 100000 in
theorem impl_SetLess.calls (k : Nat) (A0 : Option Addr) (c0 : Nat) (l0 : List (S44)) (A1 : Option Addr) (c1 : Nat) (l1 : List (S44)) (r1 : List (S44)) (r2 : Bool) (w : World) (hr0 : Kd.C k44 w A0 l0.length l0) (hc0 : l0.length ≤ c0) (hr1 : Kd.C k44 w A1 l1.length l1) (hc1 : l1.length ≤ c1) (h : impl_SetLess.f k l0 l1 = some (r1,r2)) :
  Calls Try.prog 27 #[.slice A0 l0.length c0,.slice A1 l1.length c1] w fun e w' => ∃ v0_ : Value,e = .returned (.tuple #[v0_,.bool r2]) ∧ Kd.R k44 44 w' w.heap.size (fun _ => True) v0_ r1 ∧ Below w.heap.size w w':=by
 have hu55:=Try.underlying55
 have HR0:=a0z.mk hr0
 have HC0:=a0z.mk hc0
 clear hr0 hc0
 have HR1:=a0z.mk hr1
 have HC1:=a0z.mk hc1
 clear hr1 hc1
 have HB:=a0z.mk (Below.refl w.heap.size w)
 have H : ((impl_SetOk.f k l0).bind fun t101 => (if t101 = true then ((impl_SetOk.f k l1).bind fun t102 => (impl_SetLess.j0 k l0 l1 (!t102))) else (impl_SetLess.j0 k l0 l1 true))) = some (r1,r2):=h
 clear h
 have HC3:=a0z.mk H
 clear H
 go_enter Try.func27,Try.ntmps27
 go_upto_region 1 with (fail)
 go_cut [18] (fun v18 wc => ∃ (kq : Nat) (x18_2 : Bool),v18 = .bool x18_2 ∧ a0z (impl_SetLess.j0 kq l0 l1 x18_2 = some (r1,r2)) ∧ a0z (kq ≤ k) ∧ a0z (Below w.heap.size w wc))
 case first =>
  have H:=HC3.1
  clear HC3
  replace H:=Option.bind_eq_some_iff.mp H
  obtain ⟨t101,A40,H⟩:=H
  replace H : (if t101 = true then ((impl_SetOk.f k l1).bind fun t102 => (impl_SetLess.j0 k l0 l1 (!t102))) else (impl_SetLess.j0 k l0 l1 true)) = some (r1,r2):=H
  have A4:=a0z.mk A40
  clear A40
  by_cases c5 : t101 = true
  ·subst c5
   have H1 : ((impl_SetOk.f k l1).bind fun t102 => (impl_SetLess.j0 k l0 l1 (!t102))) = some (r1,r2):=by rw [if_pos rfl] at H;exact H
   clear H
   have H:=H1
   clear H1
   replace H:=Option.bind_eq_some_iff.mp H
   obtain ⟨t102,A60,H⟩:=H
   replace H : (impl_SetLess.j0 k l0 l1 (!t102)) = some (r1,r2):=H
   have A6:=a0z.mk A60
   clear A60
   have H':=a0z.mk H
   clear H
   go_wp2_with (first|((with_reducible refine b8z (f:=16) rfl ?_);refine d2z (some 12) rfl rfl Try.func16 (by kernel_rfl) rfl #[.slice A0 l0.length c0] rfl (by (try simp only [List.map_toArray,List.map_cons,List.map_nil]);first|done|rfl|(simp only [List.length_drop,List.length_take];rfl)) ?_;(with_reducible refine (impl_SetOk.calls k _ _ l0 true _ ?side1 ?side2 A4.1).mono ?_);(case side1 => repeat (first|exact (Kd.f2z HR0.1 HB.1)|(with_reducible refine Kd.C_alloc ?_ _)|(with_reducible refine Kd.C_drewN ?_ _)|(with_reducible refine Kd.C_drew ?_)));(case side2 => exact HC0.1);rintro e w7 ⟨rfl,hb⟩;refine ⟨_,rfl,?_⟩;have n0_:=a0z.mk (b3z (by repeat (first|(with_reducible first|exact HB.1|apply a3z|apply a1z|apply a2z)|exact HB.1)) hb);clear HB;have HB:=n0_;clear n0_;(try clear hb);(try clear hb2);(try clear hk);(try clear hi))|(go_at_call 16;(with_reducible refine (impl_SetOk.calls k _ _ l1 t102 _ ?side1 ?side2 A6.1).mono ?_);(case side1 => repeat (first|exact (Kd.f2z HR1.1 HB.1)|(with_reducible refine Kd.C_alloc ?_ _)|(with_reducible refine Kd.C_drewN ?_ _)|(with_reducible refine Kd.C_drew ?_)));(case side2 => exact HC1.1);rintro e w8 ⟨rfl,hb⟩;have n0_:=a0z.mk (b3z (by repeat (first|(with_reducible first|exact HB.1|apply a3z|apply a1z|apply a2z)|exact HB.1)) hb);clear HB;have HB:=n0_;clear n0_;(try clear hb);(try clear hb2);(try clear hk);(try clear hi)))
   go_meet
   case rel => exact ⟨_,(!t102),(by first|rfl|(simp;done)|(simp [*];done)),H',⟨by first|omega|exact Nat.le_refl _⟩,⟨by repeat (first|(with_reducible first|exact HB.1|apply a3z|apply a1z|apply a2z)|exact HB.1)⟩⟩
  ·replace c5:=Bool.eq_false_iff.mpr c5
   subst c5
   have H1 : (impl_SetLess.j0 k l0 l1 true) = some (r1,r2):=by rw [if_neg (show ¬ (false = true) by decide)] at H;exact H
   clear H
   have H:=H1
   clear H1
   have H':=a0z.mk H
   clear H
   go_wp2_with (first|((with_reducible refine b8z (f:=16) rfl ?_);refine d2z (some 12) rfl rfl Try.func16 (by kernel_rfl) rfl #[.slice A0 l0.length c0] rfl (by (try simp only [List.map_toArray,List.map_cons,List.map_nil]);first|done|rfl|(simp only [List.length_drop,List.length_take];rfl)) ?_;(with_reducible refine (impl_SetOk.calls k _ _ l0 false _ ?side1 ?side2 A4.1).mono ?_);(case side1 => repeat (first|exact (Kd.f2z HR0.1 HB.1)|(with_reducible refine Kd.C_alloc ?_ _)|(with_reducible refine Kd.C_drewN ?_ _)|(with_reducible refine Kd.C_drew ?_)));(case side2 => exact HC0.1);rintro e w9 ⟨rfl,hb⟩;refine ⟨_,rfl,?_⟩;have n0_:=a0z.mk (b3z (by repeat (first|(with_reducible first|exact HB.1|apply a3z|apply a1z|apply a2z)|exact HB.1)) hb);clear HB;have HB:=n0_;clear n0_;(try clear hb);(try clear hb2);(try clear hk);(try clear hi)))
   go_meet
   case rel => exact ⟨_,(true),(by first|rfl|(simp;done)|(simp [*];done)),H',⟨by first|omega|exact Nat.le_refl _⟩,⟨by repeat (first|(with_reducible first|exact HB.1|apply a3z|apply a1z|apply a2z)|exact HB.1)⟩⟩
 case rest =>
  clear HC3
  try clear c1
  try clear c2
  try clear p2
  try clear c5
  obtain ⟨kq,x18_2,rfl,HA,HJ2,HB⟩:=hcut
  cases kq with
  | zero => exact absurd HA.1 (by simp [impl_SetLess.j0])
  | succ kj2 =>
   have H:=HA.1
   clear HA
   simp only [impl_SetLess.j0] at H
   by_cases c10 : x18_2 = true
   ·subst c10
    have H1 : (some (([] : List (S44)),false)) = some (r1,r2):=by rw [if_pos rfl] at H;exact H
    clear H
    have H:=H1
    clear H1
    simp only [Option.some.injEq,Prod.mk.injEq] at H
    obtain ⟨rfl,rfl⟩:=H
    go_wp2
    go_ret2
    exact ⟨_,by first|rfl|(simp [c2z,c1z] <;> rfl)|(simp [*,c2z,c1z] <;> rfl),by first|exact Kd.R_nil _ _ _ _ _|exact Kd.N_nil _ _ _ _ _|exact Kd.V_nil _ _ _ _ _|exact Kd.Q_nil _ _ _ _ _|exact Kd.S_nil _ _ _ _ _,by repeat (first|(with_reducible first|exact HB.1|apply a3z|apply a1z|apply a2z)|exact HB.1)⟩
   ·replace c10:=Bool.eq_false_iff.mpr c10
    subst c10
    have H1 : ((impl_spans.f kj2 l0).bind fun t103 => ((impl_union.f kj2 t103).bind fun t106 => (impl_SetLess.l0 kj2 l1 ([] : List (S55)) t106 (t106.length : Int) 0))) = some (r1,r2):=by rw [if_neg (show ¬ (false = true) by decide)] at H;exact H
    clear H
    have H:=H1
    clear H1
    replace H:=Option.bind_eq_some_iff.mp H
    obtain ⟨t103,A110,H⟩:=H
    replace H : ((impl_union.f kj2 t103).bind fun t106 => (impl_SetLess.l0 kj2 l1 ([] : List (S55)) t106 (t106.length : Int) 0)) = some (r1,r2):=H
    have A11:=a0z.mk A110
    clear A110
    replace H:=Option.bind_eq_some_iff.mp H
    obtain ⟨t106,A120,H⟩:=H
    replace H : (impl_SetLess.l0 kj2 l1 ([] : List (S55)) t106 (t106.length : Int) 0) = some (r1,r2):=H
    have A12:=a0z.mk A120
    clear A120
    have H':=a0z.mk H
    clear H
    go_wp2_with (first|((with_reducible refine b8z (f:=40) rfl ?_);refine d2z (some 20) rfl rfl Try.func40 (by kernel_rfl) rfl #[.slice A0 l0.length c0] rfl (by (try simp only [List.map_toArray,List.map_cons,List.map_nil]);first|done|rfl|(simp only [List.length_drop,List.length_take];rfl)) ?_;(with_reducible refine (impl_spans.calls kj2 _ _ l0 t103 _ ?side1 ?side2 A11.1).mono ?_);(case side1 => repeat (first|exact (Kd.f2z HR0.1 HB.1)|(with_reducible refine Kd.C_alloc ?_ _)|(with_reducible refine Kd.C_drewN ?_ _)|(with_reducible refine Kd.C_drew ?_)));(case side2 => exact HC0.1);rintro e w13 ⟨v104,rfl,ho0,hb⟩;refine ⟨_,rfl,?_⟩;have n0_:=a0z.mk (Kd.d5z ho0 (b1z (by repeat (first|(with_reducible first|exact HB.1|apply a3z|apply a1z|apply a2z)|exact HB.1))));have n1_:=a0z.mk (b3z (by repeat (first|(with_reducible first|exact HB.1|apply a3z|apply a1z|apply a2z)|exact HB.1)) hb);clear HB;have HO105:=n0_;have HB:=n1_;clear n0_ n1_;(try clear hb);(try clear hb2);(try clear hk);(try clear hi);(try clear ho0);obtain ⟨Ao14,co14,eo14⟩:=Kd.d3z HO105.1;subst eo14)|((with_reducible refine b8z (f:=48) rfl ?_);refine d2z (some 21) rfl rfl Try.func48 (by kernel_rfl) rfl #[.slice Ao14 t103.length co14] rfl (by (try simp only [List.map_toArray,List.map_cons,List.map_nil]);first|done|rfl|(simp only [List.length_drop,List.length_take];rfl)) ?_;(with_reducible refine (impl_union.calls kj2 _ _ t103 t106 _ ?side1 ?side2 A12.1).mono ?_);(case side1 => repeat (first|exact (Kd.b4z HO105.1).2.2|(with_reducible refine Kd.C_alloc ?_ _)|(with_reducible refine Kd.C_drewN ?_ _)|(with_reducible refine Kd.C_drew ?_)));(case side2 => exact (Kd.b4z HO105.1).2.1);rintro e w15 ⟨v107,rfl,ho0,hb⟩;refine ⟨_,rfl,?_⟩;have n0_:=a0z.mk (Kd.c4z (by (with_reducible repeat (first|apply Kd.R_alloc|apply Kd.a4z|apply Kd.a5z));exact HO105.1) (Kd.d1z ho0) hb);have n1_:=a0z.mk (Kd.d5z (Kd.d0z ho0 (Kd.R_lt (by (with_reducible repeat (first|apply Kd.R_alloc|apply Kd.a4z|apply Kd.a5z));exact HO105.1))) (b1z (by repeat (first|(with_reducible first|exact HB.1|apply a3z|apply a1z|apply a2z)|exact HB.1))));have n2_:=a0z.mk (b3z (by repeat (first|(with_reducible first|exact HB.1|apply a3z|apply a1z|apply a2z)|exact HB.1)) hb);clear HO105;clear HB;have HO105:=n0_;have HO108:=n1_;have HB:=n2_;clear n0_ n1_ n2_;(try clear hb);(try clear hb2);(try clear hk);(try clear hi);(try clear ho0);obtain ⟨Ao16,co16,eo16⟩:=Kd.d3z HO108.1;subst eo16))
    go_loopg [6,23] kj2 (fun kq v6 v23 w' => ∃ (x6_2 : List (S55)) (x23_2 : Int),v23 = .int .i64 x23_2 ∧ a0z (impl_SetLess.l0 kq l1 x6_2 t106 (t106.length : Int) x23_2 = some (r1,r2)) ∧ a0z (kq ≤ kj2) ∧ a0z (Kd.R k55 55 w' w.heap.size (fun k_ => some k_ ≠ ((.slice Ao16 t106.length co16) : Value).ownBlock) v6 x6_2) ∧ a0z (Kd.R k55 55 w' w.heap.size (fun k_ => some k_ ≠ (v6 : Value).ownBlock) (.slice Ao16 t106.length co16) t106) ∧ a0z (Below w.heap.size w w'))
    case atStart => exact ⟨(([] : List (S55))),(0),(by first|rfl|(simp;done)|(simp [*];done)),H',⟨Nat.le_refl _⟩,⟨by first|exact Kd.R_nil _ _ _ _ _|exact Kd.N_nil _ _ _ _ _|exact Kd.V_nil _ _ _ _ _|exact Kd.Q_nil _ _ _ _ _|exact Kd.S_nil _ _ _ _ _⟩,⟨by (with_reducible repeat (first|apply Kd.R_alloc|apply Kd.a4z|apply Kd.a5z));exact Kd.b5z HO108.1 (fun _ hk => (by simp [Value.ownBlock]))⟩,⟨by repeat (first|(with_reducible first|exact HB.1|apply a3z|apply a1z|apply a2z)|exact HB.1)⟩⟩
    case round =>
     clear H'
     try clear c1
     try clear c2
     try clear p2
     try clear c4
     try clear c5
     try clear c10
     try clear c16
     try clear p2
     obtain ⟨x6_2,x23_2,rfl,HA,HK2,HO_6,HO_21,HB⟩:=hrel
     cases gk with
     | zero => exact absurd HA.1 (by simp [impl_SetLess.l0])
     | succ k2 =>
      have H:=HA.1
      clear HA
      simp only [impl_SetLess.l0] at H
      by_cases c17 : x23_2 < (t106.length : Int)
      ·rw [if_pos c17] at H
       have c17b0 : decide (x23_2 < (t106.length : Int)) = true:=decide_eq_true c17
       clear c17
       by_cases c18 : 0 ≤ x23_2
       ·rw [if_pos c18] at H
        have c18b0 : decide (0 ≤ x23_2) = true:=decide_eq_true c18
        clear c18
        by_cases c19 : x23_2 < (t106.length : Int)
        ·rw [if_pos c19] at H
         have c19b0 : decide (x23_2 < (t106.length : Int)) = true:=decide_eq_true c19
         clear c19
         replace H:=Option.bind_eq_some_iff.mp H
         obtain ⟨t118,A200,H⟩:=H
         replace H : ((impl_union.f k2 t118).bind fun t121 => (impl_SetLess.l1 k2 l1 x6_2 t106 (t106.length : Int) x23_2 t121 (t121.length : Int) 0 ((b0z t106 x23_2).f0) ((b0z t106 x23_2).f1))) = some (r1,r2):=H
         have A20:=a0z.mk A200
         clear A200
         replace H:=Option.bind_eq_some_iff.mp H
         obtain ⟨t121,A210,H⟩:=H
         replace H : (impl_SetLess.l1 k2 l1 x6_2 t106 (t106.length : Int) x23_2 t121 (t121.length : Int) 0 ((b0z t106 x23_2).f0) ((b0z t106 x23_2).f1)) = some (r1,r2):=H
         have A21:=a0z.mk A210
         clear A210
         have H':=a0z.mk H
         clear H
         have p116 : 0 ≤ (x23_2 : Int):=of_decide_eq_true (by first|(with_reducible assumption)|assumption)
         have q116 : x23_2 < (t106.length : Int):=of_decide_eq_true (by first|(with_reducible assumption)|assumption)
         obtain ⟨ad116,e116,hx116_0,hx116_1⟩:=i8z (Kd.b4z HO_21.1).2.2 x23_2 p116 q116
         cases e116
         replace p116:=eq_true p116
         replace q116:=eq_true q116
         go_wp2_with (first|((with_reducible refine d4z (N:=8) rfl ?_);refine e0z ?hg (N:=8) ?hd (cs:=#[.int .i64 0,.int .i64 0]) (t:=55) ?hr ?_;(case hd => rfl);(case hg => rfl);(case hr => first|(go_simp;done)|(go_simp;rfl));intro gb117 hg w22 hbox hb;have n0_:=a0z.mk (Kd.c3z (Kd.f4z (by (with_reducible repeat (first|apply Kd.R_alloc|apply Kd.a4z|apply Kd.a5z));exact HO_6.1) gb117 (Nat.le_of_eq hg.symm)) hb);have n1_:=a0z.mk (Kd.c3z (Kd.f4z (by (with_reducible repeat (first|apply Kd.R_alloc|apply Kd.a4z|apply Kd.a5z));exact HO_21.1) gb117 (Nat.le_of_eq hg.symm)) hb);have n2_:=a0z.mk (b3z (by repeat (first|(with_reducible first|exact HB.1|apply a3z|apply a1z|apply a2z)|exact HB.1)) hb);have n3_:=a0z.mk (hbox);have n4_:=a0z.mk ((by rw [hg];exact (b1z (by repeat (first|(with_reducible first|exact HB.1|apply a3z|apply a1z|apply a2z)|exact HB.1))) : w.heap.size ≤ gb117));have n5_:=a0z.mk ((by rw [hg];exact (b1z (by repeat (first|(with_reducible first|exact HB.1|apply a3z|apply a1z|apply a2z)|exact HB.1))) : w.heap.size ≤ gb117));clear HO_6;clear HO_21;clear HB;have HO_6:=n0_;have HO_21:=n1_;have HB:=n2_;have BK117:=n3_;have GW117:=n4_;have GE117:=n5_;clear n0_ n1_ n2_ n3_ n4_ n5_;clear hb hbox hg;have hcz23_0 : w22.cell? ⟨gb117,0,none⟩ = some (.int .i64 0):=(b2z BK117.1 0).trans rfl;have hcz23_1 : w22.cell? ⟨gb117,1,none⟩ = some (.int .i64 0):=(b2z BK117.1 1).trans rfl;have hfz23_0:=b7z BK117.1 0;have hfz23_1:=b7z BK117.1 1)|((with_reducible refine b8z (f:=40) rfl ?_);refine d2z (some 28) rfl rfl Try.func40 (by kernel_rfl) rfl #[.slice A1 l1.length c1] rfl (by (try simp only [List.map_toArray,List.map_cons,List.map_nil]);first|done|rfl|(simp only [List.length_drop,List.length_take];rfl)) ?_;(with_reducible refine (impl_spans.calls k2 _ _ l1 t118 _ ?side1 ?side2 A20.1).mono ?_);(case side1 => exact Kd.f2z HR1.1 (by repeat (first|(with_reducible first|exact HB.1|apply a3z|apply a1z|apply a2z|refine a6z ?_ GE117.1)|exact HB.1)));(case side2 => exact HC1.1);rintro e w24 ⟨v119,rfl,ho0,hb⟩;refine ⟨_,rfl,?_⟩;have n0_:=a0z.mk (Kd.c4z (by (with_reducible repeat (first|apply Kd.R_alloc|apply Kd.a4z|apply Kd.a5z));exact (Kd.b5z (Kd.R_far (p:=⟨gb117,1,none⟩) (Kd.R_far (p:=⟨gb117,0,none⟩) (Kd.b5z HO_6.1 (fun k_ hk => (⟨hk,hk.2⟩ : _ ∧ k_ ≠ gb117))) (fun _ hk => hk.2) (.int .i64 ((b0z t106 x23_2).f0))) (fun _ hk => hk.2) (.int .i64 ((b0z t106 x23_2).f1))) (fun _ h_ => h_.1))) (Kd.d1z ho0) hb);have n1_:=a0z.mk (Kd.c4z (by (with_reducible repeat (first|apply Kd.R_alloc|apply Kd.a4z|apply Kd.a5z));exact (Kd.b5z (Kd.R_far (p:=⟨gb117,1,none⟩) (Kd.R_far (p:=⟨gb117,0,none⟩) (Kd.b5z HO_21.1 (fun k_ hk => (⟨hk,hk.2⟩ : _ ∧ k_ ≠ gb117))) (fun _ hk => hk.2) (.int .i64 ((b0z t106 x23_2).f0))) (fun _ hk => hk.2) (.int .i64 ((b0z t106 x23_2).f1))) (fun _ h_ => h_.1))) (Kd.d1z ho0) hb);have n2_:=a0z.mk (Kd.d5z (Kd.R_newB (Kd.d0z (Kd.d0z ho0 (Kd.R_lt (by (with_reducible repeat (first|apply Kd.R_alloc|apply Kd.a4z|apply Kd.a5z));exact (Kd.b5z (Kd.R_far (p:=⟨gb117,1,none⟩) (Kd.R_far (p:=⟨gb117,0,none⟩) (Kd.b5z HO_6.1 (fun k_ hk => (⟨hk,hk.2⟩ : _ ∧ k_ ≠ gb117))) (fun _ hk => hk.2) (.int .i64 ((b0z t106 x23_2).f0))) (fun _ hk => hk.2) (.int .i64 ((b0z t106 x23_2).f1))) (fun _ h_ => h_.1))))) (Kd.R_lt (by (with_reducible repeat (first|apply Kd.R_alloc|apply Kd.a4z|apply Kd.a5z));exact (Kd.b5z (Kd.R_far (p:=⟨gb117,1,none⟩) (Kd.R_far (p:=⟨gb117,0,none⟩) (Kd.b5z HO_21.1 (fun k_ hk => (⟨hk,hk.2⟩ : _ ∧ k_ ≠ gb117))) (fun _ hk => hk.2) (.int .i64 ((b0z t106 x23_2).f0))) (fun _ hk => hk.2) (.int .i64 ((b0z t106 x23_2).f1))) (fun _ h_ => h_.1))))) (g:=gb117) (o:=.cells #[.int .i64 ((b0z t106 x23_2).f0),.int .i64 ((b0z t106 x23_2).f1)] 55 (0,0)) (by (with_reducible repeat (first|refine a8z ?_ _|refine a9z ?_|refine a7z ?_ _));refine d6z (cs:=#[.int .i64 ((b0z t106 x23_2).f0),.int .i64 0]) ?_ 1 _ rfl;(with_reducible repeat (first|refine a8z ?_ _|refine a9z ?_|refine a7z ?_ _));refine d6z (cs:=#[.int .i64 0,.int .i64 0]) ?_ 0 _ rfl;(with_reducible repeat (first|refine a8z ?_ _|refine a9z ?_|refine a7z ?_ _));exact BK117.1)) (b1z (by repeat (first|(with_reducible first|exact HB.1|apply a3z|apply a1z|apply a2z|refine a6z ?_ GE117.1)|exact HB.1))));have n3_:=a0z.mk (d9z (g:=gb117) (o:=.cells #[.int .i64 ((b0z t106 x23_2).f0),.int .i64 ((b0z t106 x23_2).f1)] 55 (0,0)) (by (with_reducible repeat (first|refine a8z ?_ _|refine a9z ?_|refine a7z ?_ _));refine d6z (cs:=#[.int .i64 ((b0z t106 x23_2).f0),.int .i64 0]) ?_ 1 _ rfl;(with_reducible repeat (first|refine a8z ?_ _|refine a9z ?_|refine a7z ?_ _));refine d6z (cs:=#[.int .i64 0,.int .i64 0]) ?_ 0 _ rfl;(with_reducible repeat (first|refine a8z ?_ _|refine a9z ?_|refine a7z ?_ _));exact BK117.1) hb);have n4_:=a0z.mk (b3z (by repeat (first|(with_reducible first|exact HB.1|apply a3z|apply a1z|apply a2z|refine a6z ?_ GE117.1)|exact HB.1)) hb);clear HO_6;clear HO_21;clear BK117;clear HB;have HO_6:=n0_;have HO_21:=n1_;have HO120:=n2_;have BK117:=n3_;have HB:=n4_;clear n0_ n1_ n2_ n3_ n4_;(try clear hb);(try clear hb2);(try clear hk);(try clear hi);(try clear ho0);obtain ⟨Ao25,co25,eo25⟩:=Kd.d3z HO120.1;subst eo25)|((with_reducible refine b8z (f:=48) rfl ?_);refine d2z (some 29) rfl rfl Try.func48 (by kernel_rfl) rfl #[.slice Ao25 t118.length co25] rfl (by (try simp only [List.map_toArray,List.map_cons,List.map_nil]);first|done|rfl|(simp only [List.length_drop,List.length_take];rfl)) ?_;(with_reducible refine (impl_union.calls k2 _ _ t118 t121 _ ?side1 ?side2 A21.1).mono ?_);(case side1 => repeat (first|exact (Kd.b4z HO120.1).2.2|(with_reducible refine Kd.C_alloc ?_ _)|(with_reducible refine Kd.C_drewN ?_ _)|(with_reducible refine Kd.C_drew ?_)));(case side2 => exact (Kd.b4z HO120.1).2.1);rintro e w26 ⟨v122,rfl,ho0,hb⟩;refine ⟨_,rfl,?_⟩;have n0_:=a0z.mk (Kd.c4z (by (with_reducible repeat (first|apply Kd.R_alloc|apply Kd.a4z|apply Kd.a5z));exact HO_6.1) (Kd.d1z ho0) hb);have n1_:=a0z.mk (Kd.c4z (by (with_reducible repeat (first|apply Kd.R_alloc|apply Kd.a4z|apply Kd.a5z));exact HO_21.1) (Kd.d1z ho0) hb);have n2_:=a0z.mk (Kd.c4z (by (with_reducible repeat (first|apply Kd.R_alloc|apply Kd.a4z|apply Kd.a5z));exact HO120.1) (Kd.d1z ho0) hb);have n3_:=a0z.mk (Kd.d5z (Kd.R_newB (Kd.d0z (Kd.d0z (Kd.d0z ho0 (Kd.R_lt (by (with_reducible repeat (first|apply Kd.R_alloc|apply Kd.a4z|apply Kd.a5z));exact HO_6.1))) (Kd.R_lt (by (with_reducible repeat (first|apply Kd.R_alloc|apply Kd.a4z|apply Kd.a5z));exact HO_21.1))) (Kd.R_lt (by (with_reducible repeat (first|apply Kd.R_alloc|apply Kd.a4z|apply Kd.a5z));exact HO120.1))) (g:=gb117) (o:=.cells #[.int .i64 ((b0z t106 x23_2).f0),.int .i64 ((b0z t106 x23_2).f1)] 55 (0,0)) (by (with_reducible repeat (first|refine a8z ?_ _|refine a9z ?_|refine a7z ?_ _));exact BK117.1)) (b1z (by repeat (first|(with_reducible first|exact HB.1|apply a3z|apply a1z|apply a2z|refine a6z ?_ GE117.1)|exact HB.1))));have n4_:=a0z.mk (d9z (g:=gb117) (o:=.cells #[.int .i64 ((b0z t106 x23_2).f0),.int .i64 ((b0z t106 x23_2).f1)] 55 (0,0)) (by (with_reducible repeat (first|refine a8z ?_ _|refine a9z ?_|refine a7z ?_ _));exact BK117.1) hb);have n5_:=a0z.mk (b3z (by repeat (first|(with_reducible first|exact HB.1|apply a3z|apply a1z|apply a2z|refine a6z ?_ GE117.1)|exact HB.1)) hb);clear HO_6;clear HO_21;clear HO120;clear BK117;clear HB;have HO_6:=n0_;have HO_21:=n1_;have HO120:=n2_;have HO123:=n3_;have BK117:=n4_;have HB:=n5_;clear n0_ n1_ n2_ n3_ n4_ n5_;(try clear hb);(try clear hb2);(try clear hk);(try clear hi);(try clear ho0);obtain ⟨Ao27,co27,eo27⟩:=Kd.d3z HO123.1;subst eo27))
         go_loopg [6,31] k2 (fun kq v6 v31 w' => ∃ (x6_3 : List (S55)) (x31_3 : Int) (x118000_3 : Int),v31 = .int .i64 x31_3 ∧ a0z (impl_SetLess.l1 kq l1 x6_3 t106 (t106.length : Int) x23_2 t121 (t121.length : Int) x31_3 x118000_3 ((b0z t106 x23_2).f1) = some (r1,r2)) ∧ a0z (kq ≤ k2) ∧ a0z (Kd.R k55 55 w' w.heap.size (fun k_ => some k_ ≠ ((.slice (some ad116) t106.length co16) : Value).ownBlock ∧ some k_ ≠ ((.slice Ao27 t121.length co27) : Value).ownBlock ∧ k_ ≠ gb117) v6 x6_3) ∧ a0z (Kd.R k55 55 w' w.heap.size (fun k_ => some k_ ≠ (v6 : Value).ownBlock ∧ some k_ ≠ ((.slice Ao27 t121.length co27) : Value).ownBlock ∧ k_ ≠ gb117) (.slice (some ad116) t106.length co16) t106) ∧ a0z (Kd.R k55 55 w' w.heap.size (fun k_ => some k_ ≠ (v6 : Value).ownBlock ∧ some k_ ≠ ((.slice (some ad116) t106.length co16) : Value).ownBlock ∧ k_ ≠ gb117) (.slice Ao27 t121.length co27) t121) ∧ a0z (w'.heap[gb117]? = some (.cells #[.int .i64 x118000_3,.int .i64 ((b0z t106 x23_2).f1)] 55 (0,0))) ∧ a0z (Below w.heap.size w w'))
         case atStart => exact ⟨(x6_2),(0),((b0z t106 x23_2).f0),(by first|rfl|(simp;done)|(simp [*];done)),H',⟨Nat.le_refl _⟩,⟨by (with_reducible repeat (first|apply Kd.R_alloc|apply Kd.a4z|apply Kd.a5z));exact Kd.b5z HO_6.1 (fun _ hk => ⟨hk.1.1.1,⟨hk.2,hk.1.1.2⟩⟩)⟩,⟨by (with_reducible repeat (first|apply Kd.R_alloc|apply Kd.a4z|apply Kd.a5z));exact Kd.b5z HO_21.1 (fun _ hk => ⟨hk.1.1.1,⟨hk.2,hk.1.1.2⟩⟩)⟩,⟨by (with_reducible repeat (first|apply Kd.R_alloc|apply Kd.a4z|apply Kd.a5z));exact Kd.b5z HO123.1 (fun _ hk => ⟨hk.1.1.1.2,⟨hk.1.1.2,hk.2⟩⟩)⟩,⟨by (with_reducible repeat (first|refine a8z ?_ _|refine a9z ?_|refine a7z ?_ _));exact BK117.1⟩,⟨by repeat (first|(with_reducible first|exact HB.1|apply a3z|apply a1z|apply a2z|refine a6z ?_ GE117.1)|exact HB.1)⟩⟩
         case round =>
          clear H'
          try clear c1
          try clear p1
          try clear q1
          try clear hx1
          try clear c2
          try clear p2
          try clear c4
          try clear c5
          try clear c10
          try clear p11
          try clear q11
          try clear hx11
          try clear c16
          try clear c17
          try clear c17b0
          try clear c18
          try clear c18b0
          try clear c19
          try clear c19b0
          try clear c27
          try clear hcz23_0
          try clear hcz23_1
          try clear hfz23_0
          try clear hfz23_1
          try clear hx116_0
          try clear hx116_1
          try clear p116
          try clear p2
          try clear q116
          obtain ⟨x6_3,x31_3,x118000_3,rfl,HA,HK3,HO_6,HO_21,HO_29,BK117,HB⟩:=hrel
          cases gk with
          | zero => exact absurd HA.1 (by simp [impl_SetLess.l1])
          | succ k3 =>
           have H:=HA.1
           clear HA
           simp only [impl_SetLess.l1] at H
           by_cases c28 : x31_3 < (t121.length : Int)
           ·rw [if_pos c28] at H
            have c28b0 : decide (x31_3 < (t121.length : Int)) = true:=decide_eq_true c28
            clear c28
            by_cases c29 : 0 ≤ x31_3
            ·rw [if_pos c29] at H
             have c29b0 : decide (0 ≤ x31_3) = true:=decide_eq_true c29
             clear c29
             by_cases c30 : x31_3 < (t121.length : Int)
             ·rw [if_pos c30] at H
              have c30b0 : decide (x31_3 < (t121.length : Int)) = true:=decide_eq_true c30
              clear c30
              have HC31:=a0z.mk H
              clear H
              have p127 : 0 ≤ (x31_3 : Int):=of_decide_eq_true (by first|(with_reducible assumption)|assumption)
              have q127 : x31_3 < (t121.length : Int):=of_decide_eq_true (by first|(with_reducible assumption)|assumption)
              obtain ⟨ad127,e127,hx127_0,hx127_1⟩:=i8z (Kd.b4z HO_29.1).2.2 x31_3 p127 q127
              cases e127
              replace p127:=eq_true p127
              replace q127:=eq_true q127
              go_upto_region 10 with (first|((with_reducible refine d4z (N:=10) rfl ?_);refine e0z ?hg (N:=10) ?hd (cs:=#[.int .i64 0,.int .i64 0]) (t:=55) ?hr ?_;(case hd => rfl);(case hg => rfl);(case hr => first|(go_simp;done)|(go_simp;rfl));intro gb128 hg w32 hbox hb;have n0_:=a0z.mk (Kd.c3z (Kd.f4z (by (with_reducible repeat (first|apply Kd.R_alloc|apply Kd.a4z|apply Kd.a5z));exact HO_6.1) gb128 (Nat.le_of_eq hg.symm)) hb);have n1_:=a0z.mk (Kd.c3z (Kd.f4z (by (with_reducible repeat (first|apply Kd.R_alloc|apply Kd.a4z|apply Kd.a5z));exact HO_21.1) gb128 (Nat.le_of_eq hg.symm)) hb);have n2_:=a0z.mk (Kd.c3z (Kd.f4z (by (with_reducible repeat (first|apply Kd.R_alloc|apply Kd.a4z|apply Kd.a5z));exact HO_29.1) gb128 (Nat.le_of_eq hg.symm)) hb);have n3_:=a0z.mk (d9z (g:=gb117) (o:=.cells #[.int .i64 x118000_3,.int .i64 ((b0z t106 x23_2).f1)] 55 (0,0)) (by (with_reducible repeat (first|refine a8z ?_ _|refine a9z ?_|refine a7z ?_ _));exact BK117.1) hb);have n4_:=a0z.mk (b3z (by repeat (first|(with_reducible first|exact HB.1|apply a3z|apply a1z|apply a2z|refine a6z ?_ GE117.1)|exact HB.1)) hb);have n5_:=a0z.mk (hbox);have n6_:=a0z.mk ((by rw [hg];exact (b1z (by repeat (first|(with_reducible first|exact HB.1|apply a3z|apply a1z|apply a2z|refine a6z ?_ GE117.1)|exact HB.1))) : w.heap.size ≤ gb128));have n7_:=a0z.mk ((by rw [hg];exact (b1z (by repeat (first|(with_reducible first|exact HB.1|apply a3z|apply a1z|apply a2z|refine a6z ?_ GE117.1)|exact HB.1))) : w.heap.size ≤ gb128));have n8_:=a0z.mk ((by rw [hg];exact Nat.ne_of_lt (g7z (g:=gb117) (o:=.cells #[.int .i64 x118000_3,.int .i64 ((b0z t106 x23_2).f1)] 55 (0,0)) (by (with_reducible repeat (first|refine a8z ?_ _|refine a9z ?_|refine a7z ?_ _));exact BK117.1)) : gb117 ≠ gb128));have n9_:=a0z.mk ((by rw [hg];exact Nat.ne_of_gt (g7z (g:=gb117) (o:=.cells #[.int .i64 x118000_3,.int .i64 ((b0z t106 x23_2).f1)] 55 (0,0)) (by (with_reducible repeat (first|refine a8z ?_ _|refine a9z ?_|refine a7z ?_ _));exact BK117.1)) : gb128 ≠ gb117));clear HO_6;clear HO_21;clear HO_29;clear BK117;clear HB;have HO_6:=n0_;have HO_21:=n1_;have HO_29:=n2_;have BK117:=n3_;have HB:=n4_;have BK128:=n5_;have GW128:=n6_;have GE128:=n7_;have NB117_128:=n8_;have NB128_117:=n9_;clear n0_ n1_ n2_ n3_ n4_ n5_ n6_ n7_ n8_ n9_;clear hb hbox hg;have hnb33:=NB128_117.1;have hnc33:=NB117_128.1;have hcz34_0 : w32.cell? ⟨gb128,0,none⟩ = some (.int .i64 0):=(b2z BK128.1 0).trans rfl;have hcz34_1 : w32.cell? ⟨gb128,1,none⟩ = some (.int .i64 0):=(b2z BK128.1 1).trans rfl;have hfz34_0:=b7z BK128.1 0;have hfz34_1:=b7z BK128.1 1))
              (try simp only [Act.put,sA_,sZ_,sS_])
              go_cut [46] (fun v46 wc => ∃ (kq : Nat) (x46_30 : Bool),v46 = .bool x46_30 ∧ a0z (impl_SetLess.j3 kq l1 x6_3 t106 (t106.length : Int) x23_2 t121 (t121.length : Int) x31_3 x46_30 x118000_3 ((b0z t106 x23_2).f1) ((b0z t121 x31_3).f0) ((b0z t121 x31_3).f1) = some (r1,r2)) ∧ a0z (kq ≤ k3) ∧ a0z (Kd.R k55 55 wc w.heap.size (fun k_ => some k_ ≠ ((.slice (some ad116) t106.length co16) : Value).ownBlock ∧ some k_ ≠ ((.slice (some ad127) t121.length co27) : Value).ownBlock ∧ k_ ≠ gb117 ∧ k_ ≠ gb128) u6 x6_3) ∧ a0z (Kd.R k55 55 wc w.heap.size (fun k_ => some k_ ≠ (u6 : Value).ownBlock ∧ some k_ ≠ ((.slice (some ad127) t121.length co27) : Value).ownBlock ∧ k_ ≠ gb117 ∧ k_ ≠ gb128) (.slice (some ad116) t106.length co16) t106) ∧ a0z (Kd.R k55 55 wc w.heap.size (fun k_ => some k_ ≠ (u6 : Value).ownBlock ∧ some k_ ≠ ((.slice (some ad116) t106.length co16) : Value).ownBlock ∧ k_ ≠ gb117 ∧ k_ ≠ gb128) (.slice (some ad127) t121.length co27) t121) ∧ a0z (wc.heap[gb117]? = some (.cells #[.int .i64 x118000_3,.int .i64 ((b0z t106 x23_2).f1)] 55 (0,0))) ∧ a0z (wc.heap[gb128]? = some (.cells #[.int .i64 ((b0z t121 x31_3).f0),.int .i64 ((b0z t121 x31_3).f1)] 55 (0,0))) ∧ a0z (Below w.heap.size w wc))
              case first =>
               have H:=HC31.1
               clear HC31
               by_cases c35 : ((b0z t121 x31_3).f1) < x118000_3
               ·rw [if_pos c35] at H
                have c35b0 : decide (((b0z t121 x31_3).f1) < x118000_3) = true:=decide_eq_true c35
                clear c35
                (first|rw [c35b0]|(simp only [i64_w,i32_w];rw [c35b0])|skip)
                have H':=a0z.mk H
                clear H
                have hnb36:=NB128_117.1
                have hnc36:=NB117_128.1
                have hcz37_0 : w32.cell? ⟨gb128,0,none⟩ = some (.int .i64 0):=(b2z BK128.1 0).trans rfl
                have hcz37_1 : w32.cell? ⟨gb128,1,none⟩ = some (.int .i64 0):=(b2z BK128.1 1).trans rfl
                have hfz37_0:=b7z BK128.1 0
                have hfz37_1:=b7z BK128.1 1
                have hcz38_0 : w32.cell? ⟨gb117,0,none⟩ = some (.int .i64 x118000_3):=(b2z BK117.1 0).trans rfl
                have hcz38_1 : w32.cell? ⟨gb117,1,none⟩ = some (.int .i64 ((b0z t106 x23_2).f1)):=(b2z BK117.1 1).trans rfl
                have hfz38_0:=b7z BK117.1 0
                have hfz38_1:=b7z BK117.1 1
                go_wp2
                go_meet
                case rel => exact ⟨_,(true),(by first|rfl|(simp;done)|(simp [*];done)),H',⟨by have:=HJ2.1;have:=HK2.1;have:=HK3.1;first|omega|exact Nat.le_refl _⟩,⟨by (with_reducible repeat (first|apply Kd.R_alloc|apply Kd.a4z|apply Kd.a5z));exact Kd.b5z (Kd.R_far (p:=⟨gb128,1,none⟩) (Kd.R_far (p:=⟨gb128,0,none⟩) (Kd.b5z HO_6.1 (fun k_ hk => (⟨hk,hk.2⟩ : _ ∧ k_ ≠ gb128))) (fun _ hk => hk.2) (.int .i64 ((b0z t121 x31_3).f0))) (fun _ hk => hk.2) (.int .i64 ((b0z t121 x31_3).f1))) (fun _ hk => ⟨hk.1.1.1,⟨hk.1.1.2.1,⟨hk.1.1.2.2,hk.1.2⟩⟩⟩)⟩,⟨by (with_reducible repeat (first|apply Kd.R_alloc|apply Kd.a4z|apply Kd.a5z));exact Kd.b5z (Kd.R_far (p:=⟨gb128,1,none⟩) (Kd.R_far (p:=⟨gb128,0,none⟩) (Kd.b5z HO_21.1 (fun k_ hk => (⟨hk,hk.2⟩ : _ ∧ k_ ≠ gb128))) (fun _ hk => hk.2) (.int .i64 ((b0z t121 x31_3).f0))) (fun _ hk => hk.2) (.int .i64 ((b0z t121 x31_3).f1))) (fun _ hk => ⟨hk.1.1.1,⟨hk.1.1.2.1,⟨hk.1.1.2.2,hk.1.2⟩⟩⟩)⟩,⟨by (with_reducible repeat (first|apply Kd.R_alloc|apply Kd.a4z|apply Kd.a5z));exact Kd.b5z (Kd.R_far (p:=⟨gb128,1,none⟩) (Kd.R_far (p:=⟨gb128,0,none⟩) (Kd.b5z HO_29.1 (fun k_ hk => (⟨hk,hk.2⟩ : _ ∧ k_ ≠ gb128))) (fun _ hk => hk.2) (.int .i64 ((b0z t121 x31_3).f0))) (fun _ hk => hk.2) (.int .i64 ((b0z t121 x31_3).f1))) (fun _ hk => ⟨hk.1.1.1,⟨hk.1.1.2.1,⟨hk.1.1.2.2,hk.1.2⟩⟩⟩)⟩,⟨by (with_reducible repeat (first|refine a8z ?_ _|refine a9z ?_|refine a7z ?_ _));refine f6z ?_ NB117_128.1 _;(with_reducible repeat (first|refine a8z ?_ _|refine a9z ?_|refine a7z ?_ _));refine f6z ?_ NB117_128.1 _;(with_reducible repeat (first|refine a8z ?_ _|refine a9z ?_|refine a7z ?_ _));exact BK117.1⟩,⟨by (with_reducible repeat (first|refine a8z ?_ _|refine a9z ?_|refine a7z ?_ _));refine d6z (cs:=#[.int .i64 ((b0z t121 x31_3).f0),.int .i64 0]) ?_ 1 _ rfl;(with_reducible repeat (first|refine a8z ?_ _|refine a9z ?_|refine a7z ?_ _));refine d6z (cs:=#[.int .i64 0,.int .i64 0]) ?_ 0 _ rfl;(with_reducible repeat (first|refine a8z ?_ _|refine a9z ?_|refine a7z ?_ _));exact BK128.1⟩,⟨by repeat (first|(with_reducible first|exact HB.1|apply a3z|apply a1z|apply a2z|refine a6z ?_ GE117.1|refine a6z ?_ GE128.1)|exact HB.1)⟩⟩
               ·rw [if_neg c35] at H
                have c35b0 : decide (((b0z t121 x31_3).f1) < x118000_3) = false:=decide_eq_false c35
                clear c35
                (first|rw [c35b0]|(simp only [i64_w,i32_w];rw [c35b0])|skip)
                have H':=a0z.mk H
                clear H
                have hnb39:=NB128_117.1
                have hnc39:=NB117_128.1
                have hcz40_0 : w32.cell? ⟨gb128,0,none⟩ = some (.int .i64 0):=(b2z BK128.1 0).trans rfl
                have hcz40_1 : w32.cell? ⟨gb128,1,none⟩ = some (.int .i64 0):=(b2z BK128.1 1).trans rfl
                have hfz40_0:=b7z BK128.1 0
                have hfz40_1:=b7z BK128.1 1
                have hcz41_0 : w32.cell? ⟨gb117,0,none⟩ = some (.int .i64 x118000_3):=(b2z BK117.1 0).trans rfl
                have hcz41_1 : w32.cell? ⟨gb117,1,none⟩ = some (.int .i64 ((b0z t106 x23_2).f1)):=(b2z BK117.1 1).trans rfl
                have hfz41_0:=b7z BK117.1 0
                have hfz41_1:=b7z BK117.1 1
                go_wp2
                go_meet
                case rel => exact ⟨_,(decide (((b0z t121 x31_3).f0) > ((b0z t106 x23_2).f1))),(by first|rfl|(simp;done)|(simp [*];done)),H',⟨by have:=HJ2.1;have:=HK2.1;have:=HK3.1;first|omega|exact Nat.le_refl _⟩,⟨by (with_reducible repeat (first|apply Kd.R_alloc|apply Kd.a4z|apply Kd.a5z));exact Kd.b5z (Kd.R_far (p:=⟨gb128,1,none⟩) (Kd.R_far (p:=⟨gb128,0,none⟩) (Kd.b5z HO_6.1 (fun k_ hk => (⟨hk,hk.2⟩ : _ ∧ k_ ≠ gb128))) (fun _ hk => hk.2) (.int .i64 ((b0z t121 x31_3).f0))) (fun _ hk => hk.2) (.int .i64 ((b0z t121 x31_3).f1))) (fun _ hk => ⟨hk.1.1.1,⟨hk.1.1.2.1,⟨hk.1.1.2.2,hk.1.2⟩⟩⟩)⟩,⟨by (with_reducible repeat (first|apply Kd.R_alloc|apply Kd.a4z|apply Kd.a5z));exact Kd.b5z (Kd.R_far (p:=⟨gb128,1,none⟩) (Kd.R_far (p:=⟨gb128,0,none⟩) (Kd.b5z HO_21.1 (fun k_ hk => (⟨hk,hk.2⟩ : _ ∧ k_ ≠ gb128))) (fun _ hk => hk.2) (.int .i64 ((b0z t121 x31_3).f0))) (fun _ hk => hk.2) (.int .i64 ((b0z t121 x31_3).f1))) (fun _ hk => ⟨hk.1.1.1,⟨hk.1.1.2.1,⟨hk.1.1.2.2,hk.1.2⟩⟩⟩)⟩,⟨by (with_reducible repeat (first|apply Kd.R_alloc|apply Kd.a4z|apply Kd.a5z));exact Kd.b5z (Kd.R_far (p:=⟨gb128,1,none⟩) (Kd.R_far (p:=⟨gb128,0,none⟩) (Kd.b5z HO_29.1 (fun k_ hk => (⟨hk,hk.2⟩ : _ ∧ k_ ≠ gb128))) (fun _ hk => hk.2) (.int .i64 ((b0z t121 x31_3).f0))) (fun _ hk => hk.2) (.int .i64 ((b0z t121 x31_3).f1))) (fun _ hk => ⟨hk.1.1.1,⟨hk.1.1.2.1,⟨hk.1.1.2.2,hk.1.2⟩⟩⟩)⟩,⟨by (with_reducible repeat (first|refine a8z ?_ _|refine a9z ?_|refine a7z ?_ _));refine f6z ?_ NB117_128.1 _;(with_reducible repeat (first|refine a8z ?_ _|refine a9z ?_|refine a7z ?_ _));refine f6z ?_ NB117_128.1 _;(with_reducible repeat (first|refine a8z ?_ _|refine a9z ?_|refine a7z ?_ _));exact BK117.1⟩,⟨by (with_reducible repeat (first|refine a8z ?_ _|refine a9z ?_|refine a7z ?_ _));refine d6z (cs:=#[.int .i64 ((b0z t121 x31_3).f0),.int .i64 0]) ?_ 1 _ rfl;(with_reducible repeat (first|refine a8z ?_ _|refine a9z ?_|refine a7z ?_ _));refine d6z (cs:=#[.int .i64 0,.int .i64 0]) ?_ 0 _ rfl;(with_reducible repeat (first|refine a8z ?_ _|refine a9z ?_|refine a7z ?_ _));exact BK128.1⟩,⟨by repeat (first|(with_reducible first|exact HB.1|apply a3z|apply a1z|apply a2z|refine a6z ?_ GE117.1|refine a6z ?_ GE128.1)|exact HB.1)⟩⟩
              case rest =>
               clear HC31
               try clear c1
               try clear p1
               try clear q1
               try clear hx1
               try clear c2
               try clear p2
               try clear c3
               try clear c4
               try clear c5
               try clear c10
               try clear p11
               try clear q11
               try clear hx11
               try clear p12
               try clear q12
               try clear hx12
               try clear c16
               try clear c17
               try clear c17b0
               try clear c18
               try clear c18b0
               try clear c19
               try clear c19b0
               try clear c27
               try clear c28
               try clear c28b0
               try clear c29
               try clear c29b0
               try clear c30
               try clear c30b0
               try clear c33
               try clear c35
               try clear c35b0
               try clear c36
               try clear c39
               try clear c40
               try clear hcz23_0
               try clear hcz23_1
               try clear hcz34_0
               try clear hcz34_1
               try clear hcz37_0
               try clear hcz37_1
               try clear hcz38_0
               try clear hcz38_1
               try clear hcz40_0
               try clear hcz40_1
               try clear hcz41_0
               try clear hcz41_1
               try clear hfz23_0
               try clear hfz23_1
               try clear hfz34_0
               try clear hfz34_1
               try clear hfz37_0
               try clear hfz37_1
               try clear hfz38_0
               try clear hfz38_1
               try clear hfz40_0
               try clear hfz40_1
               try clear hfz41_0
               try clear hfz41_1
               try clear hx116_0
               try clear hx116_1
               try clear hx127_0
               try clear hx127_1
               try clear p1
               try clear p11
               try clear p116
               try clear p127
               try clear p2
               try clear q1
               try clear q11
               try clear q116
               try clear q127
               obtain ⟨kq,x46_30,rfl,HA,HJ30,HO_6,HO_21,HO_29,BK117,BK128,HB⟩:=hcut
               cases kq with
               | zero => exact absurd HA.1 (by simp [impl_SetLess.j3])
               | succ kj30 =>
                have H:=HA.1
                clear HA
                simp only [impl_SetLess.j3] at H
                by_cases c42 : x46_30 = true
                ·subst c42
                 have H1 : (impl_SetLess.l1 kj30 l1 x6_3 t106 (t106.length : Int) x23_2 t121 (t121.length : Int) (wrap64 (x31_3 + 1)) x118000_3 ((b0z t106 x23_2).f1)) = some (r1,r2):=by rw [if_pos rfl] at H;exact H
                 clear H
                 have H:=H1
                 clear H1
                 have H':=a0z.mk H
                 clear H
                 go_wp2
                 go_roundg kj30
                 case measure => have:=HJ2.1;have:=HK2.1;have:=HK3.1;have:=HJ30.1;omega
                 case rel => exact ⟨(x6_3),(wrap64 (x31_3 + 1)),(x118000_3),(by first|rfl|(simp;done)|(simp [*];done)),H',⟨by have:=HJ2.1;have:=HK2.1;have:=HK3.1;have:=HJ30.1;omega⟩,⟨by (with_reducible repeat (first|apply Kd.R_alloc|apply Kd.a4z|apply Kd.a5z));exact Kd.b5z HO_6.1 (fun _ hk => ⟨hk.1,⟨hk.2.1,hk.2.2.1⟩⟩)⟩,⟨by (with_reducible repeat (first|apply Kd.R_alloc|apply Kd.a4z|apply Kd.a5z));exact Kd.b5z HO_21.1 (fun _ hk => ⟨hk.1,⟨hk.2.1,hk.2.2.1⟩⟩)⟩,⟨by (with_reducible repeat (first|apply Kd.R_alloc|apply Kd.a4z|apply Kd.a5z));exact Kd.b5z HO_29.1 (fun _ hk => ⟨hk.1,⟨hk.2.1,hk.2.2.1⟩⟩)⟩,⟨by (with_reducible repeat (first|refine a8z ?_ _|refine a9z ?_|refine a7z ?_ _));exact BK117.1⟩,⟨by repeat (first|(with_reducible first|exact HB.1|apply a3z|apply a1z|apply a2z|refine a6z ?_ GE117.1|refine a6z ?_ GE128.1)|exact HB.1)⟩⟩
                ·replace c42:=Bool.eq_false_iff.mpr c42
                 subst c42
                 have H1 : (if x118000_3 < ((b0z t121 x31_3).f0) then (if x6_3.length < 8796093022208 then (impl_SetLess.l1 kj30 l1 (x6_3 ++ [(⟨x118000_3,wrap64 (((b0z t121 x31_3).f0) - 1)⟩ : S55)]) t106 (t106.length : Int) x23_2 t121 (t121.length : Int) (wrap64 (x31_3 + 1)) (wrap64 (((b0z t121 x31_3).f1) + 1)) ((b0z t106 x23_2).f1)) else (none)) else (impl_SetLess.l1 kj30 l1 x6_3 t106 (t106.length : Int) x23_2 t121 (t121.length : Int) (wrap64 (x31_3 + 1)) (wrap64 (((b0z t121 x31_3).f1) + 1)) ((b0z t106 x23_2).f1))) = some (r1,r2):=by rw [if_neg (show ¬ (false = true) by decide)] at H;exact H
                 clear H
                 have H:=H1
                 clear H1
                 by_cases c43 : x118000_3 < ((b0z t121 x31_3).f0)
                 ·rw [if_pos c43] at H
                  have c43b0 : decide (x118000_3 < ((b0z t121 x31_3).f0)) = true:=decide_eq_true c43
                  clear c43
                  by_cases c44 : x6_3.length < 8796093022208
                  ·rw [if_pos c44] at H
                   have LMc44:=a0z.mk c44
                   clear c44
                   obtain ⟨y129,hy129⟩ : ∃ y_ : List (S55),y_ = (x6_3 ++ [(⟨x118000_3,wrap64 (((b0z t121 x31_3).f0) - 1)⟩ : S55)]):=⟨_,rfl⟩
                   replace H : (impl_SetLess.l1 kj30 l1 y129 t106 (t106.length : Int) x23_2 t121 (t121.length : Int) (wrap64 (x31_3 + 1)) (wrap64 (((b0z t121 x31_3).f1) + 1)) ((b0z t106 x23_2).f1)) = some (r1,r2):=by first|(rw [hy129];with_reducible exact H)|(have H2_:=(Option.bind_some _ _).symm.trans H;rw [hy129];with_reducible exact H2_)|(have H2_:=(Option.bind_some _ _).symm.trans H;with_reducible exact H2_)|with_reducible exact H|(rw [hy129];exact H)|exact H
                   have Ny129:=a0z.mk hy129
                   clear hy129
                   have H':=a0z.mk H
                   clear H
                   have hnb45:=NB117_128.1
                   have hnc45:=NB128_117.1
                   have hcz46_0 : wc.cell? ⟨gb117,0,none⟩ = some (.int .i64 x118000_3):=(b2z BK117.1 0).trans rfl
                   have hcz46_1 : wc.cell? ⟨gb117,1,none⟩ = some (.int .i64 ((b0z t106 x23_2).f1)):=(b2z BK117.1 1).trans rfl
                   have hfz46_0:=b7z BK117.1 0
                   have hfz46_1:=b7z BK117.1 1
                   have hcz47_0 : wc.cell? ⟨gb128,0,none⟩ = some (.int .i64 ((b0z t121 x31_3).f0)):=(b2z BK128.1 0).trans rfl
                   have hcz47_1 : wc.cell? ⟨gb128,1,none⟩ = some (.int .i64 ((b0z t121 x31_3).f1)):=(b2z BK128.1 1).trans rfl
                   have hfz47_0:=b7z BK128.1 0
                   have hfz47_1:=b7z BK128.1 1
                   go_wp2_with (first|((with_reducible refine e5z (b:=.append) (xs:=#[.tmp 52,.tmp 59]) rfl ?_);at_builtin;refine Kd.g6z k55 (w0:=w) w.heap.size rfl (.tmp 52) (.tmp 59) 48 55 (.agg #[(.int .i64 0),(.int .i64 0)]) 16 rfl Try.underlying48 info55 rfl (by decide) (by omega) u6 x6_3 (⟨x118000_3,wrap64 (((b0z t121 x31_3).f0) - 1)⟩ : S55) [.int .i64 x118000_3,.int .i64 (wrap64 (((b0z t121 x31_3).f0) - 1))] (fun k_ => some k_ ≠ (.slice (some ad116) t106.length co16 : Value).ownBlock ∧ some k_ ≠ (.slice (some ad127) t121.length co27 : Value).ownBlock ∧ k_ ≠ gb117 ∧ k_ ≠ gb128) (fun _ => False) rfl rfl ?aP (fun _ hk => hk.elim) ?aF ?aO ?aB ?aS ?aL ?_;(case aP => exact k55_mkM _ _ _ (⟨x118000_3,wrap64 (((b0z t121 x31_3).f0) - 1)⟩ : S55));(case aB => exact (by repeat (first|(with_reducible first|exact HB.1|apply a3z|apply a1z|apply a2z|refine a6z ?_ GE117.1|refine a6z ?_ GE128.1)|exact HB.1)));(case aF => exact (fun k_ hk => ⟨Kd.fresh' (Kd.R_lt (by (with_reducible repeat (first|apply Kd.R_alloc|apply Kd.a4z|apply Kd.a5z));exact HO_21.1)) k_ hk,Kd.fresh' (Kd.R_lt (by (with_reducible repeat (first|apply Kd.R_alloc|apply Kd.a4z|apply Kd.a5z));exact HO_29.1)) k_ hk,Kd.freshB (g:=gb117) (o:=.cells #[.int .i64 x118000_3,.int .i64 ((b0z t106 x23_2).f1)] 55 (0,0)) (by (with_reducible repeat (first|refine a8z ?_ _|refine a9z ?_|refine a7z ?_ _));exact BK117.1) k_ hk,Kd.freshB (g:=gb128) (o:=.cells #[.int .i64 ((b0z t121 x31_3).f0),.int .i64 ((b0z t121 x31_3).f1)] 55 (0,0)) (by (with_reducible repeat (first|refine a8z ?_ _|refine a9z ?_|refine a7z ?_ _));exact BK128.1) k_ hk⟩));(case aO => exact (by (with_reducible repeat (first|apply Kd.R_alloc|apply Kd.a4z|apply Kd.a5z));exact HO_6.1));(case aS => exact (b1z (by repeat (first|(with_reducible first|exact HB.1|apply a3z|apply a1z|apply a2z|refine a6z ?_ GE117.1|refine a6z ?_ GE128.1)|exact HB.1))));(case aL => have:=LMc44.1;omega);intro v130 w48 ho hb hg hat;rw [← Ny129.1] at ho;have n0_:=a0z.mk (Kd.c9z (ok:=(fun k_ => some k_ ≠ (.slice (some ad127) t121.length co27 : Value).ownBlock ∧ k_ ≠ gb117 ∧ k_ ≠ gb128)) (by (with_reducible repeat (first|apply Kd.R_alloc|apply Kd.a4z|apply Kd.a5z));exact Kd.b5z HO_21.1 (fun _ hk => ⟨⟨hk.2.1,⟨hk.2.2.1,hk.2.2.2⟩⟩,hk.1⟩)) hg hat);have n1_:=a0z.mk (Kd.c9z (ok:=(fun k_ => some k_ ≠ (.slice (some ad116) t106.length co16 : Value).ownBlock ∧ k_ ≠ gb117 ∧ k_ ≠ gb128)) (by (with_reducible repeat (first|apply Kd.R_alloc|apply Kd.a4z|apply Kd.a5z));exact Kd.b5z HO_29.1 (fun _ hk => ⟨⟨hk.2.1,⟨hk.2.2.1,hk.2.2.2⟩⟩,hk.1⟩)) hg hat);have n2_:=a0z.mk (f0z (g:=gb117) (o:=.cells #[.int .i64 x118000_3,.int .i64 ((b0z t106 x23_2).f1)] 55 (0,0)) (by (with_reducible repeat (first|refine a8z ?_ _|refine a9z ?_|refine a7z ?_ _));exact BK117.1) hg (Kd.h1z HO_6.1 (fun _ hk => hk.2.2.1)));have n3_:=a0z.mk (f0z (g:=gb128) (o:=.cells #[.int .i64 ((b0z t121 x31_3).f0),.int .i64 ((b0z t121 x31_3).f1)] 55 (0,0)) (by (with_reducible repeat (first|refine a8z ?_ _|refine a9z ?_|refine a7z ?_ _));exact BK128.1) hg (Kd.h1z HO_6.1 (fun _ hk => hk.2.2.2)));have n4_:=a0z.mk (hb);have n5_:=a0z.mk (ho);clear HO_21;clear HO_29;clear BK117;clear BK128;clear HB;clear HO_6;have HO_21:=n0_;have HO_29:=n1_;have BK117:=n2_;have BK128:=n3_;have HB:=n4_;have HO131:=n5_;clear n0_ n1_ n2_ n3_ n4_ n5_;clear ho hb hg hat;have hcz49_0 : w48.cell? ⟨gb128,0,none⟩ = some (.int .i64 ((b0z t121 x31_3).f0)):=(b2z BK128.1 0).trans rfl;have hcz49_1 : w48.cell? ⟨gb128,1,none⟩ = some (.int .i64 ((b0z t121 x31_3).f1)):=(b2z BK128.1 1).trans rfl;have hfz49_0:=b7z BK128.1 0;have hfz49_1:=b7z BK128.1 1;have hcz50_0 : w48.cell? ⟨gb117,0,none⟩ = some (.int .i64 x118000_3):=(b2z BK117.1 0).trans rfl;have hcz50_1 : w48.cell? ⟨gb117,1,none⟩ = some (.int .i64 ((b0z t106 x23_2).f1)):=(b2z BK117.1 1).trans rfl;have hfz50_0:=b7z BK117.1 0;have hfz50_1:=b7z BK117.1 1))
                   go_roundg kj30
                   case measure => have:=HJ2.1;have:=HK2.1;have:=HK3.1;have:=HJ30.1;omega
                   case rel => exact ⟨(y129),(wrap64 (x31_3 + 1)),(wrap64 (((b0z t121 x31_3).f1) + 1)),(by first|rfl|(simp;done)|(simp [*];done)),H',⟨by have:=HJ2.1;have:=HK2.1;have:=HK3.1;have:=HJ30.1;omega⟩,⟨by (with_reducible repeat (first|apply Kd.R_alloc|apply Kd.a4z|apply Kd.a5z));exact Kd.b5z (Kd.R_far (p:=⟨gb117,0,none⟩) (Kd.b5z HO131.1 (fun k_ hk => (⟨hk,hk.2.2.1⟩ : _ ∧ k_ ≠ gb117))) (fun _ hk => hk.2) (.int .i64 (wrap64 (((b0z t121 x31_3).f1) + 1)))) (fun _ hk => ⟨hk.1.1,⟨hk.1.2.1,hk.1.2.2.1⟩⟩)⟩,⟨by (with_reducible repeat (first|apply Kd.R_alloc|apply Kd.a4z|apply Kd.a5z));exact Kd.b5z (Kd.R_far (p:=⟨gb117,0,none⟩) (Kd.b5z HO_21.1 (fun k_ hk => (⟨hk,hk.1.2.1⟩ : _ ∧ k_ ≠ gb117))) (fun _ hk => hk.2) (.int .i64 (wrap64 (((b0z t121 x31_3).f1) + 1)))) (fun _ hk => ⟨hk.1.2,⟨hk.1.1.1,hk.1.1.2.1⟩⟩)⟩,⟨by (with_reducible repeat (first|apply Kd.R_alloc|apply Kd.a4z|apply Kd.a5z));exact Kd.b5z (Kd.R_far (p:=⟨gb117,0,none⟩) (Kd.b5z HO_29.1 (fun k_ hk => (⟨hk,hk.1.2.1⟩ : _ ∧ k_ ≠ gb117))) (fun _ hk => hk.2) (.int .i64 (wrap64 (((b0z t121 x31_3).f1) + 1)))) (fun _ hk => ⟨hk.1.2,⟨hk.1.1.1,hk.1.1.2.1⟩⟩)⟩,⟨by (with_reducible repeat (first|refine a8z ?_ _|refine a9z ?_|refine a7z ?_ _));refine d6z (cs:=#[.int .i64 x118000_3,.int .i64 ((b0z t106 x23_2).f1)]) ?_ 0 _ rfl;(with_reducible repeat (first|refine a8z ?_ _|refine a9z ?_|refine a7z ?_ _));exact BK117.1⟩,⟨by repeat (first|(with_reducible first|exact HB.1|apply a3z|apply a1z|apply a2z|refine a6z ?_ GE117.1|refine a6z ?_ GE128.1)|exact HB.1)⟩⟩
                  ·rw [if_neg c44] at H
                   exact absurd H (by simp)
                 ·rw [if_neg c43] at H
                  have c43b0 : decide (x118000_3 < ((b0z t121 x31_3).f0)) = false:=decide_eq_false c43
                  clear c43
                  have H':=a0z.mk H
                  clear H
                  have hnb51:=NB117_128.1
                  have hnc51:=NB128_117.1
                  have hcz52_0 : wc.cell? ⟨gb117,0,none⟩ = some (.int .i64 x118000_3):=(b2z BK117.1 0).trans rfl
                  have hcz52_1 : wc.cell? ⟨gb117,1,none⟩ = some (.int .i64 ((b0z t106 x23_2).f1)):=(b2z BK117.1 1).trans rfl
                  have hfz52_0:=b7z BK117.1 0
                  have hfz52_1:=b7z BK117.1 1
                  have hcz53_0 : wc.cell? ⟨gb128,0,none⟩ = some (.int .i64 ((b0z t121 x31_3).f0)):=(b2z BK128.1 0).trans rfl
                  have hcz53_1 : wc.cell? ⟨gb128,1,none⟩ = some (.int .i64 ((b0z t121 x31_3).f1)):=(b2z BK128.1 1).trans rfl
                  have hfz53_0:=b7z BK128.1 0
                  have hfz53_1:=b7z BK128.1 1
                  go_wp2
                  go_roundg kj30
                  case measure => have:=HJ2.1;have:=HK2.1;have:=HK3.1;have:=HJ30.1;omega
                  case rel => exact ⟨(x6_3),(wrap64 (x31_3 + 1)),(wrap64 (((b0z t121 x31_3).f1) + 1)),(by first|rfl|(simp;done)|(simp [*];done)),H',⟨by have:=HJ2.1;have:=HK2.1;have:=HK3.1;have:=HJ30.1;omega⟩,⟨by (with_reducible repeat (first|apply Kd.R_alloc|apply Kd.a4z|apply Kd.a5z));exact Kd.b5z (Kd.R_far (p:=⟨gb117,0,none⟩) (Kd.b5z HO_6.1 (fun k_ hk => (⟨hk,hk.2.2.1⟩ : _ ∧ k_ ≠ gb117))) (fun _ hk => hk.2) (.int .i64 (wrap64 (((b0z t121 x31_3).f1) + 1)))) (fun _ hk => ⟨hk.1.1,⟨hk.1.2.1,hk.1.2.2.1⟩⟩)⟩,⟨by (with_reducible repeat (first|apply Kd.R_alloc|apply Kd.a4z|apply Kd.a5z));exact Kd.b5z (Kd.R_far (p:=⟨gb117,0,none⟩) (Kd.b5z HO_21.1 (fun k_ hk => (⟨hk,hk.2.2.1⟩ : _ ∧ k_ ≠ gb117))) (fun _ hk => hk.2) (.int .i64 (wrap64 (((b0z t121 x31_3).f1) + 1)))) (fun _ hk => ⟨hk.1.1,⟨hk.1.2.1,hk.1.2.2.1⟩⟩)⟩,⟨by (with_reducible repeat (first|apply Kd.R_alloc|apply Kd.a4z|apply Kd.a5z));exact Kd.b5z (Kd.R_far (p:=⟨gb117,0,none⟩) (Kd.b5z HO_29.1 (fun k_ hk => (⟨hk,hk.2.2.1⟩ : _ ∧ k_ ≠ gb117))) (fun _ hk => hk.2) (.int .i64 (wrap64 (((b0z t121 x31_3).f1) + 1)))) (fun _ hk => ⟨hk.1.1,⟨hk.1.2.1,hk.1.2.2.1⟩⟩)⟩,⟨by (with_reducible repeat (first|refine a8z ?_ _|refine a9z ?_|refine a7z ?_ _));refine d6z (cs:=#[.int .i64 x118000_3,.int .i64 ((b0z t106 x23_2).f1)]) ?_ 0 _ rfl;(with_reducible repeat (first|refine a8z ?_ _|refine a9z ?_|refine a7z ?_ _));exact BK117.1⟩,⟨by repeat (first|(with_reducible first|exact HB.1|apply a3z|apply a1z|apply a2z|refine a6z ?_ GE117.1|refine a6z ?_ GE128.1)|exact HB.1)⟩⟩
             ·rw [if_neg c30] at H
              exact absurd H (by simp)
            ·rw [if_neg c29] at H
             exact absurd H (by simp)
           ·rw [if_neg c28] at H
            have c28b0 : decide (x31_3 < (t121.length : Int)) = false:=decide_eq_false c28
            clear c28
            by_cases c54 : x118000_3 ≤ ((b0z t106 x23_2).f1)
            ·rw [if_pos c54] at H
             have c54b0 : decide (x118000_3 ≤ ((b0z t106 x23_2).f1)) = true:=decide_eq_true c54
             clear c54
             by_cases c55 : x6_3.length < 8796093022208
             ·rw [if_pos c55] at H
              have LMc55:=a0z.mk c55
              clear c55
              obtain ⟨y124,hy124⟩ : ∃ y_ : List (S55),y_ = (x6_3 ++ [(⟨x118000_3,((b0z t106 x23_2).f1)⟩ : S55)]):=⟨_,rfl⟩
              replace H : (impl_SetLess.l0 k3 l1 y124 t106 (t106.length : Int) (wrap64 (x23_2 + 1))) = some (r1,r2):=by first|(rw [hy124];with_reducible exact H)|(have H2_:=(Option.bind_some _ _).symm.trans H;rw [hy124];with_reducible exact H2_)|(have H2_:=(Option.bind_some _ _).symm.trans H;with_reducible exact H2_)|with_reducible exact H|(rw [hy124];exact H)|exact H
              have Ny124:=a0z.mk hy124
              clear hy124
              have H':=a0z.mk H
              clear H
              have hcz56_0 : wr.cell? ⟨gb117,0,none⟩ = some (.int .i64 x118000_3):=(b2z BK117.1 0).trans rfl
              have hcz56_1 : wr.cell? ⟨gb117,1,none⟩ = some (.int .i64 ((b0z t106 x23_2).f1)):=(b2z BK117.1 1).trans rfl
              have hfz56_0:=b7z BK117.1 0
              have hfz56_1:=b7z BK117.1 1
              go_wp2_with (first|((with_reducible refine e5z (b:=.append) (xs:=#[.tmp 71,.tmp 73]) rfl ?_);at_builtin;refine Kd.g6z k55 (w0:=w) w.heap.size rfl (.tmp 71) (.tmp 73) 48 55 (.agg #[(.int .i64 0),(.int .i64 0)]) 16 rfl Try.underlying48 info55 rfl (by decide) (by omega) u6 x6_3 (⟨x118000_3,((b0z t106 x23_2).f1)⟩ : S55) [.int .i64 x118000_3,.int .i64 ((b0z t106 x23_2).f1)] (fun k_ => some k_ ≠ (.slice (some ad116) t106.length co16 : Value).ownBlock ∧ some k_ ≠ (.slice Ao27 t121.length co27 : Value).ownBlock ∧ k_ ≠ gb117) (fun _ => False) rfl rfl ?aP (fun _ hk => hk.elim) ?aF ?aO ?aB ?aS ?aL ?_;(case aP => exact k55_mkM _ _ _ (⟨x118000_3,((b0z t106 x23_2).f1)⟩ : S55));(case aB => exact (by repeat (first|(with_reducible first|exact HB.1|apply a3z|apply a1z|apply a2z|refine a6z ?_ GE117.1)|exact HB.1)));(case aF => exact (fun k_ hk => ⟨Kd.fresh' (Kd.R_lt (by (with_reducible repeat (first|apply Kd.R_alloc|apply Kd.a4z|apply Kd.a5z));exact HO_21.1)) k_ hk,Kd.fresh' (Kd.R_lt (by (with_reducible repeat (first|apply Kd.R_alloc|apply Kd.a4z|apply Kd.a5z));exact HO_29.1)) k_ hk,Kd.freshB (g:=gb117) (o:=.cells #[.int .i64 x118000_3,.int .i64 ((b0z t106 x23_2).f1)] 55 (0,0)) (by (with_reducible repeat (first|refine a8z ?_ _|refine a9z ?_|refine a7z ?_ _));exact BK117.1) k_ hk⟩));(case aO => exact (by (with_reducible repeat (first|apply Kd.R_alloc|apply Kd.a4z|apply Kd.a5z));exact HO_6.1));(case aS => exact (b1z (by repeat (first|(with_reducible first|exact HB.1|apply a3z|apply a1z|apply a2z|refine a6z ?_ GE117.1)|exact HB.1))));(case aL => have:=LMc55.1;omega);intro v125 w57 ho hb hg hat;rw [← Ny124.1] at ho;have n0_:=a0z.mk (Kd.c9z (ok:=(fun k_ => some k_ ≠ (.slice Ao27 t121.length co27 : Value).ownBlock ∧ k_ ≠ gb117)) (by (with_reducible repeat (first|apply Kd.R_alloc|apply Kd.a4z|apply Kd.a5z));exact Kd.b5z HO_21.1 (fun _ hk => ⟨⟨hk.2.1,hk.2.2⟩,hk.1⟩)) hg hat);have n1_:=a0z.mk (Kd.c9z (ok:=(fun k_ => some k_ ≠ (.slice (some ad116) t106.length co16 : Value).ownBlock ∧ k_ ≠ gb117)) (by (with_reducible repeat (first|apply Kd.R_alloc|apply Kd.a4z|apply Kd.a5z));exact Kd.b5z HO_29.1 (fun _ hk => ⟨⟨hk.2.1,hk.2.2⟩,hk.1⟩)) hg hat);have n2_:=a0z.mk (f0z (g:=gb117) (o:=.cells #[.int .i64 x118000_3,.int .i64 ((b0z t106 x23_2).f1)] 55 (0,0)) (by (with_reducible repeat (first|refine a8z ?_ _|refine a9z ?_|refine a7z ?_ _));exact BK117.1) hg (Kd.h1z HO_6.1 (fun _ hk => hk.2.2)));have n3_:=a0z.mk (hb);have n4_:=a0z.mk (ho);clear HO_21;clear HO_29;clear BK117;clear HB;clear HO_6;have HO_21:=n0_;have HO_29:=n1_;have BK117:=n2_;have HB:=n3_;have HO126:=n4_;clear n0_ n1_ n2_ n3_ n4_;clear ho hb hg hat))
              go_roundg k3
              case measure => have:=HJ2.1;have:=HK2.1;have:=HK3.1;omega
              case rel => exact ⟨(y124),(wrap64 (x23_2 + 1)),(by first|rfl|(simp;done)|(simp [*];done)),H',⟨by have:=HJ2.1;have:=HK2.1;have:=HK3.1;omega⟩,⟨by (with_reducible repeat (first|apply Kd.R_alloc|apply Kd.a4z|apply Kd.a5z));exact Kd.b5z HO126.1 (fun _ hk => hk.1)⟩,⟨by (with_reducible repeat (first|apply Kd.R_alloc|apply Kd.a4z|apply Kd.a5z));exact Kd.b5z HO_21.1 (fun _ hk => hk.2)⟩,⟨by repeat (first|(with_reducible first|exact HB.1|apply a3z|apply a1z|apply a2z|refine a6z ?_ GE117.1)|exact HB.1)⟩⟩
             ·rw [if_neg c55] at H
              exact absurd H (by simp)
            ·rw [if_neg c54] at H
             have c54b0 : decide (x118000_3 ≤ ((b0z t106 x23_2).f1)) = false:=decide_eq_false c54
             clear c54
             have H':=a0z.mk H
             clear H
             have hcz58_0 : wr.cell? ⟨gb117,0,none⟩ = some (.int .i64 x118000_3):=(b2z BK117.1 0).trans rfl
             have hcz58_1 : wr.cell? ⟨gb117,1,none⟩ = some (.int .i64 ((b0z t106 x23_2).f1)):=(b2z BK117.1 1).trans rfl
             have hfz58_0:=b7z BK117.1 0
             have hfz58_1:=b7z BK117.1 1
             go_wp2
             go_roundg k3
             case measure => have:=HJ2.1;have:=HK2.1;have:=HK3.1;omega
             case rel => exact ⟨(x6_3),(wrap64 (x23_2 + 1)),(by first|rfl|(simp;done)|(simp [*];done)),H',⟨by have:=HJ2.1;have:=HK2.1;have:=HK3.1;omega⟩,⟨by (with_reducible repeat (first|apply Kd.R_alloc|apply Kd.a4z|apply Kd.a5z));exact Kd.b5z HO_6.1 (fun _ hk => hk.1)⟩,⟨by (with_reducible repeat (first|apply Kd.R_alloc|apply Kd.a4z|apply Kd.a5z));exact Kd.b5z HO_21.1 (fun _ hk => hk.1)⟩,⟨by repeat (first|(with_reducible first|exact HB.1|apply a3z|apply a1z|apply a2z|refine a6z ?_ GE117.1)|exact HB.1)⟩⟩
        ·rw [if_neg c19] at H
         exact absurd H (by simp)
       ·rw [if_neg c18] at H
        exact absurd H (by simp)
      ·rw [if_neg c17] at H
       have c17b0 : decide (x23_2 < (t106.length : Int)) = false:=decide_eq_false c17
       clear c17
       replace H:=Option.bind_eq_some_iff.mp H
       obtain ⟨t109,A590,H⟩:=H
       replace H : ((impl_limited.f t109).bind fun bt112 => (some (bt112.1,bt112.2))) = some (r1,r2):=H
       have A59:=a0z.mk A590
       clear A590
       replace H:=Option.bind_eq_some_iff.mp H
       obtain ⟨⟨t112,t115⟩,A600,H⟩:=H
       replace H : (some (t112,t115)) = some (r1,r2):=H
       have A60:=a0z.mk A600
       clear A600
       simp only [Option.some.injEq,Prod.mk.injEq] at H
       obtain ⟨rfl,rfl⟩:=H
       obtain ⟨Ao61,co61,eo61⟩:=Kd.d3z HO_6.1
       subst eo61
       go_wp2_with (first|((with_reducible refine b8z (f:=39) rfl ?_);refine d2z (some 77) rfl rfl Try.func39 (by kernel_rfl) rfl #[.slice Ao61 x6_2.length co61] rfl (by (try simp only [List.map_toArray,List.map_cons,List.map_nil]);first|done|rfl|(simp only [List.length_drop,List.length_take];rfl)) ?_;(with_reducible refine (impl_set.calls k2 _ _ x6_2 t109 _ ?side1 ?side2 A59.1).mono ?_);(case side1 => repeat (first|exact (Kd.b4z HO_6.1).2.2|(with_reducible refine Kd.C_alloc ?_ _)|(with_reducible refine Kd.C_drewN ?_ _)|(with_reducible refine Kd.C_drew ?_)));(case side2 => exact (Kd.b4z HO_6.1).2.1);rintro e w62 ⟨v110,rfl,ho0,hb⟩;refine ⟨_,rfl,?_⟩;have n0_:=a0z.mk (Kd.c3z (by (with_reducible repeat (first|apply Kd.R_alloc|apply Kd.a4z|apply Kd.a5z));exact HO_6.1) hb);have n1_:=a0z.mk (Kd.c3z (by (with_reducible repeat (first|apply Kd.R_alloc|apply Kd.a4z|apply Kd.a5z));exact HO_21.1) hb);have n2_:=a0z.mk (Kd.d5z ho0 (b1z (by repeat (first|(with_reducible first|exact HB.1|apply a3z|apply a1z|apply a2z)|exact HB.1))));have n3_:=a0z.mk (b3z (by repeat (first|(with_reducible first|exact HB.1|apply a3z|apply a1z|apply a2z)|exact HB.1)) hb);clear HO_6;clear HO_21;clear HB;have HO_6:=n0_;have HO_21:=n1_;have HO111:=n2_;have HB:=n3_;clear n0_ n1_ n2_ n3_;(try clear hb);(try clear hb2);(try clear hk);(try clear hi);(try clear ho0);obtain ⟨Ao63,co63,eo63⟩:=Kd.d3z HO111.1;subst eo63)|((with_reducible refine b8z (f:=43) rfl ?_);refine d2z (some 78) rfl rfl Try.func43 (by kernel_rfl) rfl #[.slice Ao63 t109.length co63] rfl (by (try simp only [List.map_toArray,List.map_cons,List.map_nil]);first|done|rfl|(simp only [List.length_drop,List.length_take];rfl)) ?_;(with_reducible refine (impl_limited.calls (fun k_ => some k_ = (.slice Ao63 t109.length co63 : Value).ownBlock) (.slice Ao63 t109.length co63) t109 t112 t115 w _ ?side1 ?side2 A60.1).mono ?_);(case side1 => repeat (first|(with_reducible first|exact HB.1|apply a3z|apply a1z|apply a2z)|exact HB.1));(case side2 => exact Kd.R_tight rfl HO111.1);rintro e w64 ⟨v113,rfl,ho0,hb,hkp⟩;refine ⟨_,rfl,?_⟩;have n0_:=a0z.mk (Kd.b5z (ok':=fun k_ => some k_ ≠ (.slice Ao16 t106.length co16 : Value).ownBlock) (Kd.R_keptB ((Kd.i9z HO_6.1 (Kd.R_typed HO111.1) (by decide))) hkp (fun k_ hk_ hs_ => (hk_.2) hs_)) (fun k_ hk_ => hk_.1.1));have n1_:=a0z.mk (Kd.b5z (ok':=fun k_ => some k_ ≠ (.slice Ao61 x6_2.length co61 : Value).ownBlock) (Kd.R_keptB ((Kd.i9z HO_21.1 (Kd.R_typed HO111.1) (by decide))) hkp (fun k_ hk_ hs_ => (hk_.2) hs_)) (fun k_ hk_ => hk_.1.1));have n2_:=a0z.mk (Kd.b5z (ok':=fun k_ => True) ho0 (fun k_ hk_ => trivial));have n3_:=a0z.mk (hb);clear HO_6;clear HO_21;clear HB;clear HO111;have HO_6:=n0_;have HO_21:=n1_;have HO114:=n2_;have HB:=n3_;clear n0_ n1_ n2_ n3_;(try clear hb);(try clear hkp);(try clear ho0)))
       go_ret2
       exact ⟨_,by first|rfl|(simp [c2z,c1z] <;> rfl)|(simp [*,c2z,c1z] <;> rfl),by (with_reducible repeat (first|apply Kd.R_alloc|apply Kd.a4z|apply Kd.a5z));exact HO114.1,by repeat (first|(with_reducible first|exact HB.1|apply a3z|apply a1z|apply a2z)|exact HB.1)⟩
end Go.Proofs.Ytmdhedkgpgoneaa.Q

namespace Go.Proofs.Ytmdhedkgpgoneaa.Q
open Go.RowKit Go.Proofs.YtmdhedkgpgoneaaW.PrintWords Go.Proofs.YtmdhedkgpgoneaaW.PrintLast Go.Proofs.YtmdhedkgpgoneaaW.PrintMore
attribute [local go_sem] e4z e2z e7z e6z d8z d7z e3z e1z
set_option linter.unusedVariables false
set_option linter.unusedSimpArgs false
attribute [local go_sem high] eqA44
def laws_ovBlocks.l0 : Nat → List (S44) → List (S44) → Int → Option (Bool)
 | 0,_,_,_ => none
 | k + 1,x0,x1,x5 => if x5 < (x0.length : Int) then (if 0 ≤ x5 then (if x5 < (x1.length : Int) then (if (!(((b6z x0 x5).f0) == ((b6z x1 x5).f0)) || (!(((b6z x0 x5).f1) == ((b6z x1 x5).f1)))) = true then (some false) else (laws_ovBlocks.l0 k x0 x1 (wrap64 (x5 + 1)))) else (none)) else (none)) else (some true)
def laws_ovBlocks.f (k : Nat) (l0 : List (S44)) (l1 : List (S44)) : Option (Bool):=if (l0.length : Int) = (l1.length : Int) then (laws_ovBlocks.l0 k l0 l1 0) else (some false)
set_option maxHeartbeats 8000000 in
set_option maxRecDepth 100000 in
theorem laws_ovBlocks.calls (k : Nat) (A0 : Option Addr) (c0 : Nat) (l0 : List (S44)) (A1 : Option Addr) (c1 : Nat) (l1 : List (S44)) (r : Bool) (w : World) (hr0 : Kd.C k44 w A0 l0.length l0) (hc0 : l0.length ≤ c0) (hr1 : Kd.C k44 w A1 l1.length l1) (hc1 : l1.length ≤ c1) (h : laws_ovBlocks.f k l0 l1 = some r) :
  Calls Try.prog 29 #[.slice A0 l0.length c0,.slice A1 l1.length c1] w fun e w' => e = .returned (.bool r) ∧ Drawn0 w w':=by
 have hu44:=Try.underlying44
 have HR0:=a0z.mk hr0
 have HC0:=a0z.mk hc0
 clear hr0 hc0
 have HR1:=a0z.mk hr1
 have HC1:=a0z.mk hc1
 clear hr1 hc1
 have H : (if (l0.length : Int) = (l1.length : Int) then (laws_ovBlocks.l0 k l0 l1 0) else (some false)) = some r:=h
 clear h
 by_cases c3 : (l0.length : Int) = (l1.length : Int)
 ·rw [if_pos c3] at H
  have c3b0 : ((l0.length : Int) == (l1.length : Int)) = true:=beq_iff_eq.mpr c3
  have c3b1 : ((l0.length : Int) != (l1.length : Int)) = false:=bne_eq_false_iff_eq.mpr c3
  have c3b2 : (l0.length == l1.length) = true:=by first|simpa using c3|(simp at c3 ⊢;omega)
  clear c3
  have H':=a0z.mk H
  clear H
  go_enter Try.func29,Try.ntmps29
  go_wp2
  repeat (go_quiet (fail);try go_wp2)
  go_loopg [5] k (fun kq v5 w' => ∃ (x5_1 : Int),v5 = .int .i64 x5_1 ∧ a0z (laws_ovBlocks.l0 kq l0 l1 x5_1 = some r) ∧ a0z (kq ≤ k) ∧ Drawn0 w w')
  case atStart => exact ⟨(0),(by first|rfl|(simp;done)|(simp [*];done)),H',⟨Nat.le_refl _⟩,by repeat (first|exact Drawn0.refl _|apply Drawn0.step)⟩
  case round =>
   clear H'
   try clear c1
   try clear c2
   try clear p2
   try clear c3
   try clear c3b0
   try clear c3b1
   try clear c3b2
   obtain ⟨x5_1,rfl,HA,HK1,⟨m1,rfl⟩⟩:=hrel
   cases gk with
   | zero => exact absurd HA.1 (by simp [laws_ovBlocks.l0])
   | succ k1 =>
    have H:=HA.1
    clear HA
    simp only [laws_ovBlocks.l0] at H
    by_cases c4 : x5_1 < (l0.length : Int)
    ·rw [if_pos c4] at H
     have c4b0 : decide (x5_1 < (l0.length : Int)) = true:=decide_eq_true c4
     clear c4
     by_cases c5 : 0 ≤ x5_1
     ·rw [if_pos c5] at H
      have c5b0 : decide (0 ≤ x5_1) = true:=decide_eq_true c5
      clear c5
      by_cases c6 : x5_1 < (l1.length : Int)
      ·rw [if_pos c6] at H
       have c6b0 : decide (x5_1 < (l1.length : Int)) = true:=decide_eq_true c6
       clear c6
       by_cases c7 : (!(((b6z l0 x5_1).f0) == ((b6z l1 x5_1).f0)) || (!(((b6z l0 x5_1).f1) == ((b6z l1 x5_1).f1)))) = true
       ·rw [if_pos c7] at H
        have c7b0 : (!(((b6z l0 x5_1).f0) == ((b6z l1 x5_1).f0)) || (!(((b6z l0 x5_1).f1) == ((b6z l1 x5_1).f1)))) = true:=c7
        clear c7
        obtain rfl:=Option.some.inj H
        have p101 : 0 ≤ (x5_1 : Int):=of_decide_eq_true (by first|(with_reducible assumption)|assumption)
        have q101 : x5_1 < (l0.length : Int):=of_decide_eq_true (by first|(with_reducible assumption)|assumption)
        obtain ⟨ad101,e101,hx101_0,hx101_1⟩:=h2z HR0.1 x5_1 p101 q101
        cases e101
        replace p101:=eq_true p101
        replace q101:=eq_true q101
        have p102 : 0 ≤ (x5_1 : Int):=of_decide_eq_true (by first|(with_reducible assumption)|assumption)
        have q102 : x5_1 < (l1.length : Int):=of_decide_eq_true (by first|(with_reducible assumption)|assumption)
        obtain ⟨ad102,e102,hx102_0,hx102_1⟩:=h2z HR1.1 x5_1 p102 q102
        cases e102
        replace p102:=eq_true p102
        replace q102:=eq_true q102
        go_wp2
        repeat (go_quiet (fail);try go_wp2)
        go_ret
        exact ⟨by first|rfl|(simp;done)|(simp [*];done),by repeat (first|exact Drawn0.refl _|apply Drawn0.step)⟩
       ·rw [if_neg c7] at H
        have c7b0 : (!(((b6z l0 x5_1).f0) == ((b6z l1 x5_1).f0)) || (!(((b6z l0 x5_1).f1) == ((b6z l1 x5_1).f1)))) = false:=by simpa using c7
        clear c7
        have H':=a0z.mk H
        clear H
        have p101 : 0 ≤ (x5_1 : Int):=of_decide_eq_true (by first|(with_reducible assumption)|assumption)
        have q101 : x5_1 < (l0.length : Int):=of_decide_eq_true (by first|(with_reducible assumption)|assumption)
        obtain ⟨ad101,e101,hx101_0,hx101_1⟩:=h2z HR0.1 x5_1 p101 q101
        cases e101
        replace p101:=eq_true p101
        replace q101:=eq_true q101
        have p102 : 0 ≤ (x5_1 : Int):=of_decide_eq_true (by first|(with_reducible assumption)|assumption)
        have q102 : x5_1 < (l1.length : Int):=of_decide_eq_true (by first|(with_reducible assumption)|assumption)
        obtain ⟨ad102,e102,hx102_0,hx102_1⟩:=h2z HR1.1 x5_1 p102 q102
        cases e102
        replace p102:=eq_true p102
        replace q102:=eq_true q102
        go_wp2
        repeat (go_quiet (fail);try go_wp2)
        go_roundg k1
        case measure => have:=HK1.1;omega
        case rel => exact ⟨(wrap64 (x5_1 + 1)),(by first|rfl|(simp;done)|(simp [*];done)),H',⟨by have:=HK1.1;omega⟩,by repeat (first|exact Drawn0.refl _|apply Drawn0.step)⟩
      ·rw [if_neg c6] at H
       exact absurd H (by simp)
     ·rw [if_neg c5] at H
      exact absurd H (by simp)
    ·rw [if_neg c4] at H
     have c4b0 : decide (x5_1 < (l0.length : Int)) = false:=decide_eq_false c4
     clear c4
     obtain rfl:=Option.some.inj H
     go_wp2
     repeat (go_quiet (fail);try go_wp2)
     go_ret
     exact ⟨by first|rfl|(simp;done)|(simp [*];done),by repeat (first|exact Drawn0.refl _|apply Drawn0.step)⟩
 ·rw [if_neg c3] at H
  have c3b0 : ((l0.length : Int) == (l1.length : Int)) = false:=beq_eq_false_iff_ne.mpr c3
  have c3b1 : ((l0.length : Int) != (l1.length : Int)) = true:=bne_iff_ne.mpr c3
  have c3b2 : (l0.length == l1.length) = false:=by first|simpa using c3|(simp at c3 ⊢;omega)
  obtain rfl:=Option.some.inj H
  go_enter Try.func29,Try.ntmps29
  go_wp2
  repeat (go_quiet (fail);try go_wp2)
  go_ret
  exact ⟨by first|rfl|(simp;done)|(simp [*];done),by repeat (first|exact Drawn0.refl _|apply Drawn0.step)⟩
end Go.Proofs.Ytmdhedkgpgoneaa.Q

namespace Go.Proofs.Ytmdhedkgpgoneaa.Q
open Go.RowKit Go.Proofs.YtmdhedkgpgoneaaW.PrintWords Go.Proofs.YtmdhedkgpgoneaaW.PrintLast Go.Proofs.YtmdhedkgpgoneaaW.PrintMore
attribute [local go_sem] e4z e2z e7z e6z d8z d7z e3z e1z
set_option linter.unusedVariables false
set_option linter.unusedSimpArgs false
/-- A state of type 76 at block g of W; what its slices lead to came in by w0. -/
def IsS76 (w0 W : World) (g : Nat) (f0 : List Int) (f1 : Int) : Prop:=∃ A0 c0,W.heap[g]? = some (.cells #[.slice A0 f0.length c0,.int .i64 f1] 76 (0,0)) ∧ w0.heap.size ≤ g ∧ Kd.C (Kd.int .u8) w0 A0 f0.length f0
theorem IsS76.grown {w0 W : World} {g : Nat} {f0 : List Int} {f1 : Int} {W1 : World} {row : Option Nat} (h : IsS76 w0 W g f0 f1) (hw : W.grownBy W1 row) (hne : some g ≠ row) : IsS76 w0 W1 g f0 f1:=by
 obtain ⟨A0,c0,hb,hg,hr0⟩:=h
 exact ⟨A0,c0,f0z hb hw hne,hg,hr0⟩
theorem IsS76.below {w0 W : World} {g : Nat} {f0 : List Int} {f1 : Int} {W1 : World} (h : IsS76 w0 W g f0 f1) (hw : Below W.heap.size W W1) : IsS76 w0 W1 g f0 f1:=h.grown (grown_of_below hw none) (by simp)
theorem IsS76.drewN {w0 W : World} {g : Nat} {f0 : List Int} {f1 : Int} (h : IsS76 w0 W g f0 f1) (m : Nat) : IsS76 w0 (W.drewN m) g f0 f1:=h
theorem IsS76.drew {w0 W : World} {g : Nat} {f0 : List Int} {f1 : Int} (h : IsS76 w0 W g f0 f1) : IsS76 w0 W.drew g f0 f1:=h
theorem IsS76.apart {w0 W : World} {g : Nat} {f0 : List Int} {f1 : Int} {α : Type} {d : Kd α} {e : Nat} {base : Nat} {ok : Nat → Prop} {v : Value} {xs : List α} (h : IsS76 w0 W g f0 f1) (ho : d.R e W base ok v xs) (ht : ∀ q,q ∈ e :: d.E → q ≠ 76) : d.R e W base (fun k => ok k ∧ k ≠ g) v xs:=by
 obtain ⟨A0,c0,hb,hg,hr0⟩:=h
 exact Kd.R_types ho hb ht
theorem IsS76.own_ne {w0 W : World} {g : Nat} {f0 : List Int} {f1 : Int} {α : Type} {d : Kd α} {e : Nat} {base : Nat} {ok : Nat → Prop} {v : Value} {xs : List α} (h : IsS76 w0 W g f0 f1) (ho : d.R e W base ok v xs) (ht : e ≠ 76) : some g ≠ v.ownBlock:=by
 obtain ⟨A0,c0,hb,hg,hr0⟩:=h
 exact Kd.R_ne ho hb ht
theorem IsS76.lt {w0 W : World} {g : Nat} {f0 : List Int} {f1 : Int} (h : IsS76 w0 W g f0 f1) : g < W.heap.size:=by
 obtain ⟨A0,c0,hb,hg,hr0⟩:=h
 exact g7z hb
theorem IsS76.ge {w0 W : World} {g : Nat} {f0 : List Int} {f1 : Int} (h : IsS76 w0 W g f0 f1) : w0.heap.size ≤ g:=by
 obtain ⟨A0,c0,hb,hg,hr0⟩:=h
 exact hg
theorem IsS76.far {w0 W : World} {g : Nat} {f0 : List Int} {f1 : Int} {p : Addr} (h : IsS76 w0 W g f0 f1) (hne : g ≠ p.block) (u : Value) : IsS76 w0 (W.setCell p u) g f0 f1:=by
 obtain ⟨A0,c0,hb,hg,hr0⟩:=h
 exact ⟨A0,c0,f6z hb hne u,hg,hr0⟩
theorem cellS76_0 {W : World} {g : Nat} {A0 : Option Addr} {c0 : Nat} {f0 : List Int} {f1 : Int} (h : W.heap[g]? = some (.cells #[.slice A0 f0.length c0,.int .i64 f1] 76 (0,0))) : W.cell? ⟨g,0,none⟩ = some (.slice A0 f0.length c0):=(b2z h 0).trans rfl
theorem cellS76_1 {W : World} {g : Nat} {A0 : Option Addr} {c0 : Nat} {f0 : List Int} {f1 : Int} (h : W.heap[g]? = some (.cells #[.slice A0 f0.length c0,.int .i64 f1] 76 (0,0))) : W.cell? ⟨g,1,none⟩ = some (.int .i64 f1):=(b2z h 1).trans rfl
theorem IsS76.set_1 {w0 W : World} {g : Nat} {f0 : List Int} {f1 : Int} (h : IsS76 w0 W g f0 f1) (x : Int) : IsS76 w0 (W.setCell ⟨g,1,none⟩ (.int .i64 x)) g f0 x:=by
 obtain ⟨A0,c0,hb,hg,hr0⟩:=h
 exact ⟨A0,c0,by simpa using blk_set hb 1 (.int .i64 x),hg,hr0⟩
def spec_l1Rd_pick.j0 : Nat → Int → Bool → List Int → Int → Option (Int × Int)
 | 0,_,_,_,_ => none
 | k + 1,x1,x24,x1000,x1001 => if x24 = true then (some (0,x1001)) else (if (wrap64 (x1001 - 1)) < (x1000.length : Int) then (if 0 ≤ (wrap64 (x1001 - 1)) then (if x1 = 0 then (none) else (some (Int.tmod (wrap64 (rd x1000 (wrap64 (x1001 - 1)))) x1,x1001))) else (none)) else (if (x1000.length : Int) = 0 then (none) else (if 0 ≤ (Int.tmod (wrap64 (x1001 - 1)) (x1000.length : Int)) then (if (Int.tmod (wrap64 (x1001 - 1)) (x1000.length : Int)) < (x1000.length : Int) then (if 0 ≤ (Int.tmod (wrap64 ((wrap64 ((wrap64 (x1001 - 1)) * 7)) + 3)) (x1000.length : Int)) then (if (Int.tmod (wrap64 ((wrap64 ((wrap64 (x1001 - 1)) * 7)) + 3)) (x1000.length : Int)) < (x1000.length : Int) then (if x1 = 0 then (none) else (some (Int.tmod (Go.bits .xor .i64 (wrap64 ((wrap64 ((wrap64 ((wrap64 ((wrap64 (rd x1000 (Int.tmod (wrap64 (x1001 - 1)) (x1000.length : Int)))) * 131)) + (wrap64 ((wrap64 (rd x1000 (Int.tmod (wrap64 ((wrap64 ((wrap64 (x1001 - 1)) * 7)) + 3)) (x1000.length : Int)))) * 1117)))) + (wrap64 ((wrap64 (x1001 - 1)) * 29)))) + (wrap64 ((wrap64 (Int.tdiv (wrap64 (x1001 - 1)) (x1000.length : Int))) * 53)))) (wrap64 (Int.tdiv (wrap64 ((wrap64 ((wrap64 ((wrap64 ((wrap64 (rd x1000 (Int.tmod (wrap64 (x1001 - 1)) (x1000.length : Int)))) * 131)) + (wrap64 ((wrap64 (rd x1000 (Int.tmod (wrap64 ((wrap64 ((wrap64 (x1001 - 1)) * 7)) + 3)) (x1000.length : Int)))) * 1117)))) + (wrap64 ((wrap64 (x1001 - 1)) * 29)))) + (wrap64 ((wrap64 (Int.tdiv (wrap64 (x1001 - 1)) (x1000.length : Int))) * 53)))) 64))) x1,x1001))) else (none)) else (none)) else (none)) else (none))))
def spec_l1Rd_pick.f (k : Nat) (s0_0 : List Int) (s0_1 : Int) (a1 : Int) : Option (Int × Int):=if a1 < 1 then (spec_l1Rd_pick.j0 k a1 true s0_0 (wrap64 (s0_1 + 1))) else (spec_l1Rd_pick.j0 k a1 ((s0_0.length : Int) == 0) s0_0 (wrap64 (s0_1 + 1)))
set_option maxHeartbeats 8000000 in
set_option maxRecDepth 100000 in
theorem spec_l1Rd_pick.calls (k : Nat) (g : Nat) (s0_0 : List Int) (s0_1 : Int) (a1 : Int) (r1 : Int) (r2 : Int) (w0 w : World) (hI : IsS76 w0 w g s0_0 s0_1) (hB : Below w0.heap.size w0 w) (h : spec_l1Rd_pick.f k s0_0 s0_1 a1 = some (r1,r2)) :
  Calls Try.prog 64 #[.pointer (some ⟨g,0,none⟩),.int .i64 a1] w fun e w' => e = .returned (.int .i64 r1) ∧ IsS76 w0 w' g s0_0 r2 ∧ Below w0.heap.size w0 w' ∧ b9z w w' g none:=by
 have HI0:=a0z.mk hI
 have HK:=a0z.mk (b9z.refl w g none)
 have HL:=a0z.mk hB.size
 clear hI
 have HW0:=a0z.mk hB.size
 have HB:=a0z.mk hB
 clear hB
 have H : (if a1 < 1 then (spec_l1Rd_pick.j0 k a1 true s0_0 (wrap64 (s0_1 + 1))) else (spec_l1Rd_pick.j0 k a1 ((s0_0.length : Int) == 0) s0_0 (wrap64 (s0_1 + 1)))) = some (r1,r2):=h
 clear h
 have HC3:=a0z.mk H
 clear H
 obtain ⟨ASz4_0,cSz4_0,HGz4,hgz4,HSz4_0⟩:=HI0.1
 have hcz4_0:=cellS76_0 HGz4
 have hcz4_1:=cellS76_1 HGz4
 have hfz4_1:=b7z HGz4 1
 clear HGz4 hgz4
 go_enter Try.func64,Try.ntmps64
 go_upto_region 2 with (fail)
 repeat (go_quiet (fail);go_upto_region 2 with (fail))
 go_cut [24] (fun v24 wc => ∃ (kq : Nat) (x24_2 : Bool),v24 = .bool x24_2 ∧ a0z (spec_l1Rd_pick.j0 kq a1 x24_2 s0_0 (wrap64 (s0_1 + 1)) = some (r1,r2)) ∧ a0z (kq ≤ k) ∧ a0z (IsS76 w0 wc g s0_0 (wrap64 (s0_1 + 1))) ∧ a0z (b9z w wc g none) ∧ a0z (Below w0.heap.size w0 wc))
 case first =>
  have H:=HC3.1
  clear HC3
  by_cases c5 : a1 < 1
  ·rw [if_pos c5] at H
   have c5b0 : decide (a1 < 1) = true:=decide_eq_true c5
   clear c5
   (first|rw [c5b0]|(simp only [i64_w,i32_w];rw [c5b0])|skip)
   have H':=a0z.mk H
   clear H
   go_wp2
   repeat (go_quiet (fail);try go_wp2)
   go_meet
   case rel => exact ⟨_,(true),(by first|rfl|(simp;done)|(simp [*];done)),H',⟨by first|omega|exact Nat.le_refl _⟩,⟨by repeat (first|(with_reducible first|exact HI0.1|apply IsS76.alloc|apply IsS76.drewN|apply IsS76.drew|apply IsS76.set_1)|exact HI0.1)⟩,⟨by repeat (first|(with_reducible first|exact HK.1|apply b9z.set_|apply c5z|apply c7z|apply keep_alloc)|exact HK.1)⟩,⟨by repeat (first|(with_reducible first|exact HB.1|apply a3z|apply a1z|apply a2z|refine a6z ?_ (IsS76.ge HI0.1))|exact HB.1)⟩⟩
  ·rw [if_neg c5] at H
   have c5b0 : decide (a1 < 1) = false:=decide_eq_false c5
   clear c5
   (first|rw [c5b0]|(simp only [i64_w,i32_w];rw [c5b0])|skip)
   have H':=a0z.mk H
   clear H
   obtain ⟨ASz6_0,cSz6_0,HGz6,hgz6,HSz6_0⟩:=HI0.1
   have hcz6_0:=cellS76_0 HGz6
   have hcz6_1:=cellS76_1 HGz6
   have hfz6_1:=b7z HGz6 1
   clear HGz6 hgz6
   go_wp2
   repeat (go_quiet (fail);try go_wp2)
   go_meet
   case rel => exact ⟨_,(((s0_0.length : Int) == 0)),(by first|rfl|(simp;done)|(simp [*];done)),H',⟨by first|omega|exact Nat.le_refl _⟩,⟨by repeat (first|(with_reducible first|exact HI0.1|apply IsS76.alloc|apply IsS76.drewN|apply IsS76.drew|apply IsS76.set_1)|exact HI0.1)⟩,⟨by repeat (first|(with_reducible first|exact HK.1|apply b9z.set_|apply c5z|apply c7z|apply keep_alloc)|exact HK.1)⟩,⟨by repeat (first|(with_reducible first|exact HB.1|apply a3z|apply a1z|apply a2z|refine a6z ?_ (IsS76.ge HI0.1))|exact HB.1)⟩⟩
 case rest =>
  clear HC3
  try clear p2
  try clear c5
  try clear c5b0
  try clear c6
  try clear p6
  try clear hcz4_0
  try clear hcz4_1
  try clear hcz6_0
  try clear hcz6_1
  try clear hfz4_1
  try clear hfz6_1
  obtain ⟨kq,x24_2,rfl,HA,HJ2,HI0,HK,HB⟩:=hcut
  cases kq with
  | zero => exact absurd HA.1 (by simp [spec_l1Rd_pick.j0])
  | succ kj2 =>
   have H:=HA.1
   clear HA
   simp only [spec_l1Rd_pick.j0] at H
   by_cases c7 : x24_2 = true
   ·subst c7
    have H1 : (some (0,(wrap64 (s0_1 + 1)))) = some (r1,r2):=by rw [if_pos rfl] at H;exact H
    clear H
    have H:=H1
    clear H1
    simp only [Option.some.injEq,Prod.mk.injEq] at H
    obtain ⟨rfl,rfl⟩:=H
    go_wp2
    repeat (go_quiet (fail);try go_wp2)
    go_ret
    exact ⟨by first|rfl|(simp [c2z,c1z] <;> rfl)|(simp [*,c2z,c1z] <;> rfl),by repeat (first|(with_reducible first|exact HI0.1|apply IsS76.alloc|apply IsS76.drewN|apply IsS76.drew|apply IsS76.set_1)|exact HI0.1),by repeat (first|(with_reducible first|exact HB.1|apply a3z|apply a1z|apply a2z|refine a6z ?_ (IsS76.ge HI0.1))|exact HB.1),by repeat (first|(with_reducible first|exact HK.1|apply b9z.set_|apply c5z|apply c7z|apply keep_alloc)|exact HK.1)⟩
   ·replace c7:=Bool.eq_false_iff.mpr c7
    subst c7
    have H1 : (if (wrap64 ((wrap64 (s0_1 + 1)) - 1)) < (s0_0.length : Int) then (if 0 ≤ (wrap64 ((wrap64 (s0_1 + 1)) - 1)) then (if a1 = 0 then (none) else (some (Int.tmod (wrap64 (rd s0_0 (wrap64 ((wrap64 (s0_1 + 1)) - 1)))) a1,(wrap64 (s0_1 + 1))))) else (none)) else (if (s0_0.length : Int) = 0 then (none) else (if 0 ≤ (Int.tmod (wrap64 ((wrap64 (s0_1 + 1)) - 1)) (s0_0.length : Int)) then (if (Int.tmod (wrap64 ((wrap64 (s0_1 + 1)) - 1)) (s0_0.length : Int)) < (s0_0.length : Int) then (if 0 ≤ (Int.tmod (wrap64 ((wrap64 ((wrap64 ((wrap64 (s0_1 + 1)) - 1)) * 7)) + 3)) (s0_0.length : Int)) then (if (Int.tmod (wrap64 ((wrap64 ((wrap64 ((wrap64 (s0_1 + 1)) - 1)) * 7)) + 3)) (s0_0.length : Int)) < (s0_0.length : Int) then (if a1 = 0 then (none) else (some (Int.tmod (Go.bits .xor .i64 (wrap64 ((wrap64 ((wrap64 ((wrap64 ((wrap64 (rd s0_0 (Int.tmod (wrap64 ((wrap64 (s0_1 + 1)) - 1)) (s0_0.length : Int)))) * 131)) + (wrap64 ((wrap64 (rd s0_0 (Int.tmod (wrap64 ((wrap64 ((wrap64 ((wrap64 (s0_1 + 1)) - 1)) * 7)) + 3)) (s0_0.length : Int)))) * 1117)))) + (wrap64 ((wrap64 ((wrap64 (s0_1 + 1)) - 1)) * 29)))) + (wrap64 ((wrap64 (Int.tdiv (wrap64 ((wrap64 (s0_1 + 1)) - 1)) (s0_0.length : Int))) * 53)))) (wrap64 (Int.tdiv (wrap64 ((wrap64 ((wrap64 ((wrap64 ((wrap64 (rd s0_0 (Int.tmod (wrap64 ((wrap64 (s0_1 + 1)) - 1)) (s0_0.length : Int)))) * 131)) + (wrap64 ((wrap64 (rd s0_0 (Int.tmod (wrap64 ((wrap64 ((wrap64 ((wrap64 (s0_1 + 1)) - 1)) * 7)) + 3)) (s0_0.length : Int)))) * 1117)))) + (wrap64 ((wrap64 ((wrap64 (s0_1 + 1)) - 1)) * 29)))) + (wrap64 ((wrap64 (Int.tdiv (wrap64 ((wrap64 (s0_1 + 1)) - 1)) (s0_0.length : Int))) * 53)))) 64))) a1,(wrap64 (s0_1 + 1))))) else (none)) else (none)) else (none)) else (none)))) = some (r1,r2):=by rw [if_neg (show ¬ (false = true) by decide)] at H;exact H
    clear H
    have H:=H1
    clear H1
    by_cases c8 : (wrap64 ((wrap64 (s0_1 + 1)) - 1)) < (s0_0.length : Int)
    ·rw [if_pos c8] at H
     have c8b0 : decide ((wrap64 ((wrap64 (s0_1 + 1)) - 1)) < (s0_0.length : Int)) = true:=decide_eq_true c8
     clear c8
     obtain ⟨ji9,hji9⟩ : ∃ j_ : Int,(wrap64 ((wrap64 (s0_1 + 1)) - 1)) = j_:=⟨_,rfl⟩
     replace H : (if 0 ≤ (ji9) then (if a1 = 0 then (none) else (some (Int.tmod (wrap64 (rd s0_0 (ji9))) a1,(wrap64 (s0_1 + 1))))) else (none)) = some (r1,r2):=by first|(rw [hji9] at H;exact H)|(simp only [hji9] at H ⊢;exact H)
     (try rw [hji9] at c8b0)
     have hji9w : (IntKind.i64.wrap ((wrap64 (s0_1 + 1)) - 1)) = ji9:=(i64_w _).trans hji9
     by_cases c10 : 0 ≤ (ji9)
     ·rw [if_pos c10] at H
      have c10b0 : decide (0 ≤ (ji9)) = true:=decide_eq_true c10
      clear c10
      by_cases c11 : a1 = 0
      ·rw [if_pos c11] at H
       exact absurd H (by simp)
      ·rw [if_neg c11] at H
       have c11b0 : (a1 == 0) = false:=beq_eq_false_iff_ne.mpr c11
       have c11b1 : (a1 != 0) = true:=bne_iff_ne.mpr c11
       simp only [Option.some.injEq,Prod.mk.injEq] at H
       obtain ⟨rfl,rfl⟩:=H
       obtain ⟨ASz12_0,cSz12_0,HGz12,hgz12,HSz12_0⟩:=HI0.1
       have hcz12_0:=cellS76_0 HGz12
       have hcz12_1:=cellS76_1 HGz12
       have hfz12_1:=b7z HGz12 1
       clear HGz12 hgz12
       have p101 : 0 ≤ ((ji9) : Int):=of_decide_eq_true (by first|(with_reducible assumption)|assumption)
       have q101 : (ji9) < (s0_0.length : Int):=of_decide_eq_true (by first|(with_reducible assumption)|assumption)
       obtain ⟨ad101,e101,hx101_0⟩:=Kd.at_int HSz12_0 (ji9) p101 q101
       cases e101
       replace hx101_0:=pw_cell_below HB.1 hx101_0
       replace p101:=eq_true p101
       replace q101:=eq_true q101
       go_wp2
       repeat (go_quiet (fail);try go_wp2)
       go_ret
       exact ⟨by first|rfl|(simp [c2z,c1z] <;> rfl)|(simp only [← hji9];first|rfl|(simp [c2z,c1z] <;> rfl))|(simp [*,c2z,c1z] <;> rfl),by repeat (first|(with_reducible first|exact HI0.1|apply IsS76.alloc|apply IsS76.drewN|apply IsS76.drew|apply IsS76.set_1)|exact HI0.1),by repeat (first|(with_reducible first|exact HB.1|apply a3z|apply a1z|apply a2z|refine a6z ?_ (IsS76.ge HI0.1))|exact HB.1),by repeat (first|(with_reducible first|exact HK.1|apply b9z.set_|apply c5z|apply c7z|apply keep_alloc)|exact HK.1)⟩
     ·rw [if_neg c10] at H
      exact absurd H (by simp)
    ·rw [if_neg c8] at H
     have c8b0 : decide ((wrap64 ((wrap64 (s0_1 + 1)) - 1)) < (s0_0.length : Int)) = false:=decide_eq_false c8
     clear c8
     by_cases c13 : (s0_0.length : Int) = 0
     ·rw [if_pos c13] at H
      exact absurd H (by simp)
     ·rw [if_neg c13] at H
      have c13b0 : ((s0_0.length : Int) == 0) = false:=beq_eq_false_iff_ne.mpr c13
      have c13b1 : ((s0_0.length : Int) != 0) = true:=bne_iff_ne.mpr c13
      have c13b2 : ¬ (s0_0 = []):=fun h_ => c13 (by rw [h_];rfl)
      obtain ⟨ji14,hji14⟩ : ∃ j_ : Int,(Int.tmod (wrap64 ((wrap64 (s0_1 + 1)) - 1)) (s0_0.length : Int)) = j_:=⟨_,rfl⟩
      replace H : (if 0 ≤ (ji14) then (if (ji14) < (s0_0.length : Int) then (if 0 ≤ (Int.tmod (wrap64 ((wrap64 ((wrap64 ((wrap64 (s0_1 + 1)) - 1)) * 7)) + 3)) (s0_0.length : Int)) then (if (Int.tmod (wrap64 ((wrap64 ((wrap64 ((wrap64 (s0_1 + 1)) - 1)) * 7)) + 3)) (s0_0.length : Int)) < (s0_0.length : Int) then (if a1 = 0 then (none) else (some (Int.tmod (Go.bits .xor .i64 (wrap64 ((wrap64 ((wrap64 ((wrap64 ((wrap64 (rd s0_0 (ji14))) * 131)) + (wrap64 ((wrap64 (rd s0_0 (Int.tmod (wrap64 ((wrap64 ((wrap64 ((wrap64 (s0_1 + 1)) - 1)) * 7)) + 3)) (s0_0.length : Int)))) * 1117)))) + (wrap64 ((wrap64 ((wrap64 (s0_1 + 1)) - 1)) * 29)))) + (wrap64 ((wrap64 (Int.tdiv (wrap64 ((wrap64 (s0_1 + 1)) - 1)) (s0_0.length : Int))) * 53)))) (wrap64 (Int.tdiv (wrap64 ((wrap64 ((wrap64 ((wrap64 ((wrap64 (rd s0_0 (ji14))) * 131)) + (wrap64 ((wrap64 (rd s0_0 (Int.tmod (wrap64 ((wrap64 ((wrap64 ((wrap64 (s0_1 + 1)) - 1)) * 7)) + 3)) (s0_0.length : Int)))) * 1117)))) + (wrap64 ((wrap64 ((wrap64 (s0_1 + 1)) - 1)) * 29)))) + (wrap64 ((wrap64 (Int.tdiv (wrap64 ((wrap64 (s0_1 + 1)) - 1)) (s0_0.length : Int))) * 53)))) 64))) a1,(wrap64 (s0_1 + 1))))) else (none)) else (none)) else (none)) else (none)) = some (r1,r2):=by first|(rw [hji14] at H;exact H)|(simp only [hji14] at H ⊢;exact H)
      by_cases c15 : 0 ≤ (ji14)
      ·rw [if_pos c15] at H
       have c15b0 : decide (0 ≤ (ji14)) = true:=decide_eq_true c15
       clear c15
       by_cases c16 : (ji14) < (s0_0.length : Int)
       ·rw [if_pos c16] at H
        have c16b0 : decide ((ji14) < (s0_0.length : Int)) = true:=decide_eq_true c16
        clear c16
        obtain ⟨ji17,hji17⟩ : ∃ j_ : Int,(Int.tmod (wrap64 ((wrap64 ((wrap64 ((wrap64 (s0_1 + 1)) - 1)) * 7)) + 3)) (s0_0.length : Int)) = j_:=⟨_,rfl⟩
        replace H : (if 0 ≤ (ji17) then (if (ji17) < (s0_0.length : Int) then (if a1 = 0 then (none) else (some (Int.tmod (Go.bits .xor .i64 (wrap64 ((wrap64 ((wrap64 ((wrap64 ((wrap64 (rd s0_0 (ji14))) * 131)) + (wrap64 ((wrap64 (rd s0_0 (ji17))) * 1117)))) + (wrap64 ((wrap64 ((wrap64 (s0_1 + 1)) - 1)) * 29)))) + (wrap64 ((wrap64 (Int.tdiv (wrap64 ((wrap64 (s0_1 + 1)) - 1)) (s0_0.length : Int))) * 53)))) (wrap64 (Int.tdiv (wrap64 ((wrap64 ((wrap64 ((wrap64 ((wrap64 (rd s0_0 (ji14))) * 131)) + (wrap64 ((wrap64 (rd s0_0 (ji17))) * 1117)))) + (wrap64 ((wrap64 ((wrap64 (s0_1 + 1)) - 1)) * 29)))) + (wrap64 ((wrap64 (Int.tdiv (wrap64 ((wrap64 (s0_1 + 1)) - 1)) (s0_0.length : Int))) * 53)))) 64))) a1,(wrap64 (s0_1 + 1))))) else (none)) else (none)) = some (r1,r2):=by first|(rw [hji17] at H;exact H)|(simp only [hji17] at H ⊢;exact H)
        by_cases c18 : 0 ≤ (ji17)
        ·rw [if_pos c18] at H
         have c18b0 : decide (0 ≤ (ji17)) = true:=decide_eq_true c18
         clear c18
         by_cases c19 : (ji17) < (s0_0.length : Int)
         ·rw [if_pos c19] at H
          have c19b0 : decide ((ji17) < (s0_0.length : Int)) = true:=decide_eq_true c19
          clear c19
          by_cases c20 : a1 = 0
          ·rw [if_pos c20] at H
           exact absurd H (by simp)
          ·rw [if_neg c20] at H
           have c20b0 : (a1 == 0) = false:=beq_eq_false_iff_ne.mpr c20
           have c20b1 : (a1 != 0) = true:=bne_iff_ne.mpr c20
           simp only [Option.some.injEq,Prod.mk.injEq] at H
           obtain ⟨rfl,rfl⟩:=H
           obtain ⟨ASz21_0,cSz21_0,HGz21,hgz21,HSz21_0⟩:=HI0.1
           have hcz21_0:=cellS76_0 HGz21
           have hcz21_1:=cellS76_1 HGz21
           have hfz21_1:=b7z HGz21 1
           clear HGz21 hgz21
           have p102 : 0 ≤ ((ji14) : Int):=of_decide_eq_true (by first|(with_reducible assumption)|assumption)
           have q102 : (ji14) < (s0_0.length : Int):=of_decide_eq_true (by first|(with_reducible assumption)|assumption)
           obtain ⟨ad102,e102,hx102_0⟩:=Kd.at_int HSz21_0 (ji14) p102 q102
           cases e102
           replace hx102_0:=pw_cell_below HB.1 hx102_0
           replace p102:=eq_true p102
           replace q102:=eq_true q102
           have p103 : 0 ≤ ((ji17) : Int):=of_decide_eq_true (by first|(with_reducible assumption)|assumption)
           have q103 : (ji17) < (s0_0.length : Int):=of_decide_eq_true (by first|(with_reducible assumption)|assumption)
           obtain ⟨ad103,e103,hx103_0⟩:=Kd.at_int HSz21_0 (ji17) p103 q103
           obtain rfl : ad102 = ad103:=(by injection e103)
           replace hx103_0:=pw_cell_below HB.1 hx103_0
           replace p103:=eq_true p103
           replace q103:=eq_true q103
           go_wp2
           repeat (go_quiet (fail);try go_wp2)
           go_ret
           exact ⟨by first|rfl|(simp [c2z,c1z] <;> rfl)|(simp only [← hji14,← hji17];first|rfl|(simp [c2z,c1z] <;> rfl))|(simp [*,c2z,c1z] <;> rfl),by repeat (first|(with_reducible first|exact HI0.1|apply IsS76.alloc|apply IsS76.drewN|apply IsS76.drew|apply IsS76.set_1)|exact HI0.1),by repeat (first|(with_reducible first|exact HB.1|apply a3z|apply a1z|apply a2z|refine a6z ?_ (IsS76.ge HI0.1))|exact HB.1),by repeat (first|(with_reducible first|exact HK.1|apply b9z.set_|apply c5z|apply c7z|apply keep_alloc)|exact HK.1)⟩
         ·rw [if_neg c19] at H
          exact absurd H (by simp)
        ·rw [if_neg c18] at H
         exact absurd H (by simp)
       ·rw [if_neg c16] at H
        exact absurd H (by simp)
      ·rw [if_neg c15] at H
       exact absurd H (by simp)
end Go.Proofs.Ytmdhedkgpgoneaa.Q

namespace Go.Proofs.Ytmdhedkgpgoneaa.Q
open Go.RowKit Go.Proofs.YtmdhedkgpgoneaaW.PrintWords Go.Proofs.YtmdhedkgpgoneaaW.PrintLast Go.Proofs.YtmdhedkgpgoneaaW.PrintMore
attribute [local go_sem] e4z e2z e7z e6z d8z d7z e3z e1z
set_option linter.unusedVariables false
set_option linter.unusedSimpArgs false
def spec_l1Rd_one.f (k : Nat) (s0_0 : List Int) (s0_1 : Int) (l1 : List Int) : Option (Int × Int):=(spec_l1Rd_pick.f k s0_0 s0_1 (l1.length : Int)).bind fun bt101 => (if 0 ≤ bt101.1 then (if bt101.1 < (l1.length : Int) then (some (rd l1 bt101.1,bt101.2)) else (none)) else (none))
set_option maxHeartbeats 8000000 in
set_option maxRecDepth 100000 in
theorem spec_l1Rd_one.calls (k : Nat) (g : Nat) (s0_0 : List Int) (s0_1 : Int) (A1 : Option Addr) (c1 : Nat) (l1 : List Int) (r1 : Int) (r2 : Int) (w0 w : World) (hI : IsS76 w0 w g s0_0 s0_1) (hB : Below w0.heap.size w0 w) (hr1 : Kd.C (Kd.int .i64) w A1 l1.length l1) (hc1 : l1.length ≤ c1) (hf1 : ∀ ad,A1 = some ad → 0 < l1.length → ad.block ≠ g) (h : spec_l1Rd_one.f k s0_0 s0_1 l1 = some (r1,r2)) :
  Calls Try.prog 79 #[.pointer (some ⟨g,0,none⟩),.slice A1 l1.length c1] w fun e w' => e = .returned (.int .i64 r1) ∧ IsS76 w0 w' g s0_0 r2 ∧ Below w0.heap.size w0 w' ∧ b9z w w' g none:=by
 have HR1:=a0z.mk hr1
 have HC1:=a0z.mk hc1
 clear hr1 hc1
 have HI0:=a0z.mk hI
 have HK:=a0z.mk (b9z.refl w g none)
 have HL:=a0z.mk hB.size
 clear hI
 have HW0:=a0z.mk hB.size
 have HB:=a0z.mk hB
 clear hB
 have H : ((spec_l1Rd_pick.f k s0_0 s0_1 (l1.length : Int)).bind fun bt101 => (if 0 ≤ bt101.1 then (if bt101.1 < (l1.length : Int) then (some (rd l1 bt101.1,bt101.2)) else (none)) else (none))) = some (r1,r2):=h
 clear h
 replace H:=Option.bind_eq_some_iff.mp H
 obtain ⟨⟨t101,t102⟩,A30,H⟩:=H
 replace H : (if 0 ≤ t101 then (if t101 < (l1.length : Int) then (some (rd l1 t101,t102)) else (none)) else (none)) = some (r1,r2):=H
 have A3:=a0z.mk A30
 clear A30
 by_cases c4 : 0 ≤ t101
 ·rw [if_pos c4] at H
  have c4b0 : decide (0 ≤ t101) = true:=decide_eq_true c4
  clear c4
  by_cases c5 : t101 < (l1.length : Int)
  ·rw [if_pos c5] at H
   have c5b0 : decide (t101 < (l1.length : Int)) = true:=decide_eq_true c5
   clear c5
   simp only [Option.some.injEq,Prod.mk.injEq] at H
   obtain ⟨rfl,rfl⟩:=H
   go_enter Try.func79,Try.ntmps79
   go_wp2_with (first|((with_reducible refine b8z (f:=64) rfl ?_);refine d2z (some 9) rfl rfl Try.func64 (by kernel_rfl) rfl #[.pointer (some ⟨g,0,none⟩),.int .i64 (l1.length : Int)] rfl (by (try simp only [List.map_toArray,List.map_cons,List.map_nil]);first|done|rfl|(simp only [List.length_drop,List.length_take];rfl)) ?_;(with_reducible refine (spec_l1Rd_pick.calls k g s0_0 s0_1 (l1.length : Int) t101 t102 w0 _ ?side1 ?side2 A3.1).mono ?_);(case side1 => repeat (first|(with_reducible first|exact HI0.1|apply IsS76.alloc|apply IsS76.drewN|apply IsS76.drew|apply IsS76.set_1)|exact HI0.1));(case side2 => repeat (first|(with_reducible first|exact HB.1|apply a3z|apply a1z|apply a2z|refine a6z ?_ (IsS76.ge HI0.1))|exact HB.1));rintro e w6 ⟨rfl,hi,hb,hk⟩;refine ⟨_,rfl,?_⟩;have n0_:=a0z.mk (b9z.trans (by repeat (first|(with_reducible first|exact HK.1|apply b9z.set_|apply c5z|apply c7z|apply keep_alloc)|exact HK.1)) hk (.inl rfl));have n1_:=a0z.mk (hb);have n2_:=a0z.mk (hi);clear HK;clear HB;clear HI0;have HK:=n0_;have HB:=n1_;have HI0:=n2_;clear n0_ n1_ n2_;(try clear hb);(try clear hb2);(try clear hk);(try clear hi);have p103 : 0 ≤ (t101 : Int):=of_decide_eq_true (by first|(with_reducible assumption)|assumption);have q103 : t101 < (l1.length : Int):=of_decide_eq_true (by first|(with_reducible assumption)|assumption);obtain ⟨ad103,e103,hx103_0⟩:=Kd.at_int HR1.1 t101 p103 q103;cases e103;replace hx103_0:=keep_cell HK.1 hx103_0 (by first|(rw [c8z];exact hf1 _ rfl (by omega))|exact hf1 _ rfl (by omega)|exact hf1 ad103 rfl (by omega));replace p103:=eq_true p103;replace q103:=eq_true q103))
   go_ret
   exact ⟨by first|rfl|(simp [c2z,c1z] <;> rfl)|(simp [*,c2z,c1z] <;> rfl),by repeat (first|(with_reducible first|exact HI0.1|apply IsS76.alloc|apply IsS76.drewN|apply IsS76.drew|apply IsS76.set_1)|exact HI0.1),by repeat (first|(with_reducible first|exact HB.1|apply a3z|apply a1z|apply a2z|refine a6z ?_ (IsS76.ge HI0.1))|exact HB.1),by repeat (first|(with_reducible first|exact HK.1|apply b9z.set_|apply c5z|apply c7z|apply keep_alloc)|exact HK.1)⟩
  ·rw [if_neg c5] at H
   exact absurd H (by simp)
 ·rw [if_neg c4] at H
  exact absurd H (by simp)
end Go.Proofs.Ytmdhedkgpgoneaa.Q

namespace Go.Proofs.Ytmdhedkgpgoneaa.Q
open Go.RowKit Go.Proofs.YtmdhedkgpgoneaaW.PrintWords Go.Proofs.YtmdhedkgpgoneaaW.PrintLast Go.Proofs.YtmdhedkgpgoneaaW.PrintMore
attribute [local go_sem] e4z e2z e7z e6z d8z d7z e3z e1z
set_option linter.unusedVariables false
set_option linter.unusedSimpArgs false
def spec_l1Over.f (k : Nat) (a0 : Int) (a1 : Int) : Option (Int × Int):=(spec_l1Size.f k a1).bind fun t102 => (if t102 = 0 then (none) else ((spec_l1Size.f k a1).bind fun t103 => (some (wrap64 ((wrap64 (Int.tdiv a0 t102)) * t103),a1))))
def spec_l1Over.T1 : Bool × List (List Nat × List Nat):=(true,[([],[]),([],[]),([1],[1]),([0,2],[0,2]),([],[]),([4,2],[4]),([3,5],[3,5]),([],[]),([6,7],[6,7]),([8,5,0,1,2,3,4,5,6,7,8],[8])])
def spec_l1Over.B1 : List Nat:=[0,0,2,7,0,22,63,0,255,511]
theorem spec_l1Over.tab1 : rtab .any (opsOf Try.f83 1) = spec_l1Over.T1:=by kernel_rfl
theorem spec_l1Over.bits1 : waitsOk spec_l1Over.T1.2 spec_l1Over.B1 = true:=by kernel_rfl
set_option maxHeartbeats 8000000 in
set_option maxRecDepth 100000 in
theorem spec_l1Over.calls (k : Nat) (a0 : Int) (a1 : Int) (r1 : Int) (r2 : Int) (w : World) (h : spec_l1Over.f k a0 a1 = some (r1,r2)) :
  Calls Try.prog 83 #[.int .i64 a0,.int .i64 a1] w fun e w' => e = .returned (.agg #[.int .i64 r1,.int .i64 r2]) ∧ Below w.heap.size w w':=by
 have hu44:=Try.underlying44
 have HB:=a0z.mk (Below.refl w.heap.size w)
 have H : ((spec_l1Size.f k a1).bind fun t102 => (if t102 = 0 then (none) else ((spec_l1Size.f k a1).bind fun t103 => (some (wrap64 ((wrap64 (Int.tdiv a0 t102)) * t103),a1))))) = some (r1,r2):=h
 clear h
 replace H:=Option.bind_eq_some_iff.mp H
 obtain ⟨t102,A30,H⟩:=H
 replace H : (if t102 = 0 then (none) else ((spec_l1Size.f k a1).bind fun t103 => (some (wrap64 ((wrap64 (Int.tdiv a0 t102)) * t103),a1)))) = some (r1,r2):=H
 have A3:=a0z.mk A30
 clear A30
 by_cases c4 : t102 = 0
 ·rw [if_pos c4] at H
  exact absurd H (by simp)
 ·rw [if_neg c4] at H
  have c4b0 : (t102 == 0) = false:=beq_eq_false_iff_ne.mpr c4
  have c4b1 : (t102 != 0) = true:=bne_iff_ne.mpr c4
  replace H:=Option.bind_eq_some_iff.mp H
  obtain ⟨t103,A50,H⟩:=H
  replace H : (some (wrap64 ((wrap64 (Int.tdiv a0 t102)) * t103),a1)) = some (r1,r2):=H
  have A5:=a0z.mk A50
  clear A50
  simp only [Option.some.injEq,Prod.mk.injEq] at H
  obtain ⟨rfl,rfl⟩:=H
  go_enter Try.func83,Try.ntmps83
  try go_wp2_with (first|((with_reducible refine d4z (N:=4) rfl ?_);refine e0z ?hg (N:=4) ?hd (cs:=#[.int .i64 0,.int .i64 0]) (t:=44) ?hr ?_;(case hd => rfl);(case hg => rfl);(case hr => first|(go_simp;done)|(go_simp;rfl));intro gb101 hg w6 hbox hb;have n0_:=a0z.mk (b3z (by repeat (first|(with_reducible first|exact HB.1|apply a3z|apply a1z|apply a2z)|exact HB.1)) hb);have n1_:=a0z.mk (hbox);have n2_:=a0z.mk ((by rw [hg];exact (b1z (by repeat (first|(with_reducible first|exact HB.1|apply a3z|apply a1z|apply a2z)|exact HB.1))) : w.heap.size ≤ gb101));have n3_:=a0z.mk ((by rw [hg];exact (b1z (by repeat (first|(with_reducible first|exact HB.1|apply a3z|apply a1z|apply a2z)|exact HB.1))) : w.heap.size ≤ gb101));clear HB;have HB:=n0_;have BK101:=n1_;have GW101:=n2_;have GE101:=n3_;clear n0_ n1_ n2_ n3_;clear hb hbox hg))
  have n0_:=a0z.mk (a9z BK101.1)
  have n1_:=a0z.mk (a2z HB.1)
  clear BK101
  clear HB
  have BK101:=n0_
  have HB:=n1_
  clear n0_ n1_
  refine g9z (n:=10) (S:=fun w' => True) (ds:=[]) #[false,false,false,false,false,false,false,false,false,false] (by kernel_rfl) rfl rfl trivial (fun hHeld => ?_);refine f8z spec_l1Over.tab1 spec_l1Over.bits1 (fun HT_ HW_ => ?_)
  generalize w6.drew = w7 at BK101 HB hHeld ⊢
  refine pure_ (i:=0) (N:=some 5) (v:=?_) (a':=?_) #[true,false,false,false,false,false,false,false,false,false] rfl rfl (c0z HT_.1 (by kernel_rfl)) (fun _ _ _ h => h) (Or.inl ⟨by rfl,?_⟩) ?_ ?_
  rotate_left
  ·intro w'
   go_simp
   with_reducible rfl
  rotate_left
  ·simp only [Act.put,sA_,sZ_,sS_,i64_w,i32_w]
   rfl
  refine pure_ (i:=1) (N:=some 6) (v:=?_) (a':=?_) #[true,true,false,false,false,false,false,false,false,false] rfl rfl (c0z HT_.1 (by kernel_rfl)) (fun _ _ _ h => h) (Or.inl ⟨by rfl,?_⟩) ?_ ?_
  rotate_left
  ·intro w'
   go_simp
   with_reducible rfl
  rotate_left
  ·simp only [Act.put,sA_,sZ_,sS_,i64_w,i32_w]
   rfl
  refine pure_ (i:=4) (N:=some 9) (v:=?_) (a':=?_) #[true,true,false,false,true,false,false,false,false,false] rfl rfl (c0z HT_.1 (by kernel_rfl)) (fun _ _ _ h => h) (Or.inl ⟨by rfl,?_⟩) ?_ ?_
  rotate_left
  ·intro w'
   go_simp
   with_reducible rfl
  rotate_left
  ·simp only [Act.put,sA_,sZ_,sS_,i64_w,i32_w]
   rfl
  refine pure_ (i:=7) (N:=some 12) (v:=?_) (a':=?_) #[true,true,false,false,true,false,false,true,false,false] rfl rfl (c0z HT_.1 (by kernel_rfl)) (fun _ _ _ h => h) (Or.inl ⟨by rfl,?_⟩) ?_ ?_
  rotate_left
  ·intro w'
   go_simp
   with_reducible rfl
  rotate_left
  ·simp only [Act.put,sA_,sZ_,sS_,i64_w,i32_w]
   rfl
  refine one_ (i:=2) (N:=some 7) #[true,true,true,false,true,false,false,true,false,false] rfl rfl (f9z HT_.1 (by kernel_rfl)) (by decide) (fun K hK => ?_)
  refine goes_ Try.func44 (by kernel_rfl) rfl #[.int .i64 a1] (by rfl) rfl rfl (by (try simp only [List.map_toArray,List.map_cons,List.map_nil]);first|done|rfl|(simp only [List.length_drop,List.length_take];rfl)) ?_
  with_reducible refine (spec_l1Size.calls k a1 t102 _ A3.1).mono ?_
  rintro e w' ⟨rfl,⟨nd,rfl⟩⟩
  refine ⟨_,rfl,?_⟩
  refine hK.out _ _ trivial (fun hHeld => ?_)
  clear hK K
  refine norm_ (a':=?_) ?_ ?_
  rotate_left
  ·show Act.put _ (some 7) _ = _
   simp only [Act.put,sA_,sZ_,sS_,i64_w,i32_w]
   rfl
  refine pure_ (i:=3) (N:=some 8) (v:=?_) (a':=?_) #[true,true,true,true,true,false,false,true,false,false] rfl rfl (c0z HT_.1 (by kernel_rfl)) (fun _ _ _ h => h) (Or.inl ⟨by rfl,?_⟩) ?_ ?_
  rotate_left
  ·intro w'
   go_simp
   with_reducible rfl
  rotate_left
  ·simp only [Act.put,sA_,sZ_,sS_,i64_w,i32_w]
   rfl
  refine one_ (i:=5) (N:=some 10) #[true,true,true,true,true,true,false,true,false,false] rfl rfl (f9z HT_.1 (by kernel_rfl)) (by decide) (fun K hK => ?_)
  refine goes_ Try.func44 (by kernel_rfl) rfl #[.int .i64 a1] (by rfl) rfl rfl (by (try simp only [List.map_toArray,List.map_cons,List.map_nil]);first|done|rfl|(simp only [List.length_drop,List.length_take];rfl)) ?_
  with_reducible refine (spec_l1Size.calls k a1 t103 _ A5.1).mono ?_
  rintro e w' ⟨rfl,⟨nd,rfl⟩⟩
  refine ⟨_,rfl,?_⟩
  refine hK.out _ _ trivial (fun hHeld => ?_)
  clear hK K
  refine norm_ (a':=?_) ?_ ?_
  rotate_left
  ·show Act.put _ (some 10) _ = _
   simp only [Act.put,sA_,sZ_,sS_,i64_w,i32_w]
   rfl
  refine pure_ (i:=6) (N:=some 11) (v:=?_) (a':=?_) #[true,true,true,true,true,true,true,true,false,false] rfl rfl (c0z HT_.1 (by kernel_rfl)) (fun _ _ _ h => h) (Or.inl ⟨by rfl,?_⟩) ?_ ?_
  rotate_left
  ·intro w'
   go_simp
   with_reducible rfl
  rotate_left
  ·simp only [Act.put,sA_,sZ_,sS_,i64_w,i32_w]
   rfl
  refine pure_ (i:=8) (N:=some 13) (v:=?_) (a':=?_) #[true,true,true,true,true,true,true,true,true,false] rfl rfl (c0z HT_.1 (by kernel_rfl)) (fun _ _ _ h => h) (Or.inl ⟨by rfl,?_⟩) ?_ ?_
  rotate_left
  ·intro w'
   go_simp
   with_reducible rfl
  rotate_left
  ·simp only [Act.put,sA_,sZ_,sS_,i64_w,i32_w]
   rfl
  refine one_ (i:=9) (N:=none) #[true,true,true,true,true,true,true,true,true,true] rfl rfl (f9z HT_.1 (by kernel_rfl)) (by decide) (fun K hK => ?_)
  have hs8 : w7.cell? ⟨gb101,0,none⟩ = some (.int .i64 0):=(b2z BK101.1 0).trans rfl
  have hfs8:=b7z BK101.1 0
  have hs9 : w7.cell? ⟨gb101,1,none⟩ = some (.int .i64 0):=(b2z BK101.1 1).trans rfl
  have hfs9:=b7z BK101.1 1
  refine skip_ (w1:=?_) (by rfl) rfl ?_ ?_
  rotate_left
  ·go_simp
   rfl
  refine hK.out _ _ trivial (fun hHeld => ?_)
  clear hK K
  refine done_ (g5z HT_.1 (by kernel_rfl)) ?_
  try go_wp2
  refine bodyPost_ret (results_cell_row rfl _ _ gb101 44 #[.int .i64 (wrap64 ((wrap64 (Int.tdiv a0 t102)) * t103)),.int .i64 a1] (0,0) _ rfl (by (with_reducible repeat (first|refine a8z ?_ _|refine a9z ?_|refine a7z ?_ _));refine d6z (cs:=#[.int .i64 (wrap64 ((wrap64 (Int.tdiv a0 t102)) * t103)),.int .i64 0]) ?_ 1 _ rfl;(with_reducible repeat (first|refine a8z ?_ _|refine a9z ?_|refine a7z ?_ _));refine d6z (cs:=#[.int .i64 0,.int .i64 0]) ?_ 0 _ rfl;(with_reducible repeat (first|refine a8z ?_ _|refine a9z ?_|refine a7z ?_ _));exact BK101.1) Try.underlying44 rfl (by kernel_rfl)) rfl ?_
  exact ⟨by first|rfl|(simp [c2z,c1z] <;> rfl)|(simp [*,c2z,c1z] <;> rfl),by repeat (first|(with_reducible first|exact HB.1|apply a3z|apply a1z|apply a2z|refine a6z ?_ GE101.1)|exact HB.1)⟩
end Go.Proofs.Ytmdhedkgpgoneaa.Q

namespace Go.Proofs.Ytmdhedkgpgoneaa.Q
open Go.RowKit Go.Proofs.YtmdhedkgpgoneaaW.PrintWords Go.Proofs.YtmdhedkgpgoneaaW.PrintLast Go.Proofs.YtmdhedkgpgoneaaW.PrintMore
attribute [local go_sem] e4z e2z e7z e6z d8z d7z e3z e1z
set_option linter.unusedVariables false
set_option linter.unusedSimpArgs false
def spec_l12Addr.f (k : Nat) (s0_0 : List Int) (s0_1 : Int) : Option (Int × Int):=(spec_l1Rd_pick.f k s0_0 s0_1 256).bind fun bt101 => ((spec_l1Rd_pick.f k s0_0 bt101.2 8).bind fun bt103 => ((spec_l1Rd_pick.f k s0_0 bt103.2 16).bind fun bt105 => ((spec_l1Rd_pick.f k s0_0 bt105.2 256).bind fun bt107 => ((spec_l1Rd_pick.f k s0_0 bt107.2 64).bind fun bt109 => ((spec_l1Rd_one.f k s0_0 bt109.2 (([wrap64 (167772160 + bt101.1),wrap64 (167772160 + bt103.1),wrap64 (167772416 + bt105.1),wrap64 (3232235520 + bt107.1),0,4294967295,184549375,wrap64 (2886729728 + (wrap64 (bt109.1 * 256)))] : List Int))).bind fun bt114 => (some (bt114.1,bt114.2)))))))
set_option maxHeartbeats 8000000 in
set_option maxRecDepth 100000 in
theorem spec_l12Addr.calls (k : Nat) (g : Nat) (s0_0 : List Int) (s0_1 : Int) (r1 : Int) (r2 : Int) (w0 w : World) (hI : IsS76 w0 w g s0_0 s0_1) (hB : Below w0.heap.size w0 w) (h : spec_l12Addr.f k s0_0 s0_1 = some (r1,r2)) :
  Calls Try.prog 84 #[.pointer (some ⟨g,0,none⟩)] w fun e w' => e = .returned (.int .i64 r1) ∧ IsS76 w0 w' g s0_0 r2 ∧ Below w0.heap.size w0 w' ∧ b9z w w' g none:=by
 have HI0:=a0z.mk hI
 have HK:=a0z.mk (b9z.refl w g none)
 have HL:=a0z.mk hB.size
 clear hI
 have HW0:=a0z.mk hB.size
 have HB:=a0z.mk hB
 clear hB
 have H : ((spec_l1Rd_pick.f k s0_0 s0_1 256).bind fun bt101 => ((spec_l1Rd_pick.f k s0_0 bt101.2 8).bind fun bt103 => ((spec_l1Rd_pick.f k s0_0 bt103.2 16).bind fun bt105 => ((spec_l1Rd_pick.f k s0_0 bt105.2 256).bind fun bt107 => ((spec_l1Rd_pick.f k s0_0 bt107.2 64).bind fun bt109 => ((spec_l1Rd_one.f k s0_0 bt109.2 (([wrap64 (167772160 + bt101.1),wrap64 (167772160 + bt103.1),wrap64 (167772416 + bt105.1),wrap64 (3232235520 + bt107.1),0,4294967295,184549375,wrap64 (2886729728 + (wrap64 (bt109.1 * 256)))] : List Int))).bind fun bt114 => (some (bt114.1,bt114.2)))))))) = some (r1,r2):=h
 clear h
 replace H:=Option.bind_eq_some_iff.mp H
 obtain ⟨⟨t101,t102⟩,A20,H⟩:=H
 replace H : ((spec_l1Rd_pick.f k s0_0 t102 8).bind fun bt103 => ((spec_l1Rd_pick.f k s0_0 bt103.2 16).bind fun bt105 => ((spec_l1Rd_pick.f k s0_0 bt105.2 256).bind fun bt107 => ((spec_l1Rd_pick.f k s0_0 bt107.2 64).bind fun bt109 => ((spec_l1Rd_one.f k s0_0 bt109.2 (([wrap64 (167772160 + t101),wrap64 (167772160 + bt103.1),wrap64 (167772416 + bt105.1),wrap64 (3232235520 + bt107.1),0,4294967295,184549375,wrap64 (2886729728 + (wrap64 (bt109.1 * 256)))] : List Int))).bind fun bt114 => (some (bt114.1,bt114.2))))))) = some (r1,r2):=H
 have A2:=a0z.mk A20
 clear A20
 replace H:=Option.bind_eq_some_iff.mp H
 obtain ⟨⟨t103,t104⟩,A30,H⟩:=H
 replace H : ((spec_l1Rd_pick.f k s0_0 t104 16).bind fun bt105 => ((spec_l1Rd_pick.f k s0_0 bt105.2 256).bind fun bt107 => ((spec_l1Rd_pick.f k s0_0 bt107.2 64).bind fun bt109 => ((spec_l1Rd_one.f k s0_0 bt109.2 (([wrap64 (167772160 + t101),wrap64 (167772160 + t103),wrap64 (167772416 + bt105.1),wrap64 (3232235520 + bt107.1),0,4294967295,184549375,wrap64 (2886729728 + (wrap64 (bt109.1 * 256)))] : List Int))).bind fun bt114 => (some (bt114.1,bt114.2)))))) = some (r1,r2):=H
 have A3:=a0z.mk A30
 clear A30
 replace H:=Option.bind_eq_some_iff.mp H
 obtain ⟨⟨t105,t106⟩,A40,H⟩:=H
 replace H : ((spec_l1Rd_pick.f k s0_0 t106 256).bind fun bt107 => ((spec_l1Rd_pick.f k s0_0 bt107.2 64).bind fun bt109 => ((spec_l1Rd_one.f k s0_0 bt109.2 (([wrap64 (167772160 + t101),wrap64 (167772160 + t103),wrap64 (167772416 + t105),wrap64 (3232235520 + bt107.1),0,4294967295,184549375,wrap64 (2886729728 + (wrap64 (bt109.1 * 256)))] : List Int))).bind fun bt114 => (some (bt114.1,bt114.2))))) = some (r1,r2):=H
 have A4:=a0z.mk A40
 clear A40
 replace H:=Option.bind_eq_some_iff.mp H
 obtain ⟨⟨t107,t108⟩,A50,H⟩:=H
 replace H : ((spec_l1Rd_pick.f k s0_0 t108 64).bind fun bt109 => ((spec_l1Rd_one.f k s0_0 bt109.2 (([wrap64 (167772160 + t101),wrap64 (167772160 + t103),wrap64 (167772416 + t105),wrap64 (3232235520 + t107),0,4294967295,184549375,wrap64 (2886729728 + (wrap64 (bt109.1 * 256)))] : List Int))).bind fun bt114 => (some (bt114.1,bt114.2)))) = some (r1,r2):=H
 have A5:=a0z.mk A50
 clear A50
 replace H:=Option.bind_eq_some_iff.mp H
 obtain ⟨⟨t109,t110⟩,A60,H⟩:=H
 replace H : ((spec_l1Rd_one.f k s0_0 t110 (([wrap64 (167772160 + t101),wrap64 (167772160 + t103),wrap64 (167772416 + t105),wrap64 (3232235520 + t107),0,4294967295,184549375,wrap64 (2886729728 + (wrap64 (t109 * 256)))] : List Int))).bind fun bt114 => (some (bt114.1,bt114.2))) = some (r1,r2):=H
 have A6:=a0z.mk A60
 clear A60
 obtain ⟨y111,hy111⟩ : ∃ y_ : List Int,y_ = (([wrap64 (167772160 + t101),wrap64 (167772160 + t103),wrap64 (167772416 + t105),wrap64 (3232235520 + t107),0,4294967295,184549375,wrap64 (2886729728 + (wrap64 (t109 * 256)))] : List Int)):=⟨_,rfl⟩
 replace H : ((spec_l1Rd_one.f k s0_0 t110 y111).bind fun bt114 => (some (bt114.1,bt114.2))) = some (r1,r2):=by first|(rw [hy111];with_reducible exact H)|(have H2_:=(Option.bind_some _ _).symm.trans H;rw [hy111];with_reducible exact H2_)|(have H2_:=(Option.bind_some _ _).symm.trans H;with_reducible exact H2_)|with_reducible exact H|(rw [hy111];exact H)|exact H
 have Ny111:=a0z.mk hy111
 clear hy111
 replace H:=Option.bind_eq_some_iff.mp H
 obtain ⟨⟨t114,t115⟩,A70,H⟩:=H
 replace H : (some (t114,t115)) = some (r1,r2):=H
 have A7:=a0z.mk A70
 clear A70
 simp only [Option.some.injEq,Prod.mk.injEq] at H
 obtain ⟨rfl,rfl⟩:=H
 go_enter Try.func84,Try.ntmps84
 go_wp2_with (first|((with_reducible refine b8z (f:=64) rfl ?_);refine d2z (some 5) rfl rfl Try.func64 (by kernel_rfl) rfl #[.pointer (some ⟨g,0,none⟩),.int .i64 256] rfl (by (try simp only [List.map_toArray,List.map_cons,List.map_nil]);first|done|rfl|(simp only [List.length_drop,List.length_take];rfl)) ?_;(with_reducible refine (spec_l1Rd_pick.calls k g s0_0 s0_1 256 t101 t102 w0 _ ?side1 ?side2 A2.1).mono ?_);(case side1 => repeat (first|(with_reducible first|exact HI0.1|apply IsS76.alloc|apply IsS76.drewN|apply IsS76.drew|apply IsS76.set_1)|exact HI0.1));(case side2 => repeat (first|(with_reducible first|exact HB.1|apply a3z|apply a1z|apply a2z|refine a6z ?_ (IsS76.ge HI0.1))|exact HB.1));rintro e w8 ⟨rfl,hi,hb,hk⟩;refine ⟨_,rfl,?_⟩;have n0_:=a0z.mk (b9z.trans (by repeat (first|(with_reducible first|exact HK.1|apply b9z.set_|apply c5z|apply c7z|apply keep_alloc)|exact HK.1)) hk (.inl rfl));have n1_:=a0z.mk (hb);have n2_:=a0z.mk (hi);clear HK;clear HB;clear HI0;have HK:=n0_;have HB:=n1_;have HI0:=n2_;clear n0_ n1_ n2_;(try clear hb);(try clear hb2);(try clear hk);(try clear hi))|((with_reducible refine b8z (f:=64) rfl ?_);refine d2z (some 8) rfl rfl Try.func64 (by kernel_rfl) rfl #[.pointer (some ⟨g,0,none⟩),.int .i64 8] rfl (by (try simp only [List.map_toArray,List.map_cons,List.map_nil]);first|done|rfl|(simp only [List.length_drop,List.length_take];rfl)) ?_;(with_reducible refine (spec_l1Rd_pick.calls k g s0_0 t102 8 t103 t104 w0 _ ?side1 ?side2 A3.1).mono ?_);(case side1 => repeat (first|(with_reducible first|exact HI0.1|apply IsS76.alloc|apply IsS76.drewN|apply IsS76.drew|apply IsS76.set_1)|exact HI0.1));(case side2 => repeat (first|(with_reducible first|exact HB.1|apply a3z|apply a1z|apply a2z|refine a6z ?_ (IsS76.ge HI0.1))|exact HB.1));rintro e w9 ⟨rfl,hi,hb,hk⟩;refine ⟨_,rfl,?_⟩;have n0_:=a0z.mk (b9z.trans (by repeat (first|(with_reducible first|exact HK.1|apply b9z.set_|apply c5z|apply c7z|apply keep_alloc)|exact HK.1)) hk (.inl rfl));have n1_:=a0z.mk (hb);have n2_:=a0z.mk (hi);clear HK;clear HB;clear HI0;have HK:=n0_;have HB:=n1_;have HI0:=n2_;clear n0_ n1_ n2_;(try clear hb);(try clear hb2);(try clear hk);(try clear hi))|((with_reducible refine b8z (f:=64) rfl ?_);refine d2z (some 11) rfl rfl Try.func64 (by kernel_rfl) rfl #[.pointer (some ⟨g,0,none⟩),.int .i64 16] rfl (by (try simp only [List.map_toArray,List.map_cons,List.map_nil]);first|done|rfl|(simp only [List.length_drop,List.length_take];rfl)) ?_;(with_reducible refine (spec_l1Rd_pick.calls k g s0_0 t104 16 t105 t106 w0 _ ?side1 ?side2 A4.1).mono ?_);(case side1 => repeat (first|(with_reducible first|exact HI0.1|apply IsS76.alloc|apply IsS76.drewN|apply IsS76.drew|apply IsS76.set_1)|exact HI0.1));(case side2 => repeat (first|(with_reducible first|exact HB.1|apply a3z|apply a1z|apply a2z|refine a6z ?_ (IsS76.ge HI0.1))|exact HB.1));rintro e w10 ⟨rfl,hi,hb,hk⟩;refine ⟨_,rfl,?_⟩;have n0_:=a0z.mk (b9z.trans (by repeat (first|(with_reducible first|exact HK.1|apply b9z.set_|apply c5z|apply c7z|apply keep_alloc)|exact HK.1)) hk (.inl rfl));have n1_:=a0z.mk (hb);have n2_:=a0z.mk (hi);clear HK;clear HB;clear HI0;have HK:=n0_;have HB:=n1_;have HI0:=n2_;clear n0_ n1_ n2_;(try clear hb);(try clear hb2);(try clear hk);(try clear hi))|((with_reducible refine b8z (f:=64) rfl ?_);refine d2z (some 14) rfl rfl Try.func64 (by kernel_rfl) rfl #[.pointer (some ⟨g,0,none⟩),.int .i64 256] rfl (by (try simp only [List.map_toArray,List.map_cons,List.map_nil]);first|done|rfl|(simp only [List.length_drop,List.length_take];rfl)) ?_;(with_reducible refine (spec_l1Rd_pick.calls k g s0_0 t106 256 t107 t108 w0 _ ?side1 ?side2 A5.1).mono ?_);(case side1 => repeat (first|(with_reducible first|exact HI0.1|apply IsS76.alloc|apply IsS76.drewN|apply IsS76.drew|apply IsS76.set_1)|exact HI0.1));(case side2 => repeat (first|(with_reducible first|exact HB.1|apply a3z|apply a1z|apply a2z|refine a6z ?_ (IsS76.ge HI0.1))|exact HB.1));rintro e w11 ⟨rfl,hi,hb,hk⟩;refine ⟨_,rfl,?_⟩;have n0_:=a0z.mk (b9z.trans (by repeat (first|(with_reducible first|exact HK.1|apply b9z.set_|apply c5z|apply c7z|apply keep_alloc)|exact HK.1)) hk (.inl rfl));have n1_:=a0z.mk (hb);have n2_:=a0z.mk (hi);clear HK;clear HB;clear HI0;have HK:=n0_;have HB:=n1_;have HI0:=n2_;clear n0_ n1_ n2_;(try clear hb);(try clear hb2);(try clear hk);(try clear hi))|((with_reducible refine b8z (f:=64) rfl ?_);refine d2z (some 17) rfl rfl Try.func64 (by kernel_rfl) rfl #[.pointer (some ⟨g,0,none⟩),.int .i64 64] rfl (by (try simp only [List.map_toArray,List.map_cons,List.map_nil]);first|done|rfl|(simp only [List.length_drop,List.length_take];rfl)) ?_;(with_reducible refine (spec_l1Rd_pick.calls k g s0_0 t108 64 t109 t110 w0 _ ?side1 ?side2 A6.1).mono ?_);(case side1 => repeat (first|(with_reducible first|exact HI0.1|apply IsS76.alloc|apply IsS76.drewN|apply IsS76.drew|apply IsS76.set_1)|exact HI0.1));(case side2 => repeat (first|(with_reducible first|exact HB.1|apply a3z|apply a1z|apply a2z|refine a6z ?_ (IsS76.ge HI0.1))|exact HB.1));rintro e w12 ⟨rfl,hi,hb,hk⟩;refine ⟨_,rfl,?_⟩;have n0_:=a0z.mk (b9z.trans (by repeat (first|(with_reducible first|exact HK.1|apply b9z.set_|apply c5z|apply c7z|apply keep_alloc)|exact HK.1)) hk (.inl rfl));have n1_:=a0z.mk (hb);have n2_:=a0z.mk (hi);clear HK;clear HB;clear HI0;have HK:=n0_;have HB:=n1_;have HI0:=n2_;clear n0_ n1_ n2_;(try clear hb);(try clear hb2);(try clear hk);(try clear hi))|((with_reducible refine d4z (N:=20) rfl ?_);refine Kd.R_lit (Kd.int .i64) _ 3 ?hg (N:=20) ?hd (xs:=([wrap64 (167772160 + t101),wrap64 (167772160 + t103),wrap64 (167772416 + t105),wrap64 (3232235520 + t107),0,4294967295,184549375,wrap64 (2886729728 + (wrap64 (t109 * 256)))] : List Int)) (inner:=[.int .i64 (wrap64 (167772160 + t101)),.int .i64 (wrap64 (167772160 + t103)),.int .i64 (wrap64 (167772416 + t105)),.int .i64 (wrap64 (3232235520 + t107)),.int .i64 0,.int .i64 4294967295,.int .i64 184549375,.int .i64 (wrap64 (2886729728 + (wrap64 (t109 * 256))))]) (ok:=fun _ => True) (okp:=fun _ => True) ?hr ?hp (fun _ hk => hk) trivial (Below.refl _ _) (Nat.le_refl _) (by simp) ?_;(case hd => rfl);(case hg => rfl);(case hr => first|(go_simp;done)|(go_simp;rfl));(case hp => exact (Reps.one (show Kd.M (Kd.int .i64) _ _ _ (wrap64 (167772160 + t101)) [.int .i64 (wrap64 (167772160 + t101))] from rfl) (Reps.one (show Kd.M (Kd.int .i64) _ _ _ (wrap64 (167772160 + t103)) [.int .i64 (wrap64 (167772160 + t103))] from rfl) (Reps.one (show Kd.M (Kd.int .i64) _ _ _ (wrap64 (167772416 + t105)) [.int .i64 (wrap64 (167772416 + t105))] from rfl) (Reps.one (show Kd.M (Kd.int .i64) _ _ _ (wrap64 (3232235520 + t107)) [.int .i64 (wrap64 (3232235520 + t107))] from rfl) (Reps.one (show Kd.M (Kd.int .i64) _ _ _ 0 [.int .i64 0] from rfl) (Reps.one (show Kd.M (Kd.int .i64) _ _ _ 4294967295 [.int .i64 4294967295] from rfl) (Reps.one (show Kd.M (Kd.int .i64) _ _ _ 184549375 [.int .i64 184549375] from rfl) (Reps.one (show Kd.M (Kd.int .i64) _ _ _ (wrap64 (2886729728 + (wrap64 (t109 * 256)))) [.int .i64 (wrap64 (2886729728 + (wrap64 (t109 * 256))))] from rfl) (Reps.none _ _))))))))));intro v112 w13 ho14 hb hg_ hnew_;clear hg_ hnew_;(first|rw [← Ny111.1] at ho14|(simp only [Int.reduceToNat] at ho14;rw [← Ny111.1] at ho14));have n0_:=a0z.mk (Kd.d5z ho14 (f1z (w:=w) (g:=g) (row:=none) (by repeat (first|(with_reducible first|exact HK.1|apply b9z.set_|apply c5z|apply c7z|apply keep_alloc)|exact HK.1))));have n1_:=a0z.mk (IsS76.below (by repeat (first|(with_reducible first|exact HI0.1|apply IsS76.alloc|apply IsS76.drewN|apply IsS76.drew|apply IsS76.set_1)|exact HI0.1)) hb);have n2_:=a0z.mk (b9z.trans (by repeat (first|(with_reducible first|exact HK.1|apply b9z.set_|apply c5z|apply c7z|apply keep_alloc)|exact HK.1)) (b9z.of_below hb g none) (.inl rfl));have n3_:=a0z.mk (b3z (by repeat (first|(with_reducible first|exact HB.1|apply a3z|apply a1z|apply a2z|refine a6z ?_ (IsS76.ge HI0.1))|exact HB.1)) hb);clear HI0;clear HK;clear HB;have HO113:=n0_;have HI0:=n1_;have HK:=n2_;have HB:=n3_;clear n0_ n1_ n2_ n3_;clear hb ho14;obtain ⟨Ao15,co15,eo15⟩:=Kd.d3z HO113.1;subst eo15)|((with_reducible refine b8z (f:=79) rfl ?_);refine d2z (some 21) rfl rfl Try.func79 (by kernel_rfl) rfl #[.pointer (some ⟨g,0,none⟩),.slice Ao15 y111.length co15] rfl (by (try simp only [List.map_toArray,List.map_cons,List.map_nil]);first|done|rfl|(simp only [List.length_drop,List.length_take];rfl)) ?_;(with_reducible refine (spec_l1Rd_one.calls k g s0_0 t110 _ _ y111 t114 t115 w0 _ ?side1 ?side2 ?side3 ?side4 ?side5 A7.1).mono ?_);(case side1 => repeat (first|(with_reducible first|exact HI0.1|apply IsS76.alloc|apply IsS76.drewN|apply IsS76.drew|apply IsS76.set_1)|exact HI0.1));(case side2 => repeat (first|(with_reducible first|exact HB.1|apply a3z|apply a1z|apply a2z|refine a6z ?_ (IsS76.ge HI0.1))|exact HB.1));(case side3 => repeat (first|exact (Kd.b4z HO113.1).2.2|(with_reducible refine Kd.C_alloc ?_ _)|(with_reducible refine Kd.C_drewN ?_ _)|(with_reducible refine Kd.C_drew ?_)));(case side4 => exact (Kd.b4z HO113.1).2.1);(case side5 => exact far_slice (IsS76.own_ne HI0.1 HO113.1 (by decide)));rintro e w16 ⟨rfl,hi,hb,hk⟩;refine ⟨_,rfl,?_⟩;have n0_:=a0z.mk (Kd.b5z (Kd.R_keep (IsS76.apart (show IsS76 w0 _ g s0_0 t110 from by repeat (first|(with_reducible first|exact HI0.1|apply IsS76.alloc|apply IsS76.drewN|apply IsS76.drew|apply IsS76.set_1)|exact HI0.1)) (by (with_reducible repeat (first|apply Kd.R_alloc|apply Kd.a4z|apply Kd.a5z));exact HO113.1) (by decide)) hk (fun _ h => h.2)) (fun _ h => h.1));have n1_:=a0z.mk (b9z.trans (by repeat (first|(with_reducible first|exact HK.1|apply b9z.set_|apply c5z|apply c7z|apply keep_alloc)|exact HK.1)) hk (.inl rfl));have n2_:=a0z.mk (hb);have n3_:=a0z.mk (hi);clear HO113;clear HK;clear HB;clear HI0;have HO113:=n0_;have HK:=n1_;have HB:=n2_;have HI0:=n3_;clear n0_ n1_ n2_ n3_;(try clear hb);(try clear hb2);(try clear hk);(try clear hi)))
 go_ret
 exact ⟨by first|rfl|(simp [c2z,c1z] <;> rfl)|(simp [*,c2z,c1z] <;> rfl),by repeat (first|(with_reducible first|exact HI0.1|apply IsS76.alloc|apply IsS76.drewN|apply IsS76.drew|apply IsS76.set_1)|exact HI0.1),by repeat (first|(with_reducible first|exact HB.1|apply a3z|apply a1z|apply a2z|refine a6z ?_ (IsS76.ge HI0.1))|exact HB.1),by repeat (first|(with_reducible first|exact HK.1|apply b9z.set_|apply c5z|apply c7z|apply keep_alloc)|exact HK.1)⟩
end Go.Proofs.Ytmdhedkgpgoneaa.Q

namespace Go.Proofs.Ytmdhedkgpgoneaa.Q
open Go.RowKit Go.Proofs.YtmdhedkgpgoneaaW.PrintWords Go.Proofs.YtmdhedkgpgoneaaW.PrintLast Go.Proofs.YtmdhedkgpgoneaaW.PrintMore
attribute [local go_sem] e4z e2z e7z e6z d8z d7z e3z e1z
set_option linter.unusedVariables false
set_option linter.unusedSimpArgs false
def spec_l12Block.f (k : Nat) (s0_0 : List Int) (s0_1 : Int) : Option (Int × Int × Int):=(spec_l12Addr.f k s0_0 s0_1).bind fun bt102 => ((spec_l1Rd_one.f k s0_0 bt102.2 (([32,31,30,28,24,24,25,16,8,1,0,29] : List Int))).bind fun bt107 => ((spec_l1Over.f k bt102.1 bt107.1).bind fun bt109 => (some (bt109.1,bt109.2,bt107.2))))
set_option maxHeartbeats 8000000 in
set_option maxRecDepth 100000 in
theorem spec_l12Block.calls (k : Nat) (g : Nat) (s0_0 : List Int) (s0_1 : Int) (r1 : Int) (r2 : Int) (r3 : Int) (w0 w : World) (hI : IsS76 w0 w g s0_0 s0_1) (hB : Below w0.heap.size w0 w) (h : spec_l12Block.f k s0_0 s0_1 = some (r1,r2,r3)) :
  Calls Try.prog 78 #[.pointer (some ⟨g,0,none⟩)] w fun e w' => e = .returned (.agg #[.int .i64 r1,.int .i64 r2]) ∧ IsS76 w0 w' g s0_0 r3 ∧ Below w0.heap.size w0 w' ∧ b9z w w' g none:=by
 have hu44:=Try.underlying44
 have HI0:=a0z.mk hI
 have HK:=a0z.mk (b9z.refl w g none)
 have HL:=a0z.mk hB.size
 clear hI
 have HW0:=a0z.mk hB.size
 have HB:=a0z.mk hB
 clear hB
 have H : ((spec_l12Addr.f k s0_0 s0_1).bind fun bt102 => ((spec_l1Rd_one.f k s0_0 bt102.2 (([32,31,30,28,24,24,25,16,8,1,0,29] : List Int))).bind fun bt107 => ((spec_l1Over.f k bt102.1 bt107.1).bind fun bt109 => (some (bt109.1,bt109.2,bt107.2))))) = some (r1,r2,r3):=h
 clear h
 replace H:=Option.bind_eq_some_iff.mp H
 obtain ⟨⟨t102,t103⟩,A20,H⟩:=H
 replace H : ((spec_l1Rd_one.f k s0_0 t103 (([32,31,30,28,24,24,25,16,8,1,0,29] : List Int))).bind fun bt107 => ((spec_l1Over.f k t102 bt107.1).bind fun bt109 => (some (bt109.1,bt109.2,bt107.2)))) = some (r1,r2,r3):=H
 have A2:=a0z.mk A20
 clear A20
 obtain ⟨y104,hy104⟩ : ∃ y_ : List Int,y_ = (([32,31,30,28,24,24,25,16,8,1,0,29] : List Int)):=⟨_,rfl⟩
 replace H : ((spec_l1Rd_one.f k s0_0 t103 y104).bind fun bt107 => ((spec_l1Over.f k t102 bt107.1).bind fun bt109 => (some (bt109.1,bt109.2,bt107.2)))) = some (r1,r2,r3):=by first|(rw [hy104];with_reducible exact H)|(have H2_:=(Option.bind_some _ _).symm.trans H;rw [hy104];with_reducible exact H2_)|(have H2_:=(Option.bind_some _ _).symm.trans H;with_reducible exact H2_)|with_reducible exact H|(rw [hy104];exact H)|exact H
 have Ny104:=a0z.mk hy104
 clear hy104
 replace H:=Option.bind_eq_some_iff.mp H
 obtain ⟨⟨t107,t108⟩,A30,H⟩:=H
 replace H : ((spec_l1Over.f k t102 t107).bind fun bt109 => (some (bt109.1,bt109.2,t108))) = some (r1,r2,r3):=H
 have A3:=a0z.mk A30
 clear A30
 replace H:=Option.bind_eq_some_iff.mp H
 obtain ⟨⟨t109,t110⟩,A40,H⟩:=H
 replace H : (some (t109,t110,t108)) = some (r1,r2,r3):=H
 have A4:=a0z.mk A40
 clear A40
 simp only [Option.some.injEq,Prod.mk.injEq] at H
 obtain ⟨rfl,rfl,rfl⟩:=H
 go_enter Try.func78,Try.ntmps78
 go_wp2_with (first|((with_reducible refine d4z (N:=2) rfl ?_);refine e0z ?hg (N:=2) ?hd (cs:=#[.int .i64 0,.int .i64 0]) (t:=44) ?hr ?_;(case hd => rfl);(case hg => rfl);(case hr => first|(go_simp;done)|(go_simp;rfl));intro gb101 hg w5 hbox hb;have n0_:=a0z.mk (IsS76.below (by repeat (first|(with_reducible first|exact HI0.1|apply IsS76.alloc|apply IsS76.drewN|apply IsS76.drew|apply IsS76.set_1)|exact HI0.1)) hb);have n1_:=a0z.mk (b9z.trans (by repeat (first|(with_reducible first|exact HK.1|apply b9z.set_|apply c5z|apply c7z|apply keep_alloc)|exact HK.1)) (b9z.of_below hb g none) (.inl rfl));have n2_:=a0z.mk (b3z (by repeat (first|(with_reducible first|exact HB.1|apply a3z|apply a1z|apply a2z|refine a6z ?_ (IsS76.ge HI0.1))|exact HB.1)) hb);have n3_:=a0z.mk (hbox);have n4_:=a0z.mk ((by rw [hg];exact (f1z (w:=w) (g:=g) (row:=none) (by repeat (first|(with_reducible first|exact HK.1|apply b9z.set_|apply c5z|apply c7z|apply keep_alloc)|exact HK.1))) : w.heap.size ≤ gb101));have n5_:=a0z.mk ((Nat.le_trans HW0.1 (by rw [hg];exact (f1z (w:=w) (g:=g) (row:=none) (by repeat (first|(with_reducible first|exact HK.1|apply b9z.set_|apply c5z|apply c7z|apply keep_alloc)|exact HK.1))) : w.heap.size ≤ gb101) : w0.heap.size ≤ gb101));have n6_:=a0z.mk ((by rw [hg];exact Nat.ne_of_lt (IsS76.lt (show IsS76 w0 _ g s0_0 s0_1 from by repeat (first|(with_reducible first|exact HI0.1|apply IsS76.alloc|apply IsS76.drewN|apply IsS76.drew|apply IsS76.set_1)|exact HI0.1))) : g ≠ gb101));have n7_:=a0z.mk ((by rw [hg];exact Nat.ne_of_gt (IsS76.lt (show IsS76 w0 _ g s0_0 s0_1 from by repeat (first|(with_reducible first|exact HI0.1|apply IsS76.alloc|apply IsS76.drewN|apply IsS76.drew|apply IsS76.set_1)|exact HI0.1))) : gb101 ≠ g));clear HI0;clear HK;clear HB;have HI0:=n0_;have HK:=n1_;have HB:=n2_;have BK101:=n3_;have GW101:=n4_;have GE101:=n5_;have NB0_101:=n6_;have NB101_0:=n7_;clear n0_ n1_ n2_ n3_ n4_ n5_ n6_ n7_;clear hb hbox hg)|((with_reducible refine b8z (f:=84) rfl ?_);refine d2z (some 4) rfl rfl Try.func84 (by kernel_rfl) rfl #[.pointer (some ⟨g,0,none⟩)] rfl (by (try simp only [List.map_toArray,List.map_cons,List.map_nil]);first|done|rfl|(simp only [List.length_drop,List.length_take];rfl)) ?_;(with_reducible refine (spec_l12Addr.calls k g s0_0 s0_1 t102 t103 w0 _ ?side1 ?side2 A2.1).mono ?_);(case side1 => repeat (first|(with_reducible first|exact HI0.1|apply IsS76.alloc|apply IsS76.drewN|apply IsS76.drew|apply IsS76.set_1|refine IsS76.far ?_ NB0_101.1 _)|exact HI0.1));(case side2 => repeat (first|(with_reducible first|exact HB.1|apply a3z|apply a1z|apply a2z|refine a6z ?_ (IsS76.ge HI0.1)|refine a6z ?_ GE101.1)|exact HB.1));rintro e w6 ⟨rfl,hi,hb,hk⟩;refine ⟨_,rfl,?_⟩;have n0_:=a0z.mk (b9z.blk hk (g':=gb101) (o:=.cells #[.int .i64 0,.int .i64 0] 44 (0,0)) (by (with_reducible repeat (first|refine a8z ?_ _|refine a9z ?_|refine a7z ?_ _));exact BK101.1) NB101_0.1 (by simp));have n1_:=a0z.mk (b9z.trans (by repeat (first|(with_reducible first|exact HK.1|apply b9z.set_|apply c5z|apply c7z|apply keep_alloc|refine e9z ?_ GW101.1 _)|exact HK.1)) hk (.inl rfl));have n2_:=a0z.mk (hb);have n3_:=a0z.mk (hi);clear BK101;clear HK;clear HB;clear HI0;have BK101:=n0_;have HK:=n1_;have HB:=n2_;have HI0:=n3_;clear n0_ n1_ n2_ n3_;(try clear hb);(try clear hb2);(try clear hk);(try clear hi))|((with_reducible refine d4z (N:=6) rfl ?_);refine Kd.R_lit (Kd.int .i64) _ 3 ?hg (N:=6) ?hd (xs:=([32,31,30,28,24,24,25,16,8,1,0,29] : List Int)) (inner:=[.int .i64 32,.int .i64 31,.int .i64 30,.int .i64 28,.int .i64 24,.int .i64 24,.int .i64 25,.int .i64 16,.int .i64 8,.int .i64 1,.int .i64 0,.int .i64 29]) (ok:=fun _ => True) (okp:=fun _ => True) ?hr ?hp (fun _ hk => hk) trivial (Below.refl _ _) (Nat.le_refl _) (by simp) ?_;(case hd => rfl);(case hg => rfl);(case hr => first|(go_simp;done)|(go_simp;rfl));(case hp => exact (Reps.one (show Kd.M (Kd.int .i64) _ _ _ 32 [.int .i64 32] from rfl) (Reps.one (show Kd.M (Kd.int .i64) _ _ _ 31 [.int .i64 31] from rfl) (Reps.one (show Kd.M (Kd.int .i64) _ _ _ 30 [.int .i64 30] from rfl) (Reps.one (show Kd.M (Kd.int .i64) _ _ _ 28 [.int .i64 28] from rfl) (Reps.one (show Kd.M (Kd.int .i64) _ _ _ 24 [.int .i64 24] from rfl) (Reps.one (show Kd.M (Kd.int .i64) _ _ _ 24 [.int .i64 24] from rfl) (Reps.one (show Kd.M (Kd.int .i64) _ _ _ 25 [.int .i64 25] from rfl) (Reps.one (show Kd.M (Kd.int .i64) _ _ _ 16 [.int .i64 16] from rfl) (Reps.one (show Kd.M (Kd.int .i64) _ _ _ 8 [.int .i64 8] from rfl) (Reps.one (show Kd.M (Kd.int .i64) _ _ _ 1 [.int .i64 1] from rfl) (Reps.one (show Kd.M (Kd.int .i64) _ _ _ 0 [.int .i64 0] from rfl) (Reps.one (show Kd.M (Kd.int .i64) _ _ _ 29 [.int .i64 29] from rfl) (Reps.none _ _))))))))))))));intro v105 w7 ho8 hb hg_ hnew_;clear hg_ hnew_;(first|rw [← Ny104.1] at ho8|(simp only [Int.reduceToNat] at ho8;rw [← Ny104.1] at ho8));have n0_:=a0z.mk (Kd.d5z ho8 (f1z (w:=w) (g:=g) (row:=none) (by repeat (first|(with_reducible first|exact HK.1|apply b9z.set_|apply c5z|apply c7z|apply keep_alloc|refine e9z ?_ GW101.1 _)|exact HK.1))));have n1_:=a0z.mk (IsS76.below (by repeat (first|(with_reducible first|exact HI0.1|apply IsS76.alloc|apply IsS76.drewN|apply IsS76.drew|apply IsS76.set_1|refine IsS76.far ?_ NB0_101.1 _)|exact HI0.1)) hb);have n2_:=a0z.mk (d9z (g:=gb101) (o:=.cells #[.int .i64 0,.int .i64 0] 44 (0,0)) (by (with_reducible repeat (first|refine a8z ?_ _|refine a9z ?_|refine a7z ?_ _));exact BK101.1) hb);have n3_:=a0z.mk (b9z.trans (by repeat (first|(with_reducible first|exact HK.1|apply b9z.set_|apply c5z|apply c7z|apply keep_alloc|refine e9z ?_ GW101.1 _)|exact HK.1)) (b9z.of_below hb g none) (.inl rfl));have n4_:=a0z.mk (b3z (by repeat (first|(with_reducible first|exact HB.1|apply a3z|apply a1z|apply a2z|refine a6z ?_ (IsS76.ge HI0.1)|refine a6z ?_ GE101.1)|exact HB.1)) hb);clear HI0;clear BK101;clear HK;clear HB;have HO106:=n0_;have HI0:=n1_;have BK101:=n2_;have HK:=n3_;have HB:=n4_;clear n0_ n1_ n2_ n3_ n4_;clear hb ho8;obtain ⟨Ao9,co9,eo9⟩:=Kd.d3z HO106.1;subst eo9)|((with_reducible refine b8z (f:=79) rfl ?_);refine d2z (some 7) rfl rfl Try.func79 (by kernel_rfl) rfl #[.pointer (some ⟨g,0,none⟩),.slice Ao9 y104.length co9] rfl (by (try simp only [List.map_toArray,List.map_cons,List.map_nil]);first|done|rfl|(simp only [List.length_drop,List.length_take];rfl)) ?_;(with_reducible refine (spec_l1Rd_one.calls k g s0_0 t103 _ _ y104 t107 t108 w0 _ ?side1 ?side2 ?side3 ?side4 ?side5 A3.1).mono ?_);(case side1 => repeat (first|(with_reducible first|exact HI0.1|apply IsS76.alloc|apply IsS76.drewN|apply IsS76.drew|apply IsS76.set_1|refine IsS76.far ?_ NB0_101.1 _)|exact HI0.1));(case side2 => repeat (first|(with_reducible first|exact HB.1|apply a3z|apply a1z|apply a2z|refine a6z ?_ (IsS76.ge HI0.1)|refine a6z ?_ GE101.1)|exact HB.1));(case side3 => repeat (first|exact (Kd.b4z HO106.1).2.2|(with_reducible refine Kd.C_alloc ?_ _)|(with_reducible refine Kd.C_drewN ?_ _)|(with_reducible refine Kd.C_drew ?_)));(case side4 => exact (Kd.b4z HO106.1).2.1);(case side5 => exact far_slice (IsS76.own_ne HI0.1 HO106.1 (by decide)));rintro e w10 ⟨rfl,hi,hb,hk⟩;refine ⟨_,rfl,?_⟩;have n0_:=a0z.mk (b9z.blk hk (g':=gb101) (o:=.cells #[.int .i64 0,.int .i64 0] 44 (0,0)) (by (with_reducible repeat (first|refine a8z ?_ _|refine a9z ?_|refine a7z ?_ _));exact BK101.1) NB101_0.1 (by simp));have n1_:=a0z.mk (Kd.b5z (Kd.R_keep (IsS76.apart (show IsS76 w0 _ g s0_0 t103 from by repeat (first|(with_reducible first|exact HI0.1|apply IsS76.alloc|apply IsS76.drewN|apply IsS76.drew|apply IsS76.set_1|refine IsS76.far ?_ NB0_101.1 _)|exact HI0.1)) (by (with_reducible repeat (first|apply Kd.R_alloc|apply Kd.a4z|apply Kd.a5z));exact HO106.1) (by decide)) hk (fun _ h => h.2)) (fun _ h => h.1));have n2_:=a0z.mk (b9z.trans (by repeat (first|(with_reducible first|exact HK.1|apply b9z.set_|apply c5z|apply c7z|apply keep_alloc|refine e9z ?_ GW101.1 _)|exact HK.1)) hk (.inl rfl));have n3_:=a0z.mk (hb);have n4_:=a0z.mk (hi);clear BK101;clear HO106;clear HK;clear HB;clear HI0;have BK101:=n0_;have HO106:=n1_;have HK:=n2_;have HB:=n3_;have HI0:=n4_;clear n0_ n1_ n2_ n3_ n4_;(try clear hb);(try clear hb2);(try clear hk);(try clear hi))|((with_reducible refine b8z (f:=83) rfl ?_);refine d2z (some 8) rfl rfl Try.func83 (by kernel_rfl) rfl #[.int .i64 t102,.int .i64 t107] rfl (by (try simp only [List.map_toArray,List.map_cons,List.map_nil]);first|done|rfl|(simp only [List.length_drop,List.length_take];rfl)) ?_;(with_reducible refine (spec_l1Over.calls k t102 t107 t109 t110 _ A4.1).mono ?_);rintro e w11 ⟨rfl,hb⟩;refine ⟨_,rfl,?_⟩;have n0_:=a0z.mk (Kd.c3z (by (with_reducible repeat (first|apply Kd.R_alloc|apply Kd.a4z|apply Kd.a5z));exact HO106.1) hb);have n1_:=a0z.mk (IsS76.below (by repeat (first|(with_reducible first|exact HI0.1|apply IsS76.alloc|apply IsS76.drewN|apply IsS76.drew|apply IsS76.set_1|refine IsS76.far ?_ NB0_101.1 _)|exact HI0.1)) hb);have n2_:=a0z.mk (d9z (g:=gb101) (o:=.cells #[.int .i64 0,.int .i64 0] 44 (0,0)) (by (with_reducible repeat (first|refine a8z ?_ _|refine a9z ?_|refine a7z ?_ _));exact BK101.1) hb);have n3_:=a0z.mk (b9z.trans (by repeat (first|(with_reducible first|exact HK.1|apply b9z.set_|apply c5z|apply c7z|apply keep_alloc|refine e9z ?_ GW101.1 _)|exact HK.1)) (b9z.of_below hb g none) (.inl rfl));have n4_:=a0z.mk (b3z (by repeat (first|(with_reducible first|exact HB.1|apply a3z|apply a1z|apply a2z|refine a6z ?_ (IsS76.ge HI0.1)|refine a6z ?_ GE101.1)|exact HB.1)) hb);clear HO106;clear HI0;clear BK101;clear HK;clear HB;have HO106:=n0_;have HI0:=n1_;have BK101:=n2_;have HK:=n3_;have HB:=n4_;clear n0_ n1_ n2_ n3_ n4_;(try clear hb);(try clear hb2);(try clear hk);(try clear hi);have hnb12:=NB101_0.1;have hnc12:=NB0_101.1;have hcz13_0 : w11.cell? ⟨gb101,0,none⟩ = some (.int .i64 0):=(b2z BK101.1 0).trans rfl;have hcz13_1 : w11.cell? ⟨gb101,1,none⟩ = some (.int .i64 0):=(b2z BK101.1 1).trans rfl;have hfz13_0:=b7z BK101.1 0;have hfz13_1:=b7z BK101.1 1))
 refine bodyPost_ret (results_cell_row rfl _ _ gb101 44 #[.int .i64 t109,.int .i64 t110] (0,0) _ rfl (by (with_reducible repeat (first|refine a8z ?_ _|refine a9z ?_|refine a7z ?_ _));refine d6z (cs:=#[.int .i64 t109,.int .i64 0]) ?_ 1 _ rfl;(with_reducible repeat (first|refine a8z ?_ _|refine a9z ?_|refine a7z ?_ _));refine d6z (cs:=#[.int .i64 0,.int .i64 0]) ?_ 0 _ rfl;(with_reducible repeat (first|refine a8z ?_ _|refine a9z ?_|refine a7z ?_ _));exact BK101.1) Try.underlying44 rfl (by kernel_rfl)) rfl ?_
 exact ⟨by first|rfl|(simp [c2z,c1z] <;> rfl)|(simp [*,c2z,c1z] <;> rfl),by repeat (first|(with_reducible first|exact HI0.1|apply IsS76.alloc|apply IsS76.drewN|apply IsS76.drew|apply IsS76.set_1|refine IsS76.far ?_ NB0_101.1 _)|exact HI0.1),by repeat (first|(with_reducible first|exact HB.1|apply a3z|apply a1z|apply a2z|refine a6z ?_ (IsS76.ge HI0.1)|refine a6z ?_ GE101.1)|exact HB.1),by repeat (first|(with_reducible first|exact HK.1|apply b9z.set_|apply c5z|apply c7z|apply keep_alloc|refine e9z ?_ GW101.1 _)|exact HK.1)⟩
end Go.Proofs.Ytmdhedkgpgoneaa.Q

namespace Go.Proofs.Ytmdhedkgpgoneaa.Q
open Go.RowKit Go.Proofs.YtmdhedkgpgoneaaW.PrintWords Go.Proofs.YtmdhedkgpgoneaaW.PrintLast Go.Proofs.YtmdhedkgpgoneaaW.PrintMore
attribute [local go_sem] e4z e2z e7z e6z d8z d7z e3z e1z
set_option linter.unusedVariables false
set_option linter.unusedSimpArgs false
mutual
def spec_l12Blocks.l0 : Nat → List (S44) → Int → List Int → Int → Option ((List (S44)) × Int)
 | 0,_,_,_,_ => none
 | k + 1,x3,x4,x1000,x1001 => if x4 > 0 then ((spec_l12Block.f k x1000 x1001).bind fun bt106 => (if x3.length < 8796093022208 then (spec_l12Blocks.l0 k (x3 ++ [(⟨bt106.1,bt106.2.1⟩ : S44)]) (wrap64 (x4 - 1)) x1000 bt106.2.2) else (none))) else ((spec_l1Rd_pick.f k x1000 x1001 20).bind fun bt112 => (if bt112.1 = 0 then (spec_l12Blocks.l1 k x3 x1000 bt112.2) else (some (x3,bt112.2))))
def spec_l12Blocks.l1 : Nat → List (S44) → List Int → Int → Option ((List (S44)) × Int)
 | 0,_,_,_ => none
 | k + 1,x3,x1000,x1001 => (spec_l1Rd_pick.f k x1000 x1001 2).bind fun bt114 => (if (x3.length : Int) < (wrap64 (64 + bt114.1)) then (if x3.length < 8796093022208 then (spec_l12Blocks.l1 k (x3 ++ [(⟨wrap64 (2 * (x3.length : Int)),32⟩ : S44)]) x1000 bt114.2) else (none)) else (some (x3,bt114.2)))
end
def spec_l12Blocks.f (k : Nat) (s0_0 : List Int) (s0_1 : Int) : Option ((List (S44)) × Int):=(spec_l1Rd_pick.f k s0_0 s0_1 6).bind fun bt104 => (spec_l12Blocks.l0 k (([] : List (S44))) bt104.1 s0_0 bt104.2)
set_option maxHeartbeats 8000000 in
set_option maxRecDepth 100000 in
theorem spec_l12Blocks.calls (k : Nat) (g : Nat) (s0_0 : List Int) (s0_1 : Int) (r1 : List (S44)) (r2 : Int) (w0 w : World) (hI : IsS76 w0 w g s0_0 s0_1) (hB : Below w0.heap.size w0 w) (h : spec_l12Blocks.f k s0_0 s0_1 = some (r1,r2)) :
  Calls Try.prog 65 #[.pointer (some ⟨g,0,none⟩)] w fun e w' => ∃ v0_ : Value,e = .returned (v0_) ∧ Kd.R k44 44 w' w.heap.size (fun _ => True) v0_ r1 ∧ IsS76 w0 w' g s0_0 r2 ∧ Below w0.heap.size w0 w' ∧ b9z w w' g none:=by
 have hu44:=Try.underlying44
 have HI0:=a0z.mk hI
 have HK:=a0z.mk (b9z.refl w g none)
 have HL:=a0z.mk hB.size
 clear hI
 have HW0:=a0z.mk hB.size
 have HB:=a0z.mk hB
 clear hB
 have H : ((spec_l1Rd_pick.f k s0_0 s0_1 6).bind fun bt104 => (spec_l12Blocks.l0 k (([] : List (S44))) bt104.1 s0_0 bt104.2)) = some (r1,r2):=h
 clear h
 obtain ⟨y101,hy101⟩ : ∃ y_ : List (S44),y_ = (([] : List (S44))):=⟨_,rfl⟩
 replace H : ((spec_l1Rd_pick.f k s0_0 s0_1 6).bind fun bt104 => (spec_l12Blocks.l0 k y101 bt104.1 s0_0 bt104.2)) = some (r1,r2):=by first|(rw [hy101];with_reducible exact H)|(have H2_:=(Option.bind_some _ _).symm.trans H;rw [hy101];with_reducible exact H2_)|(have H2_:=(Option.bind_some _ _).symm.trans H;with_reducible exact H2_)|with_reducible exact H|(rw [hy101];exact H)|exact H
 have Ny101:=a0z.mk hy101
 clear hy101
 replace H:=Option.bind_eq_some_iff.mp H
 obtain ⟨⟨t104,t105⟩,A20,H⟩:=H
 replace H : (spec_l12Blocks.l0 k y101 t104 s0_0 t105) = some (r1,r2):=H
 have A2:=a0z.mk A20
 clear A20
 have H':=a0z.mk H
 clear H
 go_enter Try.func65,Try.ntmps65
 go_wp2_with (first|((with_reducible refine d4z (N:=5) rfl ?_);refine Kd.R_lit k44 _ 44 ?hg (N:=5) ?hd (xs:=([] : List (S44))) (inner:=[]) (ok:=fun _ => True) (okp:=fun _ => True) ?hr ?hp (fun _ hk => hk) trivial (Below.refl _ _) (Nat.le_refl _) (by simp) ?_;(case hd => rfl);(case hg => rfl);(case hr => first|(go_simp;done)|(go_simp;rfl));(case hp => exact (Reps.none _ _));intro v102 w3 ho4 hb hg_ hnew_;clear hg_ hnew_;(first|rw [← Ny101.1] at ho4|(simp only [Int.reduceToNat] at ho4;rw [← Ny101.1] at ho4));have n0_:=a0z.mk (Kd.d5z ho4 (f1z (w:=w) (g:=g) (row:=none) (by repeat (first|(with_reducible first|exact HK.1|apply b9z.set_|apply c5z|apply c7z|apply keep_alloc)|exact HK.1))));have n1_:=a0z.mk (IsS76.below (by repeat (first|(with_reducible first|exact HI0.1|apply IsS76.alloc|apply IsS76.drewN|apply IsS76.drew|apply IsS76.set_1)|exact HI0.1)) hb);have n2_:=a0z.mk (b9z.trans (by repeat (first|(with_reducible first|exact HK.1|apply b9z.set_|apply c5z|apply c7z|apply keep_alloc)|exact HK.1)) (b9z.of_below hb g none) (.inl rfl));have n3_:=a0z.mk (b3z (by repeat (first|(with_reducible first|exact HB.1|apply a3z|apply a1z|apply a2z|refine a6z ?_ (IsS76.ge HI0.1))|exact HB.1)) hb);clear HI0;clear HK;clear HB;have HO103:=n0_;have HI0:=n1_;have HK:=n2_;have HB:=n3_;clear n0_ n1_ n2_ n3_;clear hb ho4)|((with_reducible refine b8z (f:=64) rfl ?_);refine d2z (some 7) rfl rfl Try.func64 (by kernel_rfl) rfl #[.pointer (some ⟨g,0,none⟩),.int .i64 6] rfl (by (try simp only [List.map_toArray,List.map_cons,List.map_nil]);first|done|rfl|(simp only [List.length_drop,List.length_take];rfl)) ?_;(with_reducible refine (spec_l1Rd_pick.calls k g s0_0 s0_1 6 t104 t105 w0 _ ?side1 ?side2 A2.1).mono ?_);(case side1 => repeat (first|(with_reducible first|exact HI0.1|apply IsS76.alloc|apply IsS76.drewN|apply IsS76.drew|apply IsS76.set_1)|exact HI0.1));(case side2 => repeat (first|(with_reducible first|exact HB.1|apply a3z|apply a1z|apply a2z|refine a6z ?_ (IsS76.ge HI0.1))|exact HB.1));rintro e w5 ⟨rfl,hi,hb,hk⟩;refine ⟨_,rfl,?_⟩;have n0_:=a0z.mk (Kd.b5z (Kd.R_keep (IsS76.apart (show IsS76 w0 _ g s0_0 s0_1 from by repeat (first|(with_reducible first|exact HI0.1|apply IsS76.alloc|apply IsS76.drewN|apply IsS76.drew|apply IsS76.set_1)|exact HI0.1)) (by (with_reducible repeat (first|apply Kd.R_alloc|apply Kd.a4z|apply Kd.a5z));exact HO103.1) (by decide)) hk (fun _ h => h.2)) (fun _ h => h.1));have n1_:=a0z.mk (b9z.trans (by repeat (first|(with_reducible first|exact HK.1|apply b9z.set_|apply c5z|apply c7z|apply keep_alloc)|exact HK.1)) hk (.inl rfl));have n2_:=a0z.mk (hb);have n3_:=a0z.mk (hi);clear HO103;clear HK;clear HB;clear HI0;have HO103:=n0_;have HK:=n1_;have HB:=n2_;have HI0:=n3_;clear n0_ n1_ n2_ n3_;(try clear hb);(try clear hb2);(try clear hk);(try clear hi)))
 go_loopg [3,4] k (fun kq v3 v4 w' => ∃ (x3_1 : List (S44)) (x4_1 : Int) (x1001_1 : Int),v4 = .int .i64 x4_1 ∧ a0z (spec_l12Blocks.l0 kq x3_1 x4_1 s0_0 x1001_1 = some (r1,r2)) ∧ a0z (kq ≤ k) ∧ a0z (Kd.R k44 44 w' w.heap.size (fun _ => True) v3 x3_1) ∧ a0z (IsS76 w0 w' g s0_0 x1001_1) ∧ a0z (b9z w w' g none) ∧ a0z (Below w0.heap.size w0 w'))
 case atStart => exact ⟨(y101),(t104),(t105),(by first|rfl|(simp;done)|(simp [*];done)),H',⟨Nat.le_refl _⟩,⟨by (with_reducible repeat (first|apply Kd.R_alloc|apply Kd.a4z|apply Kd.a5z));exact HO103.1⟩,⟨by repeat (first|(with_reducible first|exact HI0.1|apply IsS76.alloc|apply IsS76.drewN|apply IsS76.drew|apply IsS76.set_1)|exact HI0.1)⟩,⟨by repeat (first|(with_reducible first|exact HK.1|apply b9z.set_|apply c5z|apply c7z|apply keep_alloc)|exact HK.1)⟩,⟨by repeat (first|(with_reducible first|exact HB.1|apply a3z|apply a1z|apply a2z|refine a6z ?_ (IsS76.ge HI0.1))|exact HB.1)⟩⟩
 case round =>
  clear H'
  try clear p2
  obtain ⟨x3_1,x4_1,x1001_1,rfl,HA,HK1,HO_3,HI0,HK,HB⟩:=hrel
  cases gk with
  | zero => exact absurd HA.1 (by simp [spec_l12Blocks.l0])
  | succ k1 =>
   have H:=HA.1
   clear HA
   simp only [spec_l12Blocks.l0] at H
   by_cases c6 : x4_1 > 0
   ·rw [if_pos c6] at H
    have c6b0 : decide (0 < x4_1) = true:=decide_eq_true c6
    clear c6
    replace H:=Option.bind_eq_some_iff.mp H
    obtain ⟨⟨t106,t107,t108⟩,A70,H⟩:=H
    replace H : (if x3_1.length < 8796093022208 then (spec_l12Blocks.l0 k1 (x3_1 ++ [(⟨t106,t107⟩ : S44)]) (wrap64 (x4_1 - 1)) s0_0 t108) else (none)) = some (r1,r2):=H
    have A7:=a0z.mk A70
    clear A70
    by_cases c8 : x3_1.length < 8796093022208
    ·rw [if_pos c8] at H
     have LMc8:=a0z.mk c8
     clear c8
     obtain ⟨y109,hy109⟩ : ∃ y_ : List (S44),y_ = (x3_1 ++ [(⟨t106,t107⟩ : S44)]):=⟨_,rfl⟩
     replace H : (spec_l12Blocks.l0 k1 y109 (wrap64 (x4_1 - 1)) s0_0 t108) = some (r1,r2):=by first|(rw [hy109];with_reducible exact H)|(have H2_:=(Option.bind_some _ _).symm.trans H;rw [hy109];with_reducible exact H2_)|(have H2_:=(Option.bind_some _ _).symm.trans H;with_reducible exact H2_)|with_reducible exact H|(rw [hy109];exact H)|exact H
     have Ny109:=a0z.mk hy109
     clear hy109
     have H':=a0z.mk H
     clear H
     go_wp2_with (first|((with_reducible refine b8z (f:=78) rfl ?_);refine d2z (some 14) rfl rfl Try.func78 (by kernel_rfl) rfl #[.pointer (some ⟨g,0,none⟩)] rfl (by (try simp only [List.map_toArray,List.map_cons,List.map_nil]);first|done|rfl|(simp only [List.length_drop,List.length_take];rfl)) ?_;(with_reducible refine (spec_l12Block.calls k1 g s0_0 x1001_1 t106 t107 t108 w0 _ ?side1 ?side2 A7.1).mono ?_);(case side1 => repeat (first|(with_reducible first|exact HI0.1|apply IsS76.alloc|apply IsS76.drewN|apply IsS76.drew|apply IsS76.set_1)|exact HI0.1));(case side2 => repeat (first|(with_reducible first|exact HB.1|apply a3z|apply a1z|apply a2z|refine a6z ?_ (IsS76.ge HI0.1))|exact HB.1));rintro e w9 ⟨rfl,hi,hb,hk⟩;refine ⟨_,rfl,?_⟩;have n0_:=a0z.mk (Kd.b5z (Kd.R_keep (IsS76.apart (show IsS76 w0 _ g s0_0 x1001_1 from by repeat (first|(with_reducible first|exact HI0.1|apply IsS76.alloc|apply IsS76.drewN|apply IsS76.drew|apply IsS76.set_1)|exact HI0.1)) (by (with_reducible repeat (first|apply Kd.R_alloc|apply Kd.a4z|apply Kd.a5z));exact HO_3.1) (by decide)) hk (fun _ h => h.2)) (fun _ h => h.1));have n1_:=a0z.mk (b9z.trans (by repeat (first|(with_reducible first|exact HK.1|apply b9z.set_|apply c5z|apply c7z|apply keep_alloc)|exact HK.1)) hk (.inl rfl));have n2_:=a0z.mk (hb);have n3_:=a0z.mk (hi);clear HO_3;clear HK;clear HB;clear HI0;have HO_3:=n0_;have HK:=n1_;have HB:=n2_;have HI0:=n3_;clear n0_ n1_ n2_ n3_;(try clear hb);(try clear hb2);(try clear hk);(try clear hi))|((with_reducible refine e5z (b:=.append) (xs:=#[.tmp 12,.tmp 15]) rfl ?_);at_builtin;refine Kd.g6z k44 w.heap.size rfl (.tmp 12) (.tmp 15) 25 44 (.agg #[(.int .i64 0),(.int .i64 0)]) 16 rfl Try.underlying25 info44 rfl (by decide) (by omega) u3 x3_1 (⟨t106,t107⟩ : S44) [.int .i64 t106,.int .i64 t107] (fun _ => True) (fun _ => False) rfl rfl ?aP (fun _ hk => hk.elim) ?aF ?aO (Below.refl _ _) ?aS ?aL ?_;(case aP => exact k44_mkM _ _ _ (⟨t106,t107⟩ : S44));(case aF => exact (fun _ _ => trivial));(case aO => exact (by (with_reducible repeat (first|apply Kd.R_alloc|apply Kd.a4z|apply Kd.a5z));exact HO_3.1));(case aS => exact (f1z (w:=w) (g:=g) (row:=none) (by repeat (first|(with_reducible first|exact HK.1|apply b9z.set_|apply c5z|apply c7z|apply keep_alloc)|exact HK.1))));(case aL => have:=LMc8.1;omega);intro v110 w10 ho hb hg hat;rw [← Ny109.1] at ho;have n0_:=a0z.mk (IsS76.grown (by repeat (first|(with_reducible first|exact HI0.1|apply IsS76.alloc|apply IsS76.drewN|apply IsS76.drew|apply IsS76.set_1)|exact HI0.1)) hg (IsS76.own_ne HI0.1 HO_3.1 (by decide)));have n1_:=a0z.mk (below_weaken (by repeat (first|(with_reducible first|exact HB.1|apply a3z|apply a1z|apply a2z|refine a6z ?_ (IsS76.ge HI0.1))|exact HB.1)) HL.1 hb);have n2_:=a0z.mk (b9z.trans (by repeat (first|(with_reducible first|exact HK.1|apply b9z.set_|apply c5z|apply c7z|apply keep_alloc)|exact HK.1)) (b9z.of_grown hg g) (Kd.R_base2 HO_3.1));have n3_:=a0z.mk (ho);clear HI0;clear HB;clear HK;clear HO_3;have HI0:=n0_;have HB:=n1_;have HK:=n2_;have HO111:=n3_;clear n0_ n1_ n2_ n3_;clear ho hb hg hat))
     go_roundg k1
     case measure => have:=HK1.1;omega
     case rel => exact ⟨(y109),(wrap64 (x4_1 - 1)),(t108),(by first|rfl|(simp;done)|(simp [*];done)),H',⟨by have:=HK1.1;omega⟩,⟨by (with_reducible repeat (first|apply Kd.R_alloc|apply Kd.a4z|apply Kd.a5z));exact HO111.1⟩,⟨by repeat (first|(with_reducible first|exact HI0.1|apply IsS76.alloc|apply IsS76.drewN|apply IsS76.drew|apply IsS76.set_1)|exact HI0.1)⟩,⟨by repeat (first|(with_reducible first|exact HK.1|apply b9z.set_|apply c5z|apply c7z|apply keep_alloc)|exact HK.1)⟩,⟨by repeat (first|(with_reducible first|exact HB.1|apply a3z|apply a1z|apply a2z|refine a6z ?_ (IsS76.ge HI0.1))|exact HB.1)⟩⟩
    ·rw [if_neg c8] at H
     exact absurd H (by simp)
   ·rw [if_neg c6] at H
    have c6b0 : decide (0 < x4_1) = false:=decide_eq_false c6
    clear c6
    replace H:=Option.bind_eq_some_iff.mp H
    obtain ⟨⟨t112,t113⟩,A110,H⟩:=H
    replace H : (if t112 = 0 then (spec_l12Blocks.l1 k1 x3_1 s0_0 t113) else (some (x3_1,t113))) = some (r1,r2):=H
    have A11:=a0z.mk A110
    clear A110
    by_cases c12 : t112 = 0
    ·rw [if_pos c12] at H
     have c12b0 : (t112 == 0) = true:=beq_iff_eq.mpr c12
     have c12b1 : (t112 != 0) = false:=bne_eq_false_iff_eq.mpr c12
     clear c12
     have H':=a0z.mk H
     clear H
     go_wp2_with (first|((with_reducible refine b8z (f:=64) rfl ?_);refine d2z (some 18) rfl rfl Try.func64 (by kernel_rfl) rfl #[.pointer (some ⟨g,0,none⟩),.int .i64 20] rfl (by (try simp only [List.map_toArray,List.map_cons,List.map_nil]);first|done|rfl|(simp only [List.length_drop,List.length_take];rfl)) ?_;(with_reducible refine (spec_l1Rd_pick.calls k1 g s0_0 x1001_1 20 t112 t113 w0 _ ?side1 ?side2 A11.1).mono ?_);(case side1 => repeat (first|(with_reducible first|exact HI0.1|apply IsS76.alloc|apply IsS76.drewN|apply IsS76.drew|apply IsS76.set_1)|exact HI0.1));(case side2 => repeat (first|(with_reducible first|exact HB.1|apply a3z|apply a1z|apply a2z|refine a6z ?_ (IsS76.ge HI0.1))|exact HB.1));rintro e w13 ⟨rfl,hi,hb,hk⟩;refine ⟨_,rfl,?_⟩;have n0_:=a0z.mk (Kd.b5z (Kd.R_keep (IsS76.apart (show IsS76 w0 _ g s0_0 x1001_1 from by repeat (first|(with_reducible first|exact HI0.1|apply IsS76.alloc|apply IsS76.drewN|apply IsS76.drew|apply IsS76.set_1)|exact HI0.1)) (by (with_reducible repeat (first|apply Kd.R_alloc|apply Kd.a4z|apply Kd.a5z));exact HO_3.1) (by decide)) hk (fun _ h => h.2)) (fun _ h => h.1));have n1_:=a0z.mk (b9z.trans (by repeat (first|(with_reducible first|exact HK.1|apply b9z.set_|apply c5z|apply c7z|apply keep_alloc)|exact HK.1)) hk (.inl rfl));have n2_:=a0z.mk (hb);have n3_:=a0z.mk (hi);clear HO_3;clear HK;clear HB;clear HI0;have HO_3:=n0_;have HK:=n1_;have HB:=n2_;have HI0:=n3_;clear n0_ n1_ n2_ n3_;(try clear hb);(try clear hb2);(try clear hk);(try clear hi)))
     go_loopg [3] k1 (fun kq v3 w' => ∃ (x3_2 : List (S44)) (x1001_2 : Int),a0z (spec_l12Blocks.l1 kq x3_2 s0_0 x1001_2 = some (r1,r2)) ∧ a0z (kq ≤ k1) ∧ a0z (Kd.R k44 44 w' w.heap.size (fun _ => True) v3 x3_2) ∧ a0z (IsS76 w0 w' g s0_0 x1001_2) ∧ a0z (b9z w w' g none) ∧ a0z (Below w0.heap.size w0 w'))
     case atStart => exact ⟨(x3_1),(t113),H',⟨Nat.le_refl _⟩,⟨by (with_reducible repeat (first|apply Kd.R_alloc|apply Kd.a4z|apply Kd.a5z));exact HO_3.1⟩,⟨by repeat (first|(with_reducible first|exact HI0.1|apply IsS76.alloc|apply IsS76.drewN|apply IsS76.drew|apply IsS76.set_1)|exact HI0.1)⟩,⟨by repeat (first|(with_reducible first|exact HK.1|apply b9z.set_|apply c5z|apply c7z|apply keep_alloc)|exact HK.1)⟩,⟨by repeat (first|(with_reducible first|exact HB.1|apply a3z|apply a1z|apply a2z|refine a6z ?_ (IsS76.ge HI0.1))|exact HB.1)⟩⟩
     case round =>
      clear H'
      try clear c1
      try clear p2
      try clear c6
      try clear c6b0
      try clear p6
      try clear c7
      try clear c8
      try clear c12
      try clear c12b0
      try clear c12b1
      try clear p2
      obtain ⟨x3_2,x1001_2,HA,HK2,HO_3,HI0,HK,HB⟩:=hrel
      cases gk with
      | zero => exact absurd HA.1 (by simp [spec_l12Blocks.l1])
      | succ k2 =>
       have H:=HA.1
       clear HA
       simp only [spec_l12Blocks.l1] at H
       replace H:=Option.bind_eq_some_iff.mp H
       obtain ⟨⟨t114,t115⟩,A140,H⟩:=H
       replace H : (if (x3_2.length : Int) < (wrap64 (64 + t114)) then (if x3_2.length < 8796093022208 then (spec_l12Blocks.l1 k2 (x3_2 ++ [(⟨wrap64 (2 * (x3_2.length : Int)),32⟩ : S44)]) s0_0 t115) else (none)) else (some (x3_2,t115))) = some (r1,r2):=H
       have A14:=a0z.mk A140
       clear A140
       by_cases c15 : (x3_2.length : Int) < (wrap64 (64 + t114))
       ·rw [if_pos c15] at H
        have c15b0 : decide ((x3_2.length : Int) < (wrap64 (64 + t114))) = true:=decide_eq_true c15
        clear c15
        by_cases c16 : x3_2.length < 8796093022208
        ·rw [if_pos c16] at H
         have LMc16:=a0z.mk c16
         clear c16
         obtain ⟨y116,hy116⟩ : ∃ y_ : List (S44),y_ = (x3_2 ++ [(⟨wrap64 (2 * (x3_2.length : Int)),32⟩ : S44)]):=⟨_,rfl⟩
         replace H : (spec_l12Blocks.l1 k2 y116 s0_0 t115) = some (r1,r2):=by first|(rw [hy116];with_reducible exact H)|(have H2_:=(Option.bind_some _ _).symm.trans H;rw [hy116];with_reducible exact H2_)|(have H2_:=(Option.bind_some _ _).symm.trans H;with_reducible exact H2_)|with_reducible exact H|(rw [hy116];exact H)|exact H
         have Ny116:=a0z.mk hy116
         clear hy116
         have H':=a0z.mk H
         clear H
         obtain ⟨Ao17,co17,eo17⟩:=Kd.d3z HO_3.1
         subst eo17
         go_wp2_with (first|((with_reducible refine b8z (f:=64) rfl ?_);refine d2z (some 23) rfl rfl Try.func64 (by kernel_rfl) rfl #[.pointer (some ⟨g,0,none⟩),.int .i64 2] rfl (by (try simp only [List.map_toArray,List.map_cons,List.map_nil]);first|done|rfl|(simp only [List.length_drop,List.length_take];rfl)) ?_;(with_reducible refine (spec_l1Rd_pick.calls k2 g s0_0 x1001_2 2 t114 t115 w0 _ ?side1 ?side2 A14.1).mono ?_);(case side1 => repeat (first|(with_reducible first|exact HI0.1|apply IsS76.alloc|apply IsS76.drewN|apply IsS76.drew|apply IsS76.set_1)|exact HI0.1));(case side2 => repeat (first|(with_reducible first|exact HB.1|apply a3z|apply a1z|apply a2z|refine a6z ?_ (IsS76.ge HI0.1))|exact HB.1));rintro e w18 ⟨rfl,hi,hb,hk⟩;refine ⟨_,rfl,?_⟩;have n0_:=a0z.mk (Kd.b5z (Kd.R_keep (IsS76.apart (show IsS76 w0 _ g s0_0 x1001_2 from by repeat (first|(with_reducible first|exact HI0.1|apply IsS76.alloc|apply IsS76.drewN|apply IsS76.drew|apply IsS76.set_1)|exact HI0.1)) (by (with_reducible repeat (first|apply Kd.R_alloc|apply Kd.a4z|apply Kd.a5z));exact HO_3.1) (by decide)) hk (fun _ h => h.2)) (fun _ h => h.1));have n1_:=a0z.mk (b9z.trans (by repeat (first|(with_reducible first|exact HK.1|apply b9z.set_|apply c5z|apply c7z|apply keep_alloc)|exact HK.1)) hk (.inl rfl));have n2_:=a0z.mk (hb);have n3_:=a0z.mk (hi);clear HO_3;clear HK;clear HB;clear HI0;have HO_3:=n0_;have HK:=n1_;have HB:=n2_;have HI0:=n3_;clear n0_ n1_ n2_ n3_;(try clear hb);(try clear hb2);(try clear hk);(try clear hi))|((with_reducible refine e5z (b:=.append) (xs:=#[.tmp 26,.tmp 31]) rfl ?_);at_builtin;refine Kd.g6z k44 w.heap.size rfl (.tmp 26) (.tmp 31) 25 44 (.agg #[(.int .i64 0),(.int .i64 0)]) 16 rfl Try.underlying25 info44 rfl (by decide) (by omega) (.slice Ao17 x3_2.length co17) x3_2 (⟨wrap64 (2 * (x3_2.length : Int)),32⟩ : S44) [.int .i64 (wrap64 (2 * (x3_2.length : Int))),.int .i64 32] (fun _ => True) (fun _ => False) rfl rfl ?aP (fun _ hk => hk.elim) ?aF ?aO (Below.refl _ _) ?aS ?aL ?_;(case aP => exact k44_mkM _ _ _ (⟨wrap64 (2 * (x3_2.length : Int)),32⟩ : S44));(case aF => exact (fun _ _ => trivial));(case aO => exact (by (with_reducible repeat (first|apply Kd.R_alloc|apply Kd.a4z|apply Kd.a5z));exact HO_3.1));(case aS => exact (f1z (w:=w) (g:=g) (row:=none) (by repeat (first|(with_reducible first|exact HK.1|apply b9z.set_|apply c5z|apply c7z|apply keep_alloc)|exact HK.1))));(case aL => have:=LMc16.1;omega);intro v117 w19 ho hb hg hat;rw [← Ny116.1] at ho;have n0_:=a0z.mk (IsS76.grown (by repeat (first|(with_reducible first|exact HI0.1|apply IsS76.alloc|apply IsS76.drewN|apply IsS76.drew|apply IsS76.set_1)|exact HI0.1)) hg (IsS76.own_ne HI0.1 HO_3.1 (by decide)));have n1_:=a0z.mk (below_weaken (by repeat (first|(with_reducible first|exact HB.1|apply a3z|apply a1z|apply a2z|refine a6z ?_ (IsS76.ge HI0.1))|exact HB.1)) HL.1 hb);have n2_:=a0z.mk (b9z.trans (by repeat (first|(with_reducible first|exact HK.1|apply b9z.set_|apply c5z|apply c7z|apply keep_alloc)|exact HK.1)) (b9z.of_grown hg g) (Kd.R_base2 HO_3.1));have n3_:=a0z.mk (ho);clear HI0;clear HB;clear HK;clear HO_3;have HI0:=n0_;have HB:=n1_;have HK:=n2_;have HO118:=n3_;clear n0_ n1_ n2_ n3_;clear ho hb hg hat))
         go_roundg k2
         case measure => have:=HK1.1;have:=HK2.1;omega
         case rel => exact ⟨(y116),(t115),H',⟨by have:=HK1.1;have:=HK2.1;omega⟩,⟨by (with_reducible repeat (first|apply Kd.R_alloc|apply Kd.a4z|apply Kd.a5z));exact HO118.1⟩,⟨by repeat (first|(with_reducible first|exact HI0.1|apply IsS76.alloc|apply IsS76.drewN|apply IsS76.drew|apply IsS76.set_1)|exact HI0.1)⟩,⟨by repeat (first|(with_reducible first|exact HK.1|apply b9z.set_|apply c5z|apply c7z|apply keep_alloc)|exact HK.1)⟩,⟨by repeat (first|(with_reducible first|exact HB.1|apply a3z|apply a1z|apply a2z|refine a6z ?_ (IsS76.ge HI0.1))|exact HB.1)⟩⟩
        ·rw [if_neg c16] at H
         exact absurd H (by simp)
       ·rw [if_neg c15] at H
        have c15b0 : decide ((x3_2.length : Int) < (wrap64 (64 + t114))) = false:=decide_eq_false c15
        clear c15
        simp only [Option.some.injEq,Prod.mk.injEq] at H
        obtain ⟨rfl,rfl⟩:=H
        obtain ⟨Ao20,co20,eo20⟩:=Kd.d3z HO_3.1
        subst eo20
        go_wp2_with (first|((with_reducible refine b8z (f:=64) rfl ?_);refine d2z (some 23) rfl rfl Try.func64 (by kernel_rfl) rfl #[.pointer (some ⟨g,0,none⟩),.int .i64 2] rfl (by (try simp only [List.map_toArray,List.map_cons,List.map_nil]);first|done|rfl|(simp only [List.length_drop,List.length_take];rfl)) ?_;(with_reducible refine (spec_l1Rd_pick.calls k2 g s0_0 x1001_2 2 t114 t115 w0 _ ?side1 ?side2 A14.1).mono ?_);(case side1 => repeat (first|(with_reducible first|exact HI0.1|apply IsS76.alloc|apply IsS76.drewN|apply IsS76.drew|apply IsS76.set_1)|exact HI0.1));(case side2 => repeat (first|(with_reducible first|exact HB.1|apply a3z|apply a1z|apply a2z|refine a6z ?_ (IsS76.ge HI0.1))|exact HB.1));rintro e w21 ⟨rfl,hi,hb,hk⟩;refine ⟨_,rfl,?_⟩;have n0_:=a0z.mk (Kd.b5z (Kd.R_keep (IsS76.apart (show IsS76 w0 _ g s0_0 x1001_2 from by repeat (first|(with_reducible first|exact HI0.1|apply IsS76.alloc|apply IsS76.drewN|apply IsS76.drew|apply IsS76.set_1)|exact HI0.1)) (by (with_reducible repeat (first|apply Kd.R_alloc|apply Kd.a4z|apply Kd.a5z));exact HO_3.1) (by decide)) hk (fun _ h => h.2)) (fun _ h => h.1));have n1_:=a0z.mk (b9z.trans (by repeat (first|(with_reducible first|exact HK.1|apply b9z.set_|apply c5z|apply c7z|apply keep_alloc)|exact HK.1)) hk (.inl rfl));have n2_:=a0z.mk (hb);have n3_:=a0z.mk (hi);clear HO_3;clear HK;clear HB;clear HI0;have HO_3:=n0_;have HK:=n1_;have HB:=n2_;have HI0:=n3_;clear n0_ n1_ n2_ n3_;(try clear hb);(try clear hb2);(try clear hk);(try clear hi)))
        go_ret
        exact ⟨_,by first|rfl|(simp [c2z,c1z] <;> rfl)|(simp [*,c2z,c1z] <;> rfl),by (with_reducible repeat (first|apply Kd.R_alloc|apply Kd.a4z|apply Kd.a5z));exact HO_3.1,by repeat (first|(with_reducible first|exact HI0.1|apply IsS76.alloc|apply IsS76.drewN|apply IsS76.drew|apply IsS76.set_1)|exact HI0.1),by repeat (first|(with_reducible first|exact HB.1|apply a3z|apply a1z|apply a2z|refine a6z ?_ (IsS76.ge HI0.1))|exact HB.1),by repeat (first|(with_reducible first|exact HK.1|apply b9z.set_|apply c5z|apply c7z|apply keep_alloc)|exact HK.1)⟩
    ·rw [if_neg c12] at H
     have c12b0 : (t112 == 0) = false:=beq_eq_false_iff_ne.mpr c12
     have c12b1 : (t112 != 0) = true:=bne_iff_ne.mpr c12
     simp only [Option.some.injEq,Prod.mk.injEq] at H
     obtain ⟨rfl,rfl⟩:=H
     go_wp2_with (first|((with_reducible refine b8z (f:=64) rfl ?_);refine d2z (some 18) rfl rfl Try.func64 (by kernel_rfl) rfl #[.pointer (some ⟨g,0,none⟩),.int .i64 20] rfl (by (try simp only [List.map_toArray,List.map_cons,List.map_nil]);first|done|rfl|(simp only [List.length_drop,List.length_take];rfl)) ?_;(with_reducible refine (spec_l1Rd_pick.calls k1 g s0_0 x1001_1 20 t112 t113 w0 _ ?side1 ?side2 A11.1).mono ?_);(case side1 => repeat (first|(with_reducible first|exact HI0.1|apply IsS76.alloc|apply IsS76.drewN|apply IsS76.drew|apply IsS76.set_1)|exact HI0.1));(case side2 => repeat (first|(with_reducible first|exact HB.1|apply a3z|apply a1z|apply a2z|refine a6z ?_ (IsS76.ge HI0.1))|exact HB.1));rintro e w22 ⟨rfl,hi,hb,hk⟩;refine ⟨_,rfl,?_⟩;have n0_:=a0z.mk (Kd.b5z (Kd.R_keep (IsS76.apart (show IsS76 w0 _ g s0_0 x1001_1 from by repeat (first|(with_reducible first|exact HI0.1|apply IsS76.alloc|apply IsS76.drewN|apply IsS76.drew|apply IsS76.set_1)|exact HI0.1)) (by (with_reducible repeat (first|apply Kd.R_alloc|apply Kd.a4z|apply Kd.a5z));exact HO_3.1) (by decide)) hk (fun _ h => h.2)) (fun _ h => h.1));have n1_:=a0z.mk (b9z.trans (by repeat (first|(with_reducible first|exact HK.1|apply b9z.set_|apply c5z|apply c7z|apply keep_alloc)|exact HK.1)) hk (.inl rfl));have n2_:=a0z.mk (hb);have n3_:=a0z.mk (hi);clear HO_3;clear HK;clear HB;clear HI0;have HO_3:=n0_;have HK:=n1_;have HB:=n2_;have HI0:=n3_;clear n0_ n1_ n2_ n3_;(try clear hb);(try clear hb2);(try clear hk);(try clear hi)))
     go_ret
     exact ⟨_,by first|rfl|(simp [c2z,c1z] <;> rfl)|(simp [*,c2z,c1z] <;> rfl),by (with_reducible repeat (first|apply Kd.R_alloc|apply Kd.a4z|apply Kd.a5z));exact HO_3.1,by repeat (first|(with_reducible first|exact HI0.1|apply IsS76.alloc|apply IsS76.drewN|apply IsS76.drew|apply IsS76.set_1)|exact HI0.1),by repeat (first|(with_reducible first|exact HB.1|apply a3z|apply a1z|apply a2z|refine a6z ?_ (IsS76.ge HI0.1))|exact HB.1),by repeat (first|(with_reducible first|exact HK.1|apply b9z.set_|apply c5z|apply c7z|apply keep_alloc)|exact HK.1)⟩
end Go.Proofs.Ytmdhedkgpgoneaa.Q
