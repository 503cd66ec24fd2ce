/- The law FnSetBoth (part 4 of 8): for every input the call answers true and its arguments read afterwards as before. No condition beyond the row's own. -/
import Derived.Test.YtmdhedkgpgoneaaCFnSetBoth3
namespace Go.Proofs.Ytmdhedkgpgoneaa.Q
open Go.RowKit Go.Proofs.YtmdhedkgpgoneaaW.PrintWords Go.Proofs.YtmdhedkgpgoneaaW.PrintLast Go.Proofs.YtmdhedkgpgoneaaW.PrintMore
attribute [local go_sem] e4z e2z e7z e6z d8z d7z e3z e1z
set_option linter.unusedVariables false
set_option linter.unusedSimpArgs false
mutual
def spec_l2Spans.l0 : Nat → List (S44) → List (S63) → Int → Option ((List (S63)))
 | 0,_,_,_ => none
 | k + 1,x0,x3,x4 => if x4 < (x0.length : Int) then (if 0 ≤ x4 then ((spec_l1Last.f k ((b6z x0 x4).f0) ((b6z x0 x4).f1)).bind fun t106 => (spec_l2Spans.l1 k x0 x3 x4 0 ((b6z x0 x4).f0) t106)) else (none)) else (spec_l2Spans.l2 k x3 (([] : List (S63))) 0)
def spec_l2Spans.l1 : Nat → List (S44) → List (S63) → Int → Int → Int → Int → Option ((List (S63)))
 | 0,_,_,_,_,_,_ => none
 | k + 1,x0,x3,x4,x6,x108000,x108001 => if x6 < (x3.length : Int) then (if 0 ≤ x6 then (if ((c6z x3 x6).f0) < x108000 then (spec_l2Spans.l1 k x0 x3 x4 (wrap64 (x6 + 1)) x108000 x108001) else ((some (([] : List (S63)) : List (S63))).bind fun y109 => (if x6 ≤ (x3.length : Int) then ((some (x3.take (x6 : Int).toNat : List (S63))).bind fun y112 => (if y109.length + y112.length < 8796093022208 then ((some (y109 ++ y112 : List (S63))).bind fun y116 => ((some (([(⟨x108000,x108001⟩ : S63)] : List (S63)) : List (S63))).bind fun y119 => (if y116.length + y119.length < 8796093022208 then ((some (y116 ++ y119 : List (S63))).bind fun y122 => ((some (x3.drop (x6 : Int).toNat : List (S63))).bind fun y125 => (if y122.length + y125.length < 8796093022208 then (spec_l2Spans.l0 k x0 (y122 ++ y125) (wrap64 (x4 + 1))) else (none)))) else (none)))) else (none))) else (none)))) else (none)) else ((some (([] : List (S63)) : List (S63))).bind fun y132 => (if 0 ≤ x6 then (if x6 ≤ (x3.length : Int) then ((some (x3.take (x6 : Int).toNat : List (S63))).bind fun y135 => (if y132.length + y135.length < 8796093022208 then ((some (y132 ++ y135 : List (S63))).bind fun y139 => ((some (([(⟨x108000,x108001⟩ : S63)] : List (S63)) : List (S63))).bind fun y142 => (if y139.length + y142.length < 8796093022208 then ((some (y139 ++ y142 : List (S63))).bind fun y145 => ((some (x3.drop (x6 : Int).toNat : List (S63))).bind fun y148 => (if y145.length + y148.length < 8796093022208 then (spec_l2Spans.l0 k x0 (y145 ++ y148) (wrap64 (x4 + 1))) else (none)))) else (none)))) else (none))) else (none)) else (none)))
def spec_l2Spans.l2 : Nat → List (S63) → List (S63) → Int → Option ((List (S63)))
 | 0,_,_,_ => none
 | k + 1,x3,x7,x8 => if x8 < (x3.length : Int) then (if (wrap64 ((x7.length : Int) - 1)) ≥ 0 then (if 0 ≤ x8 then (if 0 ≤ (wrap64 ((x7.length : Int) - 1)) then (if (wrap64 ((x7.length : Int) - 1)) < (x7.length : Int) then (spec_l2Spans.j3 k x3 x7 x8 (wrap64 ((x7.length : Int) - 1)) (decide (((c6z x3 x8).f0) ≤ (wrap64 (((c6z x7 (wrap64 ((x7.length : Int) - 1))).f1) + 1))))) else (none)) else (none)) else (none)) else (spec_l2Spans.j3 k x3 x7 x8 (wrap64 ((x7.length : Int) - 1)) false)) else (some x7)
def spec_l2Spans.j3 : Nat → List (S63) → List (S63) → Int → Int → Bool → Option ((List (S63)))
 | 0,_,_,_,_,_ => none
 | k + 1,x3,x7,x8,x9,x81 => if x81 = true then (if 0 ≤ x8 then (if x8 < (x3.length : Int) then (if 0 ≤ x9 then (if x9 < (x7.length : Int) then (if ((c6z x3 x8).f1) > ((c6z x7 x9).f1) then (spec_l2Spans.l2 k x3 (x7.set (x9 : Int).toNat (⟨(c6z x7 x9).f0,(c6z x3 x8).f1⟩ : S63)) (wrap64 (x8 + 1))) else (spec_l2Spans.l2 k x3 x7 (wrap64 (x8 + 1)))) else (none)) else (none)) else (none)) else (none)) else (if 0 ≤ x8 then (if x8 < (x3.length : Int) then ((some (([(⟨(c6z x3 x8).f0,(c6z x3 x8).f1⟩ : S63)] : List (S63)) : List (S63))).bind fun y165 => (if x7.length + y165.length < 8796093022208 then (spec_l2Spans.l2 k x3 (x7 ++ y165) (wrap64 (x8 + 1))) else (none))) else (none)) else (none))
end
def spec_l2Spans.f (k : Nat) (l0 : List (S44)) : Option ((List (S63))):=spec_l2Spans.l0 k l0 (([] : List (S63))) 0
def spec_l2Spans.T5 : Bool × List (List Nat × List Nat):=(true,[([],[]),([],[]),([0,1],[0,1]),([2],[2]),([3],[3]),([],[]),([],[]),([5,6],[5,6]),([7],[7]),([8],[8]),([4,9],[4,9]),([],[]),([11,10,9,0,1,2,3,4,5,6,7,8,9,10,11],[10,11])])
def spec_l2Spans.B5 : List Nat:=[0,0,3,7,15,0,0,96,224,480,1023,0,4095]
theorem spec_l2Spans.tab5 : rtab .any (opsOf Try.f35 5) = spec_l2Spans.T5:=by kernel_rfl
theorem spec_l2Spans.bits5 : waitsOk spec_l2Spans.T5.2 spec_l2Spans.B5 = true:=by kernel_rfl
def spec_l2Spans.T7 : Bool × List (List Nat × List Nat):=(true,[([],[]),([],[]),([1],[1]),([0,2],[0,2]),([3],[3]),([4],[4]),([4],[4]),([5,6,4],[4,5,6]),([7,4],[4,7]),([8,4],[4,8]),([4],[4]),([10,4],[4,10]),([9,11,4],[4,9,11]),([4,12],[4,12])])
def spec_l2Spans.B7 : List Nat:=[0,0,2,7,15,31,31,127,255,511,31,1055,4095,8191]
theorem spec_l2Spans.tab7 : rtab .any (opsOf Try.f35 7) = spec_l2Spans.T7:=by kernel_rfl
theorem spec_l2Spans.bits7 : waitsOk spec_l2Spans.T7.2 spec_l2Spans.B7 = true:=by kernel_rfl
def spec_l2Spans.T9 : Bool × List (List Nat × List Nat):=(true,[([],[]),([],[]),([],[]),([1,2],[1,2]),([0,3],[0,3]),([],[]),([5],[5]),([4,6,4],[4,6]),([],[]),([],[]),([8,9],[8,9]),([7,10,7],[7,10]),([11,11,0,1,2,3,4,5,6,7,8,9,10,11],[1,8,11])])
def spec_l2Spans.B9 : List Nat:=[0,0,0,6,15,0,32,127,0,0,768,2047,4095]
theorem spec_l2Spans.tab9 : rtab .any (opsOf Try.f35 9) = spec_l2Spans.T9:=by kernel_rfl
theorem spec_l2Spans.bits9 : waitsOk spec_l2Spans.T9.2 spec_l2Spans.B9 = true:=by kernel_rfl
def spec_l2Spans.T15 : Bool × List (List Nat × List Nat):=(true,[([],[]),([0],[0]),([1],[1]),([2],[2]),([2],[2]),([3,4,2],[2,3,4]),([5,2],[2,5]),([6,2],[2,6]),([2],[2]),([2],[2]),([8,9,2],[2,8,9]),([10,2],[2,10]),([11,2],[2,11]),([12,2],[2,12]),([7,13,2],[2,7,13]),([2,14],[2,14])])
def spec_l2Spans.B15 : List Nat:=[0,1,3,7,7,31,63,127,7,7,775,1799,3847,7943,16383,32767]
theorem spec_l2Spans.tab15 : rtab .any (opsOf Try.f35 15) = spec_l2Spans.T15:=by kernel_rfl
theorem spec_l2Spans.bits15 : waitsOk spec_l2Spans.T15.2 spec_l2Spans.B15 = true:=by kernel_rfl
def spec_l2Spans.T16 : Bool × List (List Nat × List Nat):=(true,[([],[]),([],[]),([0,1],[0,1]),([2],[2]),([3],[3]),([],[]),([],[]),([5,6],[5,6]),([7],[7]),([8],[8]),([4,9],[4,9])])
def spec_l2Spans.B16 : List Nat:=[0,0,3,7,15,0,0,96,224,480,1023]
theorem spec_l2Spans.tab16 : rtab .any (opsOf Try.f35 16) = spec_l2Spans.T16:=by kernel_rfl
theorem spec_l2Spans.bits16 : waitsOk spec_l2Spans.T16.2 spec_l2Spans.B16 = true:=by kernel_rfl
set_option maxHeartbeats 8000000 in
set_option maxRecDepth 100000 in
theorem spec_l2Spans.calls (k : Nat) (A0 : Option Addr) (c0 : Nat) (l0 : List (S44)) (r : List (S63)) (w : World) (hr0 : Kd.C k44 w A0 l0.length l0) (hc0 : l0.length ≤ c0) (h : spec_l2Spans.f k l0 = some r) :
  Calls Try.prog 35 #[.slice A0 l0.length c0] w fun e w' => ∃ v0_ : Value,e = .returned (v0_) ∧ Kd.R k63 63 w' w.heap.size (fun _ => True) v0_ r ∧ Below w.heap.size w w':=by
 have hu44:=Try.underlying44
 have hu63:=Try.underlying63
 have HR0:=a0z.mk hr0
 have HC0:=a0z.mk hc0
 clear hr0 hc0
 have HB:=a0z.mk (Below.refl w.heap.size w)
 have H : (spec_l2Spans.l0 k l0 (([] : List (S63))) 0) = some r:=h
 clear h
 obtain ⟨y101,hy101⟩ : ∃ y_ : List (S63),y_ = (([] : List (S63))):=⟨_,rfl⟩
 replace H : (spec_l2Spans.l0 k l0 y101 0) = some r:=by first|(rw [hy101];with_reducible exact H)|(have H2_:=(Option.bind_some _ _).symm.trans H;rw [hy101];with_reducible exact H2_)|(have H2_:=(Option.bind_some _ _).symm.trans H;with_reducible exact H2_)|with_reducible exact H|(rw [hy101];exact H)|exact H
 have Ny101:=a0z.mk hy101
 clear hy101
 have H':=a0z.mk H
 clear H
 go_enter Try.func35,Try.ntmps35
 go_wp2_with (first|((with_reducible refine d4z (N:=10) rfl ?_);refine Kd.R_lit k63 _ 63 ?hg (N:=10) ?hd (xs:=([] : List (S63))) (inner:=[]) (ok:=fun _ => True) (okp:=fun _ => True) ?hr ?hp (fun _ hk => hk) trivial (Below.refl _ _) (Nat.le_refl _) (by simp) ?_;(case hd => rfl);(case hg => rfl);(case hr => first|(go_simp;done)|(go_simp;rfl));(case hp => exact (Reps.none _ _));intro v102 w2 ho3 hb hg_ hnew_;clear hg_ hnew_;(first|rw [← Ny101.1] at ho3|(simp only [Int.reduceToNat] at ho3;rw [← Ny101.1] at ho3));have n0_:=a0z.mk (Kd.d5z ho3 (b1z (by repeat (first|(with_reducible first|exact HB.1|apply a3z|apply a1z|apply a2z)|exact HB.1))));have n1_:=a0z.mk (b3z (by repeat (first|(with_reducible first|exact HB.1|apply a3z|apply a1z|apply a2z)|exact HB.1)) hb);clear HB;have HO103:=n0_;have HB:=n1_;clear n0_ n1_;clear hb ho3))
 go_loopg [3,4] k (fun kq v3 v4 w' => ∃ (x3_1 : List (S63)) (x4_1 : Int),v4 = .int .i64 x4_1 ∧ a0z (spec_l2Spans.l0 kq l0 x3_1 x4_1 = some r) ∧ a0z (kq ≤ k) ∧ a0z (Kd.R k63 63 w' w.heap.size (fun _ => True) v3 x3_1) ∧ a0z (Below w.heap.size w w'))
 case atStart => exact ⟨(y101),(0),(by first|rfl|(simp;done)|(simp [*];done)),H',⟨Nat.le_refl _⟩,⟨by (with_reducible repeat (first|apply Kd.R_alloc|apply Kd.a4z|apply Kd.a5z));exact HO103.1⟩,⟨by repeat (first|(with_reducible first|exact HB.1|apply a3z|apply a1z|apply a2z)|exact HB.1)⟩⟩
 case round =>
  clear H'
  try clear p2
  try clear c3
  obtain ⟨x3_1,x4_1,rfl,HA,HK1,HO_3,HB⟩:=hrel
  cases gk with
  | zero => exact absurd HA.1 (by simp [spec_l2Spans.l0])
  | succ k1 =>
   have H:=HA.1
   clear HA
   simp only [spec_l2Spans.l0] at H
   by_cases c4 : x4_1 < (l0.length : Int)
   ·rw [if_pos c4] at H
    have c4b0 : decide (x4_1 < (l0.length : Int)) = true:=decide_eq_true c4
    clear c4
    by_cases c5 : 0 ≤ x4_1
    ·rw [if_pos c5] at H
     have c5b0 : decide (0 ≤ x4_1) = true:=decide_eq_true c5
     clear c5
     replace H:=Option.bind_eq_some_iff.mp H
     obtain ⟨t106,A60,H⟩:=H
     replace H : (spec_l2Spans.l1 k1 l0 x3_1 x4_1 0 ((b6z l0 x4_1).f0) t106) = some r:=H
     have A6:=a0z.mk A60
     clear A60
     have H':=a0z.mk H
     clear H
     try go_wp2
     have n0_:=a0z.mk (Kd.a5z HO_3.1)
     have n1_:=a0z.mk (a2z HB.1)
     clear HO_3
     clear HB
     have HO_3:=n0_
     have HB:=n1_
     clear n0_ n1_
     have p104 : 0 ≤ (x4_1 : Int):=of_decide_eq_true (by first|(with_reducible assumption)|assumption)
     have q104 : x4_1 < (l0.length : Int):=of_decide_eq_true (by first|(with_reducible assumption)|assumption)
     obtain ⟨ad104,e104,hx104_0,hx104_1⟩:=h2z HR0.1 x4_1 p104 q104
     have hw104_1:=hx104_1
     have hw104_0:=hx104_0
     cases e104
     replace hx104_0:=(HB.1.cell (World.block_lt_of_cell? w _ hx104_0)).trans hx104_0
     replace hx104_1:=(HB.1.cell (World.block_lt_of_cell? w _ hx104_1)).trans hx104_1
     replace p104:=eq_true p104
     replace q104:=eq_true q104
     have p105 : 0 ≤ (x4_1 : Int):=of_decide_eq_true (by first|(with_reducible assumption)|assumption)
     have q105 : x4_1 < (l0.length : Int):=of_decide_eq_true (by first|(with_reducible assumption)|assumption)
     obtain ⟨ad105,e105,hx105_0,hx105_1⟩:=h2z HR0.1 x4_1 p105 q105
     have hw105_1:=hx105_1
     have hw105_0:=hx105_0
     obtain rfl : ad104 = ad105:=(by injection e105)
     replace hx105_0:=(HB.1.cell (World.block_lt_of_cell? w _ hx105_0)).trans hx105_0
     replace hx105_1:=(HB.1.cell (World.block_lt_of_cell? w _ hx105_1)).trans hx105_1
     replace p105:=eq_true p105
     replace q105:=eq_true q105
     refine g9z (n:=13) (S:=fun w' => w'.cell? (ad104.add ((x4_1).toNat * 2)) = some (.int .i64 ((b6z l0 x4_1).f0)) ∧ w'.cell? ⟨(ad104.add ((x4_1).toNat * 2)).block,(ad104.add ((x4_1).toNat * 2)).off + 1,none⟩ = some (.int .i64 ((b6z l0 x4_1).f1)) ∧ w'.cell? (ad104.add ((x4_1).toNat * 2)) = some (.int .i64 ((b6z l0 x4_1).f0)) ∧ w'.cell? ⟨(ad104.add ((x4_1).toNat * 2)).block,(ad104.add ((x4_1).toNat * 2)).off + 1,none⟩ = some (.int .i64 ((b6z l0 x4_1).f1))) (ds:=[]) #[false,false,false,false,false,false,false,false,false,false,false,false,false] (by kernel_rfl) rfl rfl ⟨((HB.1.cell (World.block_lt_of_cell? w _ hw104_0)).trans hw104_0),((HB.1.cell (World.block_lt_of_cell? w _ hw104_1)).trans hw104_1),((HB.1.cell (World.block_lt_of_cell? w _ hw105_0)).trans hw105_0),((HB.1.cell (World.block_lt_of_cell? w _ hw105_1)).trans hw105_1)⟩ (fun hHeld => ?_);refine f8z spec_l2Spans.tab5 spec_l2Spans.bits5 (fun HT_ HW_ => ?_)
     generalize wr.drew = w7 at HO_3 HB hx104_0 hx104_1 hx105_0 hx105_1 hHeld ⊢
     refine pure_ (i:=0) (N:=some 17) (v:=?_) (a':=?_) #[true,false,false,false,false,false,false,false,false,false,false,false,false] rfl rfl (c0z HT_.1 (by kernel_rfl)) (fun _ _ _ h => h) (Or.inl ⟨by rfl,?_⟩) ?_ ?_
     rotate_left
     ·intro w'
      go_simp
      with_reducible rfl
     rotate_left
     ·simp only [Act.put,sA_,sZ_,sS_,i64_w,i32_w]
      rfl
     refine pure_ (i:=1) (N:=some 18) (v:=?_) (a':=?_) #[true,true,false,false,false,false,false,false,false,false,false,false,false] rfl rfl (c0z HT_.1 (by kernel_rfl)) (fun _ _ _ h => h) (Or.inl ⟨by rfl,?_⟩) ?_ ?_
     rotate_left
     ·intro w'
      go_simp
      with_reducible rfl
     rotate_left
     ·simp only [Act.put,sA_,sZ_,sS_,i64_w,i32_w]
      rfl
     refine pure_ (i:=2) (N:=some 19) (v:=?_) (a':=?_) #[true,true,true,false,false,false,false,false,false,false,false,false,false] rfl rfl (c0z HT_.1 (by kernel_rfl)) (fun _ _ _ h => h) (Or.inl ⟨by rfl,?_⟩) ?_ ?_
     rotate_left
     ·intro w'
      go_simp
      with_reducible rfl
     rotate_left
     ·simp only [Act.put,sA_,sZ_,sS_,i64_w,i32_w]
      rfl
     refine pure_ (i:=3) (N:=some 20) (v:=?_) (a':=?_) #[true,true,true,true,false,false,false,false,false,false,false,false,false] rfl rfl (c0z HT_.1 (by kernel_rfl)) (fun _ _ _ h => h) (Or.inl ⟨by rfl,?_⟩) ?_ ?_
     rotate_left
     ·intro w'
      go_simp
      with_reducible rfl
     rotate_left
     ·simp only [Act.put,sA_,sZ_,sS_,i64_w,i32_w]
      rfl
     refine pure_ (i:=5) (N:=some 22) (v:=?_) (a':=?_) #[true,true,true,true,false,true,false,false,false,false,false,false,false] rfl rfl (c0z HT_.1 (by kernel_rfl)) (fun _ _ _ h => h) (Or.inl ⟨by rfl,?_⟩) ?_ ?_
     rotate_left
     ·intro w'
      go_simp
      with_reducible rfl
     rotate_left
     ·simp only [Act.put,sA_,sZ_,sS_,i64_w,i32_w]
      rfl
     refine pure_ (i:=6) (N:=some 23) (v:=?_) (a':=?_) #[true,true,true,true,false,true,true,false,false,false,false,false,false] rfl rfl (c0z HT_.1 (by kernel_rfl)) (fun _ _ _ h => h) (Or.inl ⟨by rfl,?_⟩) ?_ ?_
     rotate_left
     ·intro w'
      go_simp
      with_reducible rfl
     rotate_left
     ·simp only [Act.put,sA_,sZ_,sS_,i64_w,i32_w]
      rfl
     refine pure_ (i:=7) (N:=some 24) (v:=?_) (a':=?_) #[true,true,true,true,false,true,true,true,false,false,false,false,false] rfl rfl (c0z HT_.1 (by kernel_rfl)) (fun _ _ _ h => h) (Or.inl ⟨by rfl,?_⟩) ?_ ?_
     rotate_left
     ·intro w'
      go_simp
      with_reducible rfl
     rotate_left
     ·simp only [Act.put,sA_,sZ_,sS_,i64_w,i32_w]
      rfl
     refine take_ (i:=4) (N:=some 21) (v:=?_) (a':=?_) #[true,true,true,true,true,true,true,true,false,false,false,false,false] rfl rfl (f3z HT_.1 HW_.1 (by kernel_rfl)) (fun _ _ _ h => h) (Or.inl ⟨by rfl,?_⟩) hHeld ?_ ?_
     rotate_left
     ·rintro w' ⟨s0,s1,s2,s3⟩
      go_simp
      with_reducible rfl
     rotate_left
     ·simp only [Act.put,sA_,sZ_,sS_,i64_w,i32_w]
      rfl
     refine take_ (i:=8) (N:=some 25) (v:=?_) (a':=?_) #[true,true,true,true,true,true,true,true,true,false,false,false,false] rfl rfl (f3z HT_.1 HW_.1 (by kernel_rfl)) (fun _ _ _ h => h) (Or.inl ⟨by rfl,?_⟩) hHeld ?_ ?_
     rotate_left
     ·rintro w' ⟨s0,s1,s2,s3⟩
      go_simp
      with_reducible rfl
     rotate_left
     ·simp only [Act.put,sA_,sZ_,sS_,i64_w,i32_w]
      rfl
     refine join_ (σ:=Nat) 1 #[true,true,true,true,true,true,true,true,true,true,true,true,false] (fun s_ => [(26,.int .i64 t106),(5,.pointer (some ⟨s_,0,none⟩)),(27,.agg #[.int .i64 ((b6z l0 x4_1).f0),.int .i64 t106])]) (fun s_ w' => (w'.cell? (ad104.add ((x4_1).toNat * 2)) = some (.int .i64 ((b6z l0 x4_1).f0)) ∧ w'.cell? ⟨(ad104.add ((x4_1).toNat * 2)).block,(ad104.add ((x4_1).toNat * 2)).off + 1,none⟩ = some (.int .i64 ((b6z l0 x4_1).f1)) ∧ w'.cell? (ad104.add ((x4_1).toNat * 2)) = some (.int .i64 ((b6z l0 x4_1).f0)) ∧ w'.cell? ⟨(ad104.add ((x4_1).toNat * 2)).block,(ad104.add ((x4_1).toNat * 2)).off + 1,none⟩ = some (.int .i64 ((b6z l0 x4_1).f1))) ∧ (Kd.R k63 63 w' w.heap.size (fun k_ => k_ ≠ s_) u3 x3_1) ∧ (w'.heap[s_]? = some (.cells #[.int .i64 0,.int .i64 0] 63 (0,0))) ∧ (w.heap.size ≤ s_) ∧ (w.heap.size ≤ s_) ∧ (Below w.heap.size w w')) ?_ ?_
     rotate_left
     ·intro hCont
      refine two_ (i:=9) (j:=11) (Ni:=some 26) (Nj:=some 5) #[true,true,true,true,true,true,true,true,true,true,false,false,false] #[true,true,true,true,true,true,true,true,true,false,false,true,false] rfl rfl rfl rfl (two_of HT_.1 (by kernel_rfl)) (by decide) (by decide) (fun K hK => ?_) (fun K hK => ?_)
      ·skip
       refine goes_ Try.func53 (by kernel_rfl) rfl #[.agg #[.int .i64 ((b6z l0 x4_1).f0),.int .i64 ((b6z l0 x4_1).f1)]] (by rfl) rfl rfl (by (try simp only [List.map_toArray,List.map_cons,List.map_nil]);first|done|rfl|(simp only [List.length_drop,List.length_take];rfl)) ?_
       with_reducible refine (spec_l1Last.calls k1 ((b6z l0 x4_1).f0) ((b6z l0 x4_1).f1) t106 _ A6.1).mono ?_
       rintro e w8 ⟨rfl,hb⟩
       refine ⟨_,rfl,?_⟩
       have n0_:=a0z.mk (Kd.c3z (by (with_reducible repeat (first|apply Kd.R_alloc|apply Kd.a4z|apply Kd.a5z));exact HO_3.1) hb)
       have n1_:=a0z.mk (b3z (by repeat (first|(with_reducible first|exact HB.1|apply a3z|apply a1z|apply a2z)|exact HB.1)) hb)
       clear HO_3
       clear HB
       have HO_3:=n0_
       have HB:=n1_
       clear n0_ n1_
       (try clear hb)
       (try clear hb2)
       (try clear hk)
       (try clear hi)
       refine hK.out _ _ ⟨((HB.1.cell (World.block_lt_of_cell? w _ hw104_0)).trans hw104_0),((HB.1.cell (World.block_lt_of_cell? w _ hw104_1)).trans hw104_1),((HB.1.cell (World.block_lt_of_cell? w _ hw105_0)).trans hw105_0),((HB.1.cell (World.block_lt_of_cell? w _ hw105_1)).trans hw105_1)⟩ (fun hHeld => ?_)
       clear hK K
       refine norm_ (a':=?_) ?_ ?_
       rotate_left
       ·show Act.put _ (some 26) _ = _
        simp only [Act.put,sA_,sZ_,sS_,i64_w,i32_w]
        rfl
       refine pure_ (i:=10) (N:=some 27) (v:=?_) (a':=?_) #[true,true,true,true,true,true,true,true,true,true,true,false,false] rfl rfl (c0z HT_.1 (by kernel_rfl)) (fun _ _ _ h => h) (Or.inl ⟨by rfl,?_⟩) ?_ ?_
       rotate_left
       ·intro w'
        go_simp
        with_reducible rfl
       rotate_left
       ·simp only [Act.put,sA_,sZ_,sS_,i64_w,i32_w]
        rfl
       refine one_ (i:=11) (N:=some 5) #[true,true,true,true,true,true,true,true,true,true,true,true,false] rfl rfl (f9z HT_.1 (by kernel_rfl)) (by decide) (fun K hK => ?_)
       refine box_step ?hg (N:=5) ?hd (cs:=#[.int .i64 0,.int .i64 0]) (t:=63) ?hr ?_;(case hd => rfl);(case hg => rfl);(case hr => first|(go_simp;done)|(go_simp;rfl))
       intro gb107 hg w9 hbox hb
       have n0_:=a0z.mk (Kd.c3z (Kd.f4z (by (with_reducible repeat (first|apply Kd.R_alloc|apply Kd.a4z|apply Kd.a5z));exact HO_3.1) gb107 (Nat.le_of_eq hg.symm)) hb)
       have n1_:=a0z.mk (b3z (by repeat (first|(with_reducible first|exact HB.1|apply a3z|apply a1z|apply a2z)|exact HB.1)) hb)
       have n2_:=a0z.mk (hbox)
       have n3_:=a0z.mk ((by rw [hg];exact (b1z (by repeat (first|(with_reducible first|exact HB.1|apply a3z|apply a1z|apply a2z)|exact HB.1))) : w.heap.size ≤ gb107))
       have n4_:=a0z.mk ((by rw [hg];exact (b1z (by repeat (first|(with_reducible first|exact HB.1|apply a3z|apply a1z|apply a2z)|exact HB.1))) : w.heap.size ≤ gb107))
       clear HO_3
       clear HB
       have HO_3:=n0_
       have HB:=n1_
       have BK107:=n2_
       have GW107:=n3_
       have GE107:=n4_
       clear n0_ n1_ n2_ n3_ n4_
       clear hb hbox hg
       refine hK.out _ _ ⟨((HB.1.cell (World.block_lt_of_cell? w _ hw104_0)).trans hw104_0),((HB.1.cell (World.block_lt_of_cell? w _ hw104_1)).trans hw104_1),((HB.1.cell (World.block_lt_of_cell? w _ hw105_0)).trans hw105_0),((HB.1.cell (World.block_lt_of_cell? w _ hw105_1)).trans hw105_1)⟩ (fun hHeld => ?_)
       clear hK K
       refine norm_ (a':=?_) ?_ ?_
       rotate_left
       ·show Act.put _ (some 5) _ = _
        simp only [Act.put,sA_,sZ_,sS_,i64_w,i32_w]
        rfl
       exact norm_ (by simp only [putAll,Act.put,sA_,sZ_,sS_]) (hCont (gb107) _ ⟨hHeld,(by (with_reducible repeat (first|apply Kd.R_alloc|apply Kd.a4z|apply Kd.a5z));exact Kd.b5z HO_3.1 (fun _ hk => hk.2)),(by (with_reducible repeat (first|refine a8z ?_ _|refine a9z ?_|refine a7z ?_ _));exact BK107.1),GW107.1,GE107.1,(by repeat (first|(with_reducible first|exact HB.1|apply a3z|apply a1z|apply a2z|refine a6z ?_ GE107.1)|exact HB.1))⟩)
      ·skip
       refine box_step ?hg (N:=5) ?hd (cs:=#[.int .i64 0,.int .i64 0]) (t:=63) ?hr ?_;(case hd => rfl);(case hg => rfl);(case hr => first|(go_simp;done)|(go_simp;rfl))
       intro gb107 hg w8 hbox hb
       have n0_:=a0z.mk (Kd.c3z (Kd.f4z (by (with_reducible repeat (first|apply Kd.R_alloc|apply Kd.a4z|apply Kd.a5z));exact HO_3.1) gb107 (Nat.le_of_eq hg.symm)) hb)
       have n1_:=a0z.mk (b3z (by repeat (first|(with_reducible first|exact HB.1|apply a3z|apply a1z|apply a2z)|exact HB.1)) hb)
       have n2_:=a0z.mk (hbox)
       have n3_:=a0z.mk ((by rw [hg];exact (b1z (by repeat (first|(with_reducible first|exact HB.1|apply a3z|apply a1z|apply a2z)|exact HB.1))) : w.heap.size ≤ gb107))
       have n4_:=a0z.mk ((by rw [hg];exact (b1z (by repeat (first|(with_reducible first|exact HB.1|apply a3z|apply a1z|apply a2z)|exact HB.1))) : w.heap.size ≤ gb107))
       clear HO_3
       clear HB
       have HO_3:=n0_
       have HB:=n1_
       have BK107:=n2_
       have GW107:=n3_
       have GE107:=n4_
       clear n0_ n1_ n2_ n3_ n4_
       clear hb hbox hg
       refine hK.out _ _ ⟨((HB.1.cell (World.block_lt_of_cell? w _ hw104_0)).trans hw104_0),((HB.1.cell (World.block_lt_of_cell? w _ hw104_1)).trans hw104_1),((HB.1.cell (World.block_lt_of_cell? w _ hw105_0)).trans hw105_0),((HB.1.cell (World.block_lt_of_cell? w _ hw105_1)).trans hw105_1)⟩ (fun hHeld => ?_)
       clear hK K
       refine norm_ (a':=?_) ?_ ?_
       rotate_left
       ·show Act.put _ (some 5) _ = _
        simp only [Act.put,sA_,sZ_,sS_,i64_w,i32_w]
        rfl
       refine one_ (i:=9) (N:=some 26) #[true,true,true,true,true,true,true,true,true,true,false,true,false] rfl rfl (f9z HT_.1 (by kernel_rfl)) (by decide) (fun K hK => ?_)
       refine goes_ Try.func53 (by kernel_rfl) rfl #[.agg #[.int .i64 ((b6z l0 x4_1).f0),.int .i64 ((b6z l0 x4_1).f1)]] (by rfl) rfl rfl (by (try simp only [List.map_toArray,List.map_cons,List.map_nil]);first|done|rfl|(simp only [List.length_drop,List.length_take];rfl)) ?_
       with_reducible refine (spec_l1Last.calls k1 ((b6z l0 x4_1).f0) ((b6z l0 x4_1).f1) t106 _ A6.1).mono ?_
       rintro e w9 ⟨rfl,hb⟩
       refine ⟨_,rfl,?_⟩
       have n0_:=a0z.mk (Kd.c3z (by (with_reducible repeat (first|apply Kd.R_alloc|apply Kd.a4z|apply Kd.a5z));exact HO_3.1) hb)
       have n1_:=a0z.mk (d9z (g:=gb107) (o:=.cells #[.int .i64 0,.int .i64 0] 63 (0,0)) (by (with_reducible repeat (first|refine a8z ?_ _|refine a9z ?_|refine a7z ?_ _));exact BK107.1) hb)
       have n2_:=a0z.mk (b3z (by repeat (first|(with_reducible first|exact HB.1|apply a3z|apply a1z|apply a2z|refine a6z ?_ GE107.1)|exact HB.1)) hb)
       clear HO_3
       clear BK107
       clear HB
       have HO_3:=n0_
       have BK107:=n1_
       have HB:=n2_
       clear n0_ n1_ n2_
       (try clear hb)
       (try clear hb2)
       (try clear hk)
       (try clear hi)
       refine hK.out _ _ ⟨((HB.1.cell (World.block_lt_of_cell? w _ hw104_0)).trans hw104_0),((HB.1.cell (World.block_lt_of_cell? w _ hw104_1)).trans hw104_1),((HB.1.cell (World.block_lt_of_cell? w _ hw105_0)).trans hw105_0),((HB.1.cell (World.block_lt_of_cell? w _ hw105_1)).trans hw105_1)⟩ (fun hHeld => ?_)
       clear hK K
       refine norm_ (a':=?_) ?_ ?_
       rotate_left
       ·show Act.put _ (some 26) _ = _
        simp only [Act.put,sA_,sZ_,sS_,i64_w,i32_w]
        rfl
       refine pure_ (i:=10) (N:=some 27) (v:=?_) (a':=?_) #[true,true,true,true,true,true,true,true,true,true,true,true,false] rfl rfl (c0z HT_.1 (by kernel_rfl)) (fun _ _ _ h => h) (Or.inl ⟨by rfl,?_⟩) ?_ ?_
       rotate_left
       ·intro w'
        go_simp
        with_reducible rfl
       rotate_left
       ·simp only [Act.put,sA_,sZ_,sS_,i64_w,i32_w]
        rfl
       exact norm_ (by simp only [putAll,Act.put,sA_,sZ_,sS_]) (hCont (gb107) _ ⟨hHeld,(by (with_reducible repeat (first|apply Kd.R_alloc|apply Kd.a4z|apply Kd.a5z));exact Kd.b5z HO_3.1 (fun _ hk => hk.2)),(by (with_reducible repeat (first|refine a8z ?_ _|refine a9z ?_|refine a7z ?_ _));exact BK107.1),GW107.1,GE107.1,(by repeat (first|(with_reducible first|exact HB.1|apply a3z|apply a1z|apply a2z|refine a6z ?_ GE107.1)|exact HB.1))⟩)
     rintro gb107 w10 ⟨hS_,h0_,h1_,h2_,h3_,h4_⟩
     have n0_ : a0z (Kd.R k63 63 w10 w.heap.size (fun k_ => k_ ≠ gb107) u3 x3_1):=⟨h0_⟩
     have n1_ : a0z (w10.heap[gb107]? = some (.cells #[.int .i64 0,.int .i64 0] 63 (0,0))):=⟨h1_⟩
     have n2_ : a0z (w.heap.size ≤ gb107):=⟨h2_⟩
     have n3_ : a0z (w.heap.size ≤ gb107):=⟨h3_⟩
     have n4_ : a0z (Below w.heap.size w w10):=⟨h4_⟩
     clear HO_3
     clear HB
     clear h0_ h1_ h2_ h3_ h4_
     have HO_3:=n0_
     have BK107:=n1_
     have GW107:=n2_
     have GE107:=n3_
     have HB:=n4_
     clear n0_ n1_ n2_ n3_ n4_
     have hHeld : w10.cell? (ad104.add ((x4_1).toNat * 2)) = some (.int .i64 ((b6z l0 x4_1).f0)) ∧ w10.cell? ⟨(ad104.add ((x4_1).toNat * 2)).block,(ad104.add ((x4_1).toNat * 2)).off + 1,none⟩ = some (.int .i64 ((b6z l0 x4_1).f1)) ∧ w10.cell? (ad104.add ((x4_1).toNat * 2)) = some (.int .i64 ((b6z l0 x4_1).f0)) ∧ w10.cell? ⟨(ad104.add ((x4_1).toNat * 2)).block,(ad104.add ((x4_1).toNat * 2)).off + 1,none⟩ = some (.int .i64 ((b6z l0 x4_1).f1)):=hS_
     refine norm_ (a':=?_) ?_ ?_
     rotate_left
     ·simp only [putAll,Act.put,sA_,sZ_,sS_]
      rfl
     refine one_ (i:=12) (N:=none) #[true,true,true,true,true,true,true,true,true,true,true,true,true] rfl rfl (f9z HT_.1 (by kernel_rfl)) (by decide) (fun K hK => ?_)
     have hs11 : w10.cell? ⟨gb107,0,none⟩ = some (.int .i64 0):=(b2z BK107.1 0).trans rfl
     have hfs11:=b7z BK107.1 0
     have hs12 : w10.cell? ⟨gb107,1,none⟩ = some (.int .i64 0):=(b2z BK107.1 1).trans rfl
     have hfs12:=b7z BK107.1 1
     refine skip_ (w1:=?_) (by rfl) rfl ?_ ?_
     rotate_left
     ·go_simp
      rfl
     refine hK.out _ _ ⟨((g0z (p:=⟨gb107,_,none⟩) (by first|exact Nat.ne_of_lt (Nat.lt_of_lt_of_le (by have:=World.block_lt_of_cell? _ _ hw104_0;first|rwa [c8z] at this|exact this) GW107.1)|(rw [c8z];exact Nat.ne_of_lt (Nat.lt_of_lt_of_le (by have:=World.block_lt_of_cell? _ _ hw104_0;first|rwa [c8z] at this|exact this) GW107.1))|(show (Addr.add _ _).block ≠ _;rw [c8z];exact Nat.ne_of_lt (Nat.lt_of_lt_of_le (by have:=World.block_lt_of_cell? _ _ hw104_0;first|rwa [c8z] at this|exact this) GW107.1))|(dsimp only;exact Nat.ne_of_lt (Nat.lt_of_lt_of_le (by have:=World.block_lt_of_cell? _ _ hw104_0;first|rwa [c8z] at this|exact this) GW107.1))) _).trans (((g0z (p:=⟨gb107,_,none⟩) (by first|exact Nat.ne_of_lt (Nat.lt_of_lt_of_le (by have:=World.block_lt_of_cell? _ _ hw104_0;first|rwa [c8z] at this|exact this) GW107.1)|(rw [c8z];exact Nat.ne_of_lt (Nat.lt_of_lt_of_le (by have:=World.block_lt_of_cell? _ _ hw104_0;first|rwa [c8z] at this|exact this) GW107.1))|(show (Addr.add _ _).block ≠ _;rw [c8z];exact Nat.ne_of_lt (Nat.lt_of_lt_of_le (by have:=World.block_lt_of_cell? _ _ hw104_0;first|rwa [c8z] at this|exact this) GW107.1))|(dsimp only;exact Nat.ne_of_lt (Nat.lt_of_lt_of_le (by have:=World.block_lt_of_cell? _ _ hw104_0;first|rwa [c8z] at this|exact this) GW107.1))) _).trans (hHeld.1)))),((g0z (p:=⟨gb107,_,none⟩) (by first|exact Nat.ne_of_lt (Nat.lt_of_lt_of_le (by have:=World.block_lt_of_cell? _ _ hw104_1;first|rwa [c8z] at this|exact this) GW107.1)|(rw [c8z];exact Nat.ne_of_lt (Nat.lt_of_lt_of_le (by have:=World.block_lt_of_cell? _ _ hw104_1;first|rwa [c8z] at this|exact this) GW107.1))|(show (Addr.add _ _).block ≠ _;rw [c8z];exact Nat.ne_of_lt (Nat.lt_of_lt_of_le (by have:=World.block_lt_of_cell? _ _ hw104_1;first|rwa [c8z] at this|exact this) GW107.1))|(dsimp only;exact Nat.ne_of_lt (Nat.lt_of_lt_of_le (by have:=World.block_lt_of_cell? _ _ hw104_1;first|rwa [c8z] at this|exact this) GW107.1))) _).trans (((g0z (p:=⟨gb107,_,none⟩) (by first|exact Nat.ne_of_lt (Nat.lt_of_lt_of_le (by have:=World.block_lt_of_cell? _ _ hw104_1;first|rwa [c8z] at this|exact this) GW107.1)|(rw [c8z];exact Nat.ne_of_lt (Nat.lt_of_lt_of_le (by have:=World.block_lt_of_cell? _ _ hw104_1;first|rwa [c8z] at this|exact this) GW107.1))|(show (Addr.add _ _).block ≠ _;rw [c8z];exact Nat.ne_of_lt (Nat.lt_of_lt_of_le (by have:=World.block_lt_of_cell? _ _ hw104_1;first|rwa [c8z] at this|exact this) GW107.1))|(dsimp only;exact Nat.ne_of_lt (Nat.lt_of_lt_of_le (by have:=World.block_lt_of_cell? _ _ hw104_1;first|rwa [c8z] at this|exact this) GW107.1))) _).trans (hHeld.2.1)))),((g0z (p:=⟨gb107,_,none⟩) (by first|exact Nat.ne_of_lt (Nat.lt_of_lt_of_le (by have:=World.block_lt_of_cell? _ _ hw105_0;first|rwa [c8z] at this|exact this) GW107.1)|(rw [c8z];exact Nat.ne_of_lt (Nat.lt_of_lt_of_le (by have:=World.block_lt_of_cell? _ _ hw105_0;first|rwa [c8z] at this|exact this) GW107.1))|(show (Addr.add _ _).block ≠ _;rw [c8z];exact Nat.ne_of_lt (Nat.lt_of_lt_of_le (by have:=World.block_lt_of_cell? _ _ hw105_0;first|rwa [c8z] at this|exact this) GW107.1))|(dsimp only;exact Nat.ne_of_lt (Nat.lt_of_lt_of_le (by have:=World.block_lt_of_cell? _ _ hw105_0;first|rwa [c8z] at this|exact this) GW107.1))) _).trans (((g0z (p:=⟨gb107,_,none⟩) (by first|exact Nat.ne_of_lt (Nat.lt_of_lt_of_le (by have:=World.block_lt_of_cell? _ _ hw105_0;first|rwa [c8z] at this|exact this) GW107.1)|(rw [c8z];exact Nat.ne_of_lt (Nat.lt_of_lt_of_le (by have:=World.block_lt_of_cell? _ _ hw105_0;first|rwa [c8z] at this|exact this) GW107.1))|(show (Addr.add _ _).block ≠ _;rw [c8z];exact Nat.ne_of_lt (Nat.lt_of_lt_of_le (by have:=World.block_lt_of_cell? _ _ hw105_0;first|rwa [c8z] at this|exact this) GW107.1))|(dsimp only;exact Nat.ne_of_lt (Nat.lt_of_lt_of_le (by have:=World.block_lt_of_cell? _ _ hw105_0;first|rwa [c8z] at this|exact this) GW107.1))) _).trans (hHeld.2.2.1)))),((g0z (p:=⟨gb107,_,none⟩) (by first|exact Nat.ne_of_lt (Nat.lt_of_lt_of_le (by have:=World.block_lt_of_cell? _ _ hw105_1;first|rwa [c8z] at this|exact this) GW107.1)|(rw [c8z];exact Nat.ne_of_lt (Nat.lt_of_lt_of_le (by have:=World.block_lt_of_cell? _ _ hw105_1;first|rwa [c8z] at this|exact this) GW107.1))|(show (Addr.add _ _).block ≠ _;rw [c8z];exact Nat.ne_of_lt (Nat.lt_of_lt_of_le (by have:=World.block_lt_of_cell? _ _ hw105_1;first|rwa [c8z] at this|exact this) GW107.1))|(dsimp only;exact Nat.ne_of_lt (Nat.lt_of_lt_of_le (by have:=World.block_lt_of_cell? _ _ hw105_1;first|rwa [c8z] at this|exact this) GW107.1))) _).trans (((g0z (p:=⟨gb107,_,none⟩) (by first|exact Nat.ne_of_lt (Nat.lt_of_lt_of_le (by have:=World.block_lt_of_cell? _ _ hw105_1;first|rwa [c8z] at this|exact this) GW107.1)|(rw [c8z];exact Nat.ne_of_lt (Nat.lt_of_lt_of_le (by have:=World.block_lt_of_cell? _ _ hw105_1;first|rwa [c8z] at this|exact this) GW107.1))|(show (Addr.add _ _).block ≠ _;rw [c8z];exact Nat.ne_of_lt (Nat.lt_of_lt_of_le (by have:=World.block_lt_of_cell? _ _ hw105_1;first|rwa [c8z] at this|exact this) GW107.1))|(dsimp only;exact Nat.ne_of_lt (Nat.lt_of_lt_of_le (by have:=World.block_lt_of_cell? _ _ hw105_1;first|rwa [c8z] at this|exact this) GW107.1))) _).trans (hHeld.2.2.2))))⟩ (fun hHeld => ?_)
     clear hK K
     refine done_ (g5z HT_.1 (by kernel_rfl)) ?_
     try go_wp2
     go_loopg [6] k1 (fun kq v6 w' => ∃ (x6_2 : Int),v6 = .int .i64 x6_2 ∧ a0z (spec_l2Spans.l1 kq l0 x3_1 x4_1 x6_2 ((b6z l0 x4_1).f0) t106 = some r) ∧ a0z (kq ≤ k1) ∧ a0z (Kd.R k63 63 w' w.heap.size (fun k_ => k_ ≠ gb107) u3 x3_1) ∧ a0z (w'.heap[gb107]? = some (.cells #[.int .i64 ((b6z l0 x4_1).f0),.int .i64 t106] 63 (0,0))) ∧ a0z (Below w.heap.size w w'))
     case atStart => exact ⟨(0),(by first|rfl|(simp;done)|(simp [*];done)),H',⟨Nat.le_refl _⟩,⟨by (with_reducible repeat (first|apply Kd.R_alloc|apply Kd.a4z|apply Kd.a5z));exact Kd.b5z (Kd.R_far (p:=⟨gb107,1,none⟩) (Kd.R_far (p:=⟨gb107,0,none⟩) (Kd.b5z HO_3.1 (fun k_ hk => (⟨hk,hk⟩ : _ ∧ k_ ≠ gb107))) (fun _ hk => hk.2) (.int .i64 ((b6z l0 x4_1).f0))) (fun _ hk => hk.2) (.int .i64 t106)) (fun _ hk => hk.1)⟩,⟨by (with_reducible repeat (first|refine a8z ?_ _|refine a9z ?_|refine a7z ?_ _));refine d6z (cs:=#[.int .i64 ((b6z l0 x4_1).f0),.int .i64 0]) ?_ 1 _ rfl;(with_reducible repeat (first|refine a8z ?_ _|refine a9z ?_|refine a7z ?_ _));refine d6z (cs:=#[.int .i64 0,.int .i64 0]) ?_ 0 _ rfl;(with_reducible repeat (first|refine a8z ?_ _|refine a9z ?_|refine a7z ?_ _));exact BK107.1⟩,⟨by repeat (first|(with_reducible first|exact HB.1|apply a3z|apply a1z|apply a2z|refine a6z ?_ GE107.1)|exact HB.1)⟩⟩
     case round =>
      clear H'
      try clear p1
      try clear q1
      try clear hx1
      try clear p2
      try clear c3
      try clear c4
      try clear c4b0
      try clear c5
      try clear c5b0
      try clear p10
      try clear q10
      try clear hx10
      try clear hx104_0
      try clear hx104_1
      try clear hx105_0
      try clear hx105_1
      try clear p104
      try clear p105
      try clear p2
      try clear q104
      try clear q105
      obtain ⟨x6_2,rfl,HA,HK2,HO_3,BK107,HB⟩:=hrel
      cases gk with
      | zero => exact absurd HA.1 (by simp [spec_l2Spans.l1])
      | succ k2 =>
       have H:=HA.1
       clear HA
       simp only [spec_l2Spans.l1] at H
       by_cases c13 : x6_2 < (x3_1.length : Int)
       ·rw [if_pos c13] at H
        have c13b0 : decide (x6_2 < (x3_1.length : Int)) = true:=decide_eq_true c13
        clear c13
        by_cases c14 : 0 ≤ x6_2
        ·rw [if_pos c14] at H
         have c14b0 : decide (0 ≤ x6_2) = true:=decide_eq_true c14
         clear c14
         by_cases c15 : ((c6z x3_1 x6_2).f0) < ((b6z l0 x4_1).f0)
         ·rw [if_pos c15] at H
          have c15b0 : decide (((c6z x3_1 x6_2).f0) < ((b6z l0 x4_1).f0)) = true:=decide_eq_true c15
          clear c15
          have H':=a0z.mk H
          clear H
          try go_wp2
          have n0_:=a0z.mk (Kd.a5z HO_3.1)
          have n1_:=a0z.mk (a9z BK107.1)
          have n2_:=a0z.mk (a2z HB.1)
          clear HO_3
          clear BK107
          clear HB
          have HO_3:=n0_
          have BK107:=n1_
          have HB:=n2_
          clear n0_ n1_ n2_
          obtain ⟨Ao17,co17,eo17⟩:=Kd.d3z HO_3.1
          (first|subst eo17|(injection eo17 with f1_ f2_ f3_;have f4_:=f1_.symm;have f5_:=f3_.symm;clear f1_ f2_ f3_;subst f4_;subst f5_))
          have p108 : 0 ≤ (x6_2 : Int):=of_decide_eq_true (by first|(with_reducible assumption)|assumption)
          have q108 : x6_2 < (x3_1.length : Int):=of_decide_eq_true (by first|(with_reducible assumption)|assumption)
          obtain ⟨ad108,e108,hx108_0,hx108_1⟩:=h0z (Kd.b4z HO_3.1).2.2 x6_2 p108 q108
          cases e108
          replace p108:=eq_true p108
          replace q108:=eq_true q108
          refine g9z (n:=14) (S:=fun w' => w'.cell? ⟨gb107,0,none⟩ = some (.int .i64 ((b6z l0 x4_1).f0)) ∧ w'.cell? ⟨gb107,1,none⟩ = some (.int .i64 t106) ∧ w'.cell? (ad108.add ((x6_2).toNat * 2)) = some (.int .i64 ((c6z x3_1 x6_2).f0)) ∧ w'.cell? ⟨(ad108.add ((x6_2).toNat * 2)).block,(ad108.add ((x6_2).toNat * 2)).off + 1,none⟩ = some (.int .i64 ((c6z x3_1 x6_2).f1))) (ds:=[]) #[false,false,false,false,false,false,false,false,false,false,false,false,false,false] (by kernel_rfl) rfl rfl ⟨(b2z BK107.1 0).trans rfl,(b2z BK107.1 1).trans rfl,hx108_0,hx108_1⟩ (fun hHeld => ?_);refine f8z spec_l2Spans.tab7 spec_l2Spans.bits7 (fun HT_ HW_ => ?_)
          generalize wr.drew = w16 at HO_3 BK107 HB hx108_0 hx108_1 hHeld ⊢
          refine pure_ (i:=0) (N:=some 28) (v:=?_) (a':=?_) #[true,false,false,false,false,false,false,false,false,false,false,false,false,false] rfl rfl (c0z HT_.1 (by kernel_rfl)) (fun _ _ _ h => h) (Or.inl ⟨by rfl,?_⟩) ?_ ?_
          rotate_left
          ·intro w'
           go_simp
           with_reducible rfl
          rotate_left
          ·simp only [Act.put,sA_,sZ_,sS_,i64_w,i32_w]
           rfl
          refine pure_ (i:=1) (N:=some 29) (v:=?_) (a':=?_) #[true,true,false,false,false,false,false,false,false,false,false,false,false,false] rfl rfl (c0z HT_.1 (by kernel_rfl)) (fun _ _ _ h => h) (Or.inl ⟨by rfl,?_⟩) ?_ ?_
          rotate_left
          ·intro w'
           go_simp
           with_reducible rfl
          rotate_left
          ·simp only [Act.put,sA_,sZ_,sS_,i64_w,i32_w]
           rfl
          refine pure_ (i:=2) (N:=some 30) (v:=?_) (a':=?_) #[true,true,true,false,false,false,false,false,false,false,false,false,false,false] rfl rfl (c0z HT_.1 (by kernel_rfl)) (fun _ _ _ h => h) (Or.inl ⟨by rfl,?_⟩) ?_ ?_
          rotate_left
          ·intro w'
           go_simp
           with_reducible rfl
          rotate_left
          ·simp only [Act.put,sA_,sZ_,sS_,i64_w,i32_w]
           rfl
          refine pure_ (i:=3) (N:=some 31) (v:=?_) (a':=?_) #[true,true,true,true,false,false,false,false,false,false,false,false,false,false] rfl rfl (c0z HT_.1 (by kernel_rfl)) (fun _ _ _ h => h) (Or.inl ⟨by rfl,?_⟩) ?_ ?_
          rotate_left
          ·intro w'
           go_simp
           with_reducible rfl
          rotate_left
          ·simp only [Act.put,sA_,sZ_,sS_,i64_w,i32_w]
           rfl
          refine pure_ (i:=4) (N:=some 32) (v:=?_) (a':=?_) #[true,true,true,true,true,false,false,false,false,false,false,false,false,false] rfl rfl (c0z HT_.1 (by kernel_rfl)) (fun _ _ _ h => h) (Or.inl ⟨by rfl,?_⟩) ?_ ?_
          rotate_left
          ·intro w'
           go_simp
           with_reducible rfl
          rotate_left
          ·simp only [Act.put,sA_,sZ_,sS_,i64_w,i32_w]
           rfl
          refine pure_ (i:=5) (N:=some 33) (v:=?_) (a':=?_) #[true,true,true,true,true,true,false,false,false,false,false,false,false,false] rfl rfl (c0z HT_.1 (by kernel_rfl)) (fun _ _ _ h => h) (Or.inl ⟨by rfl,?_⟩) ?_ ?_
          rotate_left
          ·intro w'
           go_simp
           with_reducible rfl
          rotate_left
          ·simp only [Act.put,sA_,sZ_,sS_,i64_w,i32_w]
           rfl
          refine pure_ (i:=6) (N:=some 34) (v:=?_) (a':=?_) #[true,true,true,true,true,true,true,false,false,false,false,false,false,false] rfl rfl (c0z HT_.1 (by kernel_rfl)) (fun _ _ _ h => h) (Or.inl ⟨by rfl,?_⟩) ?_ ?_
          rotate_left
          ·intro w'
           go_simp
           with_reducible rfl
          rotate_left
          ·simp only [Act.put,sA_,sZ_,sS_,i64_w,i32_w]
           rfl
          refine pure_ (i:=7) (N:=some 35) (v:=?_) (a':=?_) #[true,true,true,true,true,true,true,true,false,false,false,false,false,false] rfl rfl (c0z HT_.1 (by kernel_rfl)) (fun _ _ _ h => h) (Or.inl ⟨by rfl,?_⟩) ?_ ?_
          rotate_left
          ·intro w'
           go_simp
           with_reducible rfl
          rotate_left
          ·simp only [Act.put,sA_,sZ_,sS_,i64_w,i32_w]
           rfl
          refine pure_ (i:=8) (N:=some 36) (v:=?_) (a':=?_) #[true,true,true,true,true,true,true,true,true,false,false,false,false,false] rfl rfl (c0z HT_.1 (by kernel_rfl)) (fun _ _ _ h => h) (Or.inl ⟨by rfl,?_⟩) ?_ ?_
          rotate_left
          ·intro w'
           go_simp
           with_reducible rfl
          rotate_left
          ·simp only [Act.put,sA_,sZ_,sS_,i64_w,i32_w]
           rfl
          refine pure_ (i:=10) (N:=some 38) (v:=?_) (a':=?_) #[true,true,true,true,true,true,true,true,true,false,true,false,false,false] rfl rfl (c0z HT_.1 (by kernel_rfl)) (fun _ _ _ h => h) (Or.inl ⟨by rfl,?_⟩) ?_ ?_
          rotate_left
          ·intro w'
           go_simp
           with_reducible rfl
          rotate_left
          ·simp only [Act.put,sA_,sZ_,sS_,i64_w,i32_w]
           rfl
          refine take_ (i:=9) (N:=some 37) (v:=?_) (a':=?_) #[true,true,true,true,true,true,true,true,true,true,true,false,false,false] rfl rfl (f3z HT_.1 HW_.1 (by kernel_rfl)) (fun _ _ _ h => h) (Or.inl ⟨by rfl,?_⟩) hHeld ?_ ?_
          rotate_left
          ·rintro w' ⟨s0,s1,s2,s3⟩
           go_simp
           with_reducible rfl
          rotate_left
          ·simp only [Act.put,sA_,sZ_,sS_,i64_w,i32_w]
           rfl
          refine take_ (i:=11) (N:=some 39) (v:=?_) (a':=?_) #[true,true,true,true,true,true,true,true,true,true,true,true,false,false] rfl rfl (f3z HT_.1 HW_.1 (by kernel_rfl)) (fun _ _ _ h => h) (Or.inl ⟨by rfl,?_⟩) hHeld ?_ ?_
          rotate_left
          ·rintro w' ⟨s0,s1,s2,s3⟩
           go_simp
           with_reducible rfl
          rotate_left
          ·simp only [Act.put,sA_,sZ_,sS_,i64_w,i32_w]
           rfl
          refine pure_ (i:=12) (N:=some 40) (v:=?_) (a':=?_) #[true,true,true,true,true,true,true,true,true,true,true,true,true,false] rfl rfl (c0z HT_.1 (by kernel_rfl)) (fun _ _ _ h => h) (Or.inl ⟨by rfl,?_⟩) ?_ ?_
          rotate_left
          ·intro w'
           go_simp
           with_reducible rfl
          rotate_left
          ·simp only [Act.put,sA_,sZ_,sS_,i64_w,i32_w]
           rfl
          refine pure_ (i:=13) (N:=some 41) (v:=?_) (a':=?_) #[true,true,true,true,true,true,true,true,true,true,true,true,true,true] rfl rfl (c0z HT_.1 (by kernel_rfl)) (fun _ _ _ h => h) (Or.inl ⟨by rfl,?_⟩) ?_ ?_
          rotate_left
          ·intro w'
           go_simp
           with_reducible rfl
          rotate_left
          ·simp only [Act.put,sA_,sZ_,sS_,i64_w,i32_w]
           rfl
          refine done_ (g5z HT_.1 (by kernel_rfl)) ?_
          try go_wp2
          go_roundg k2
          case measure => have:=HK1.1;have:=HK2.1;omega
          case rel => exact ⟨(wrap64 (x6_2 + 1)),(by first|rfl|(simp;done)|(simp [*];done)),H',⟨by have:=HK1.1;have:=HK2.1;omega⟩,⟨by (with_reducible repeat (first|apply Kd.R_alloc|apply Kd.a4z|apply Kd.a5z));exact HO_3.1⟩,⟨by (with_reducible repeat (first|refine a8z ?_ _|refine a9z ?_|refine a7z ?_ _));exact BK107.1⟩,⟨by repeat (first|(with_reducible first|exact HB.1|apply a3z|apply a1z|apply a2z|refine a6z ?_ GE107.1)|exact HB.1)⟩⟩
         ·rw [if_neg c15] at H
          have c15b0 : decide (((c6z x3_1 x6_2).f0) < ((b6z l0 x4_1).f0)) = false:=decide_eq_false c15
          clear c15
          obtain ⟨y109,hy109⟩ : ∃ y_ : List (S63),y_ = (([] : List (S63))):=⟨_,rfl⟩
          replace H : (if x6_2 ≤ (x3_1.length : Int) then ((some (x3_1.take (x6_2 : Int).toNat : List (S63))).bind fun y112 => (if y109.length + y112.length < 8796093022208 then ((some (y109 ++ y112 : List (S63))).bind fun y116 => ((some (([(⟨((b6z l0 x4_1).f0),t106⟩ : S63)] : List (S63)) : List (S63))).bind fun y119 => (if y116.length + y119.length < 8796093022208 then ((some (y116 ++ y119 : List (S63))).bind fun y122 => ((some (x3_1.drop (x6_2 : Int).toNat : List (S63))).bind fun y125 => (if y122.length + y125.length < 8796093022208 then (spec_l2Spans.l0 k2 l0 (y122 ++ y125) (wrap64 (x4_1 + 1))) else (none)))) else (none)))) else (none))) else (none)) = some r:=by first|(rw [hy109];with_reducible exact H)|(have H2_:=(Option.bind_some _ _).symm.trans H;rw [hy109];with_reducible exact H2_)|(have H2_:=(Option.bind_some _ _).symm.trans H;with_reducible exact H2_)|with_reducible exact H|(rw [hy109];exact H)|exact H
          have Ny109:=a0z.mk hy109
          clear hy109
          have c18b0:=eq_true (of_decide_eq_true (by first|(with_reducible assumption)|assumption) : 0 ≤ x6_2)
          by_cases c19 : x6_2 ≤ (x3_1.length : Int)
          ·rw [if_pos c19] at H
           have c19b0:=eq_true c19
           have c19b1 : decide (x6_2 ≤ (x3_1.length : Int)) = true:=decide_eq_true c19
           clear c19
           obtain ⟨y112,hy112⟩ : ∃ y_ : List (S63),y_ = (x3_1.take (x6_2 : Int).toNat):=⟨_,rfl⟩
           replace H : (if y109.length + y112.length < 8796093022208 then ((some (y109 ++ y112 : List (S63))).bind fun y116 => ((some (([(⟨((b6z l0 x4_1).f0),t106⟩ : S63)] : List (S63)) : List (S63))).bind fun y119 => (if y116.length + y119.length < 8796093022208 then ((some (y116 ++ y119 : List (S63))).bind fun y122 => ((some (x3_1.drop (x6_2 : Int).toNat : List (S63))).bind fun y125 => (if y122.length + y125.length < 8796093022208 then (spec_l2Spans.l0 k2 l0 (y122 ++ y125) (wrap64 (x4_1 + 1))) else (none)))) else (none)))) else (none)) = some r:=by first|(rw [hy112];with_reducible exact H)|(have H2_:=(Option.bind_some _ _).symm.trans H;rw [hy112];with_reducible exact H2_)|(have H2_:=(Option.bind_some _ _).symm.trans H;with_reducible exact H2_)|with_reducible exact H|(rw [hy112];exact H)|exact H
           have Ny112:=a0z.mk hy112
           clear hy112
           by_cases c20 : y109.length + y112.length < 8796093022208
           ·rw [if_pos c20] at H
            have LMc20:=a0z.mk c20
            clear c20
            obtain ⟨y116,hy116⟩ : ∃ y_ : List (S63),y_ = (y109 ++ y112):=⟨_,rfl⟩
            replace H : ((some (([(⟨((b6z l0 x4_1).f0),t106⟩ : S63)] : List (S63)) : List (S63))).bind fun y119 => (if y116.length + y119.length < 8796093022208 then ((some (y116 ++ y119 : List (S63))).bind fun y122 => ((some (x3_1.drop (x6_2 : Int).toNat : List (S63))).bind fun y125 => (if y122.length + y125.length < 8796093022208 then (spec_l2Spans.l0 k2 l0 (y122 ++ y125) (wrap64 (x4_1 + 1))) else (none)))) else (none))) = some r:=by first|(rw [hy116];with_reducible exact H)|(have H2_:=(Option.bind_some _ _).symm.trans H;rw [hy116];with_reducible exact H2_)|(have H2_:=(Option.bind_some _ _).symm.trans H;with_reducible exact H2_)|with_reducible exact H|(rw [hy116];exact H)|exact H
            have Ny116:=a0z.mk hy116
            clear hy116
            obtain ⟨y119,hy119⟩ : ∃ y_ : List (S63),y_ = (([(⟨((b6z l0 x4_1).f0),t106⟩ : S63)] : List (S63))):=⟨_,rfl⟩
            replace H : (if y116.length + y119.length < 8796093022208 then ((some (y116 ++ y119 : List (S63))).bind fun y122 => ((some (x3_1.drop (x6_2 : Int).toNat : List (S63))).bind fun y125 => (if y122.length + y125.length < 8796093022208 then (spec_l2Spans.l0 k2 l0 (y122 ++ y125) (wrap64 (x4_1 + 1))) else (none)))) else (none)) = some r:=by first|(rw [hy119];with_reducible exact H)|(have H2_:=(Option.bind_some _ _).symm.trans H;rw [hy119];with_reducible exact H2_)|(have H2_:=(Option.bind_some _ _).symm.trans H;with_reducible exact H2_)|with_reducible exact H|(rw [hy119];exact H)|exact H
            have Ny119:=a0z.mk hy119
            clear hy119
            by_cases c21 : y116.length + y119.length < 8796093022208
            ·rw [if_pos c21] at H
             have LMc21:=a0z.mk c21
             clear c21
             obtain ⟨y122,hy122⟩ : ∃ y_ : List (S63),y_ = (y116 ++ y119):=⟨_,rfl⟩
             replace H : ((some (x3_1.drop (x6_2 : Int).toNat : List (S63))).bind fun y125 => (if y122.length + y125.length < 8796093022208 then (spec_l2Spans.l0 k2 l0 (y122 ++ y125) (wrap64 (x4_1 + 1))) else (none))) = some r:=by first|(rw [hy122];with_reducible exact H)|(have H2_:=(Option.bind_some _ _).symm.trans H;rw [hy122];with_reducible exact H2_)|(have H2_:=(Option.bind_some _ _).symm.trans H;with_reducible exact H2_)|with_reducible exact H|(rw [hy122];exact H)|exact H
             have Ny122:=a0z.mk hy122
             clear hy122
             have c22b0:=eq_true (of_decide_eq_true (by first|(with_reducible assumption)|assumption) : 0 ≤ x6_2)
             have c23b0:=eq_true (of_decide_eq_true (by first|(with_reducible assumption)|assumption) : x6_2 ≤ (x3_1.length : Int))
             obtain ⟨y125,hy125⟩ : ∃ y_ : List (S63),y_ = (x3_1.drop (x6_2 : Int).toNat):=⟨_,rfl⟩
             replace H : (if y122.length + y125.length < 8796093022208 then (spec_l2Spans.l0 k2 l0 (y122 ++ y125) (wrap64 (x4_1 + 1))) else (none)) = some r:=by first|(rw [hy125];with_reducible exact H)|(have H2_:=(Option.bind_some _ _).symm.trans H;rw [hy125];with_reducible exact H2_)|(have H2_:=(Option.bind_some _ _).symm.trans H;with_reducible exact H2_)|with_reducible exact H|(rw [hy125];exact H)|exact H
             have Ny125:=a0z.mk hy125
             clear hy125
             by_cases c24 : y122.length + y125.length < 8796093022208
             ·rw [if_pos c24] at H
              have LMc24:=a0z.mk c24
              clear c24
              obtain ⟨y129,hy129⟩ : ∃ y_ : List (S63),y_ = (y122 ++ y125):=⟨_,rfl⟩
              replace H : (spec_l2Spans.l0 k2 l0 y129 (wrap64 (x4_1 + 1))) = some r:=by first|(rw [hy129];with_reducible exact H)|(have H2_:=(Option.bind_some _ _).symm.trans H;rw [hy129];with_reducible exact H2_)|(have H2_:=(Option.bind_some _ _).symm.trans H;with_reducible exact H2_)|with_reducible exact H|(rw [hy129];exact H)|exact H
              have Ny129:=a0z.mk hy129
              clear hy129
              have H':=a0z.mk H
              clear H
              try go_wp2
              have n0_:=a0z.mk (Kd.a5z HO_3.1)
              have n1_:=a0z.mk (a9z BK107.1)
              have n2_:=a0z.mk (a2z HB.1)
              clear HO_3
              clear BK107
              clear HB
              have HO_3:=n0_
              have BK107:=n1_
              have HB:=n2_
              clear n0_ n1_ n2_
              obtain ⟨Ao26,co26,eo26⟩:=Kd.d3z HO_3.1
              (first|subst eo26|(injection eo26 with f1_ f2_ f3_;have f4_:=f1_.symm;have f5_:=f3_.symm;clear f1_ f2_ f3_;subst f4_;subst f5_))
              have p108 : 0 ≤ (x6_2 : Int):=of_decide_eq_true (by first|(with_reducible assumption)|assumption)
              have q108 : x6_2 < (x3_1.length : Int):=of_decide_eq_true (by first|(with_reducible assumption)|assumption)
              obtain ⟨ad108,e108,hx108_0,hx108_1⟩:=h0z (Kd.b4z HO_3.1).2.2 x6_2 p108 q108
              cases e108
              replace p108:=eq_true p108
              replace q108:=eq_true q108
              refine g9z (n:=14) (S:=fun w' => w'.cell? ⟨gb107,0,none⟩ = some (.int .i64 ((b6z l0 x4_1).f0)) ∧ w'.cell? ⟨gb107,1,none⟩ = some (.int .i64 t106) ∧ w'.cell? (ad108.add ((x6_2).toNat * 2)) = some (.int .i64 ((c6z x3_1 x6_2).f0)) ∧ w'.cell? ⟨(ad108.add ((x6_2).toNat * 2)).block,(ad108.add ((x6_2).toNat * 2)).off + 1,none⟩ = some (.int .i64 ((c6z x3_1 x6_2).f1))) (ds:=[]) #[false,false,false,false,false,false,false,false,false,false,false,false,false,false] (by kernel_rfl) rfl rfl ⟨(b2z BK107.1 0).trans rfl,(b2z BK107.1 1).trans rfl,hx108_0,hx108_1⟩ (fun hHeld => ?_);refine f8z spec_l2Spans.tab7 spec_l2Spans.bits7 (fun HT_ HW_ => ?_)
              generalize wr.drew = w25 at HO_3 BK107 HB hx108_0 hx108_1 hHeld ⊢
              refine pure_ (i:=0) (N:=some 28) (v:=?_) (a':=?_) #[true,false,false,false,false,false,false,false,false,false,false,false,false,false] rfl rfl (c0z HT_.1 (by kernel_rfl)) (fun _ _ _ h => h) (Or.inl ⟨by rfl,?_⟩) ?_ ?_
              rotate_left
              ·intro w'
               go_simp
               with_reducible rfl
              rotate_left
              ·simp only [Act.put,sA_,sZ_,sS_,i64_w,i32_w]
               rfl
              refine pure_ (i:=1) (N:=some 29) (v:=?_) (a':=?_) #[true,true,false,false,false,false,false,false,false,false,false,false,false,false] rfl rfl (c0z HT_.1 (by kernel_rfl)) (fun _ _ _ h => h) (Or.inl ⟨by rfl,?_⟩) ?_ ?_
              rotate_left
              ·intro w'
               go_simp
               with_reducible rfl
              rotate_left
              ·simp only [Act.put,sA_,sZ_,sS_,i64_w,i32_w]
               rfl
              refine pure_ (i:=2) (N:=some 30) (v:=?_) (a':=?_) #[true,true,true,false,false,false,false,false,false,false,false,false,false,false] rfl rfl (c0z HT_.1 (by kernel_rfl)) (fun _ _ _ h => h) (Or.inl ⟨by rfl,?_⟩) ?_ ?_
              rotate_left
              ·intro w'
               go_simp
               with_reducible rfl
              rotate_left
              ·simp only [Act.put,sA_,sZ_,sS_,i64_w,i32_w]
               rfl
              refine pure_ (i:=3) (N:=some 31) (v:=?_) (a':=?_) #[true,true,true,true,false,false,false,false,false,false,false,false,false,false] rfl rfl (c0z HT_.1 (by kernel_rfl)) (fun _ _ _ h => h) (Or.inl ⟨by rfl,?_⟩) ?_ ?_
              rotate_left
              ·intro w'
               go_simp
               with_reducible rfl
              rotate_left
              ·simp only [Act.put,sA_,sZ_,sS_,i64_w,i32_w]
               rfl
              refine pure_ (i:=4) (N:=some 32) (v:=?_) (a':=?_) #[true,true,true,true,true,false,false,false,false,false,false,false,false,false] rfl rfl (c0z HT_.1 (by kernel_rfl)) (fun _ _ _ h => h) (Or.inl ⟨by rfl,?_⟩) ?_ ?_
              rotate_left
              ·intro w'
               go_simp
               with_reducible rfl
              rotate_left
              ·simp only [Act.put,sA_,sZ_,sS_,i64_w,i32_w]
               rfl
              refine pure_ (i:=5) (N:=some 33) (v:=?_) (a':=?_) #[true,true,true,true,true,true,false,false,false,false,false,false,false,false] rfl rfl (c0z HT_.1 (by kernel_rfl)) (fun _ _ _ h => h) (Or.inl ⟨by rfl,?_⟩) ?_ ?_
              rotate_left
              ·intro w'
               go_simp
               with_reducible rfl
              rotate_left
              ·simp only [Act.put,sA_,sZ_,sS_,i64_w,i32_w]
               rfl
              refine pure_ (i:=6) (N:=some 34) (v:=?_) (a':=?_) #[true,true,true,true,true,true,true,false,false,false,false,false,false,false] rfl rfl (c0z HT_.1 (by kernel_rfl)) (fun _ _ _ h => h) (Or.inl ⟨by rfl,?_⟩) ?_ ?_
              rotate_left
              ·intro w'
               go_simp
               with_reducible rfl
              rotate_left
              ·simp only [Act.put,sA_,sZ_,sS_,i64_w,i32_w]
               rfl
              refine pure_ (i:=7) (N:=some 35) (v:=?_) (a':=?_) #[true,true,true,true,true,true,true,true,false,false,false,false,false,false] rfl rfl (c0z HT_.1 (by kernel_rfl)) (fun _ _ _ h => h) (Or.inl ⟨by rfl,?_⟩) ?_ ?_
              rotate_left
              ·intro w'
               go_simp
               with_reducible rfl
              rotate_left
              ·simp only [Act.put,sA_,sZ_,sS_,i64_w,i32_w]
               rfl
              refine pure_ (i:=8) (N:=some 36) (v:=?_) (a':=?_) #[true,true,true,true,true,true,true,true,true,false,false,false,false,false] rfl rfl (c0z HT_.1 (by kernel_rfl)) (fun _ _ _ h => h) (Or.inl ⟨by rfl,?_⟩) ?_ ?_
              rotate_left
              ·intro w'
               go_simp
               with_reducible rfl
              rotate_left
              ·simp only [Act.put,sA_,sZ_,sS_,i64_w,i32_w]
               rfl
              refine pure_ (i:=10) (N:=some 38) (v:=?_) (a':=?_) #[true,true,true,true,true,true,true,true,true,false,true,false,false,false] rfl rfl (c0z HT_.1 (by kernel_rfl)) (fun _ _ _ h => h) (Or.inl ⟨by rfl,?_⟩) ?_ ?_
              rotate_left
              ·intro w'
               go_simp
               with_reducible rfl
              rotate_left
              ·simp only [Act.put,sA_,sZ_,sS_,i64_w,i32_w]
               rfl
              refine take_ (i:=9) (N:=some 37) (v:=?_) (a':=?_) #[true,true,true,true,true,true,true,true,true,true,true,false,false,false] rfl rfl (f3z HT_.1 HW_.1 (by kernel_rfl)) (fun _ _ _ h => h) (Or.inl ⟨by rfl,?_⟩) hHeld ?_ ?_
              rotate_left
              ·rintro w' ⟨s0,s1,s2,s3⟩
               go_simp
               with_reducible rfl
              rotate_left
              ·simp only [Act.put,sA_,sZ_,sS_,i64_w,i32_w]
               rfl
              refine take_ (i:=11) (N:=some 39) (v:=?_) (a':=?_) #[true,true,true,true,true,true,true,true,true,true,true,true,false,false] rfl rfl (f3z HT_.1 HW_.1 (by kernel_rfl)) (fun _ _ _ h => h) (Or.inl ⟨by rfl,?_⟩) hHeld ?_ ?_
              rotate_left
              ·rintro w' ⟨s0,s1,s2,s3⟩
               go_simp
               with_reducible rfl
              rotate_left
              ·simp only [Act.put,sA_,sZ_,sS_,i64_w,i32_w]
               rfl
              refine pure_ (i:=12) (N:=some 40) (v:=?_) (a':=?_) #[true,true,true,true,true,true,true,true,true,true,true,true,true,false] rfl rfl (c0z HT_.1 (by kernel_rfl)) (fun _ _ _ h => h) (Or.inl ⟨by rfl,?_⟩) ?_ ?_
              rotate_left
              ·intro w'
               go_simp
               with_reducible rfl
              rotate_left
              ·simp only [Act.put,sA_,sZ_,sS_,i64_w,i32_w]
               rfl
              refine pure_ (i:=13) (N:=some 41) (v:=?_) (a':=?_) #[true,true,true,true,true,true,true,true,true,true,true,true,true,true] rfl rfl (c0z HT_.1 (by kernel_rfl)) (fun _ _ _ h => h) (Or.inl ⟨by rfl,?_⟩) ?_ ?_
              rotate_left
              ·intro w'
               go_simp
               with_reducible rfl
              rotate_left
              ·simp only [Act.put,sA_,sZ_,sS_,i64_w,i32_w]
               rfl
              refine done_ (g5z HT_.1 (by kernel_rfl)) ?_
              try go_wp2
              have n0_:=a0z.mk (Kd.a5z HO_3.1)
              have n1_:=a0z.mk (a9z BK107.1)
              have n2_:=a0z.mk (a2z HB.1)
              clear HO_3
              clear BK107
              clear HB
              have HO_3:=n0_
              have BK107:=n1_
              have HB:=n2_
              clear n0_ n1_ n2_
              have q28 : (x6_2 : Int) ≤ ((x3_1.length : Int) : Int):=of_decide_eq_true (by first|(with_reducible assumption)|assumption)
              obtain ⟨i028,hi028,_,hsz28,_⟩:=info_parts info63
              have hroom28 : x3_1.length ≤ co26:=(Kd.b4z HO_3.1).2.1
              have hC28 : Kd.C k63 _ (some ad108) x3_1.length x3_1:=(Kd.b4z HO_3.1).2.2
              have hcut28:=cut_to (P:=Try.prog) 41 63 .i64 Try.underlying41 hi028 (some ad108) x3_1.length co26 x6_2 (of_decide_eq_true (by first|(with_reducible assumption)|assumption)) q28 hroom28
              have hr28:=Kd.C_take (m:=(x6_2 : Int).toNat) hC28 (by omega)
              have hy28 : y112.length = (x6_2 : Int).toNat:=(by rw [Ny112.1,List.length_take];omega)
              rw [← Ny112.1] at hr28
              rw [← hy28] at hcut28
              have HR115:=a0z.mk hr28
              have HC115:=a0z.mk (show y112.length ≤ co26 from by omega)
              clear hr28 hC28 hroom28 hi028 hsz28
              have KY28:=a0z.mk hy28
              clear hy28
              have KL28:=a0z.mk (show (x6_2 : Int).toNat ≤ x3_1.length from by omega)
              replace q28:=eq_true q28
              have q29 : (x6_2 : Int) ≤ ((x3_1.length : Int) : Int):=of_decide_eq_true (by first|(with_reducible assumption)|assumption)
              obtain ⟨i029,hi029,_,hsz29,_⟩:=info_parts info63
              have hroom29 : x3_1.length ≤ co26:=(Kd.b4z HO_3.1).2.1
              have hC29 : Kd.C k63 _ (some ad108) x3_1.length x3_1:=(Kd.b4z HO_3.1).2.2
              have q029 : (0 : Int) ≤ (x6_2 : Int):=of_decide_eq_true (by first|(with_reducible assumption)|assumption)
              have hcut29:=cut_from (P:=Try.prog) 41 63 .i64 Try.underlying41 hi029 2 hsz29 (some ad108) x3_1.length co26 x6_2 q029 q29
              have hr29:=Kd.C_drop (m:=(x6_2 : Int).toNat) (c:=co26) hC29 (by omega) hroom29
              obtain ⟨A29,hA29⟩ : ∃ A1,A1 = (if co26 = (x6_2 : Int).toNat then (some ad108) else ((some ad108) : Option Addr).map (·.add ((x6_2 : Int).toNat * 2))):=⟨_,rfl⟩
              obtain ⟨c29,hc29⟩ : ∃ c1,c1 = co26 - (x6_2 : Int).toNat:=⟨_,rfl⟩
              have hy29 : y125.length = x3_1.length - (x6_2 : Int).toNat:=(by rw [Ny125.1,List.length_drop] <;> omega)
              rw [show (x3_1).drop (x6_2 : Int).toNat = y125 from Ny125.1.symm] at hr29
              replace hr29 : Kd.C k63 _ A29 y125.length y125:=(by rw [hA29];exact hr29)
              rw [← hy29,← hA29,← hc29] at hcut29
              have HR128:=a0z.mk hr29
              have HC128:=a0z.mk (show y125.length ≤ c29 from by rw [hy29,hc29];exact Nat.sub_le_sub_right hroom29 _)
              clear hr29 hC29 hroom29 hi029 hsz29 hc29
              have KY29:=a0z.mk hy29
              have KA29:=a0z.mk hA29
              clear hy29 hA29
              have KL29:=a0z.mk (show (x6_2 : Int).toNat ≤ x3_1.length from by omega)
              replace q29:=eq_true q29
              refine g9z (n:=13) (S:=fun w' => w'.cell? ⟨gb107,0,none⟩ = some (.int .i64 ((b6z l0 x4_1).f0)) ∧ w'.cell? ⟨gb107,1,none⟩ = some (.int .i64 t106)) (ds:=[]) #[false,false,false,false,false,false,false,false,false,false,false,false,false] (by kernel_rfl) rfl rfl ⟨(b2z BK107.1 0).trans rfl,(b2z BK107.1 1).trans rfl⟩ (fun hHeld => ?_);refine f8z spec_l2Spans.tab9 spec_l2Spans.bits9 (fun HT_ HW_ => ?_)
              generalize w25.drew = w27 at HO_3 BK107 HB HR115 HR128 hHeld ⊢
              refine pure_ (i:=1) (N:=some 45) (v:=?_) (a':=?_) #[false,true,false,false,false,false,false,false,false,false,false,false,false] rfl rfl (c0z HT_.1 (by kernel_rfl)) (fun _ _ _ h => h) (Or.inl ⟨by rfl,?_⟩) ?_ ?_
              rotate_left
              ·intro w'
               go_simp
               with_reducible rfl
              rotate_left
              ·simp only [Act.put,sA_,sZ_,sS_,i64_w,i32_w]
               rfl
              refine pure_ (i:=2) (N:=some 46) (v:=?_) (a':=?_) #[false,true,true,false,false,false,false,false,false,false,false,false,false] rfl rfl (c0z HT_.1 (by kernel_rfl)) (fun _ _ _ h => h) (Or.inl ⟨by rfl,?_⟩) ?_ ?_
              rotate_left
              ·intro w'
               go_simp
               with_reducible rfl
              rotate_left
              ·simp only [Act.put,sA_,sZ_,sS_,i64_w,i32_w]
               rfl
              refine pure_ (i:=3) (N:=some 47) (v:=?_) (a':=?_) #[false,true,true,true,false,false,false,false,false,false,false,false,false] rfl rfl (c0z HT_.1 (by kernel_rfl)) (fun _ _ _ h => h) (Or.inl ⟨by rfl,?_⟩) ?_ ?_
              rotate_left
              ·intro w'
               go_simp
               with_reducible rfl
              rotate_left
              ·simp only [Act.put,sA_,sZ_,sS_,i64_w,i32_w]
               rfl
              refine pure_ (i:=8) (N:=some 52) (v:=?_) (a':=?_) #[false,true,true,true,false,false,false,false,true,false,false,false,false] rfl rfl (c0z HT_.1 (by kernel_rfl)) (fun _ _ _ h => h) (Or.inl ⟨by rfl,?_⟩) ?_ ?_
              rotate_left
              ·intro w'
               go_simp
               with_reducible rfl
              rotate_left
              ·simp only [Act.put,sA_,sZ_,sS_,i64_w,i32_w]
               rfl
              refine pure_ (i:=9) (N:=some 53) (v:=?_) (a':=?_) #[false,true,true,true,false,false,false,false,true,true,false,false,false] rfl rfl (c0z HT_.1 (by kernel_rfl)) (fun _ _ _ h => h) (Or.inl ⟨by rfl,?_⟩) ?_ ?_
              rotate_left
              ·intro w'
               go_simp
               with_reducible rfl
              rotate_left
              ·simp only [Act.put,sA_,sZ_,sS_,i64_w,i32_w]
               rfl
              refine pure_ (i:=10) (N:=some 54) (v:=?_) (a':=?_) #[false,true,true,true,false,false,false,false,true,true,true,false,false] rfl rfl (c0z HT_.1 (by kernel_rfl)) (fun _ _ _ h => h) (Or.inl ⟨by rfl,?_⟩) ?_ ?_
              rotate_left
              ·intro w'
               go_simp
               with_reducible rfl
              rotate_left
              ·simp only [Act.put,sA_,sZ_,sS_,i64_w,i32_w]
               rfl
              refine take_ (i:=5) (N:=some 49) (v:=?_) (a':=?_) #[false,true,true,true,false,true,false,false,true,true,true,false,false] rfl rfl (f3z HT_.1 HW_.1 (by kernel_rfl)) (fun _ _ _ h => h) (Or.inl ⟨by rfl,?_⟩) hHeld ?_ ?_
              rotate_left
              ·rintro w' ⟨s0,s1⟩
               go_simp
               with_reducible rfl
              rotate_left
              ·simp only [Act.put,sA_,sZ_,sS_,i64_w,i32_w]
               rfl
              refine join_ (σ:=Value × Value × Value) 3 #[true,true,true,true,true,true,true,false,true,true,true,false,false] (fun s_ => [(44,s_.1),(48,s_.2.1),(50,s_.2.2)]) (fun s_ w' => (w'.cell? ⟨gb107,0,none⟩ = some (.int .i64 ((b6z l0 x4_1).f0)) ∧ w'.cell? ⟨gb107,1,none⟩ = some (.int .i64 t106)) ∧ (Kd.R k63 63 w' w.heap.size (fun k_ => some k_ ≠ (s_.2.2 : Value).ownBlock ∧ some k_ ≠ (.slice (some ad108) x3_1.length co26 : Value).ownBlock ∧ k_ ≠ gb107) s_.2.1 y116) ∧ (Kd.R k63 63 w' w.heap.size (fun k_ => some k_ ≠ (s_.2.1 : Value).ownBlock ∧ some k_ ≠ (.slice (some ad108) x3_1.length co26 : Value).ownBlock ∧ k_ ≠ gb107) s_.2.2 y119) ∧ (Kd.R k63 63 w' w.heap.size (fun k_ => some k_ ≠ (s_.2.1 : Value).ownBlock ∧ some k_ ≠ (s_.2.2 : Value).ownBlock ∧ k_ ≠ gb107) (.slice (some ad108) x3_1.length co26) x3_1) ∧ (w'.heap[gb107]? = some (.cells #[.int .i64 ((b6z l0 x4_1).f0),.int .i64 t106] 63 (0,0))) ∧ (Kd.C k63 w' (some ad108) y112.length y112) ∧ (Kd.C k63 w' A29 y125.length y125) ∧ (Below w.heap.size w w')) ?_ ?_
              rotate_left
              ·intro hCont
               refine two_ (i:=0) (j:=6) (Ni:=some 44) (Nj:=some 50) #[true,true,true,true,false,true,false,false,true,true,true,false,false] #[false,true,true,true,false,true,true,false,true,true,true,false,false] rfl rfl rfl rfl (two_of HT_.1 (by kernel_rfl)) (by decide) (by decide) (fun K hK => ?_) (fun K hK => ?_)
               ·skip
                refine Kd.h3z k63 _ 63 ?hg (N:=44) ?hd (xs:=([] : List (S63))) (inner:=[]) (ok:=fun _ => True) (okp:=fun _ => True) ?hr ?hp (fun _ hk => hk) trivial (Below.refl _ _) (Nat.le_refl _) (by simp) ?_;(case hd => rfl);(case hg => rfl);(case hr => first|(go_simp;done)|(go_simp;rfl));(case hp => exact (Reps.none _ _))
                intro v110 w30 ho31 hb hg_ hnew_
                clear hg_ hnew_
                (first|rw [← Ny109.1] at ho31|(simp only [Int.reduceToNat] at ho31;rw [← Ny109.1] at ho31))
                have n0_:=a0z.mk (Kd.c4z (by (with_reducible repeat (first|apply Kd.R_alloc|apply Kd.a4z|apply Kd.a5z));exact HO_3.1) (Kd.d1z ho31) hb)
                have n1_:=a0z.mk (Kd.d5z (Kd.R_newB (Kd.d0z ho31 (Kd.R_lt (by (with_reducible repeat (first|apply Kd.R_alloc|apply Kd.a4z|apply Kd.a5z));exact HO_3.1))) (g:=gb107) (o:=.cells #[.int .i64 ((b6z l0 x4_1).f0),.int .i64 t106] 63 (0,0)) (by (with_reducible repeat (first|refine a8z ?_ _|refine a9z ?_|refine a7z ?_ _));exact BK107.1)) (b1z (by repeat (first|(with_reducible first|exact HB.1|apply a3z|apply a1z|apply a2z|refine a6z ?_ GE107.1)|exact HB.1))))
                have n2_:=a0z.mk (d9z (g:=gb107) (o:=.cells #[.int .i64 ((b6z l0 x4_1).f0),.int .i64 t106] 63 (0,0)) (by (with_reducible repeat (first|refine a8z ?_ _|refine a9z ?_|refine a7z ?_ _));exact BK107.1) hb)
                have n3_:=a0z.mk (Kd.f2z (by repeat (first|(with_reducible exact HR115.1)|(with_reducible refine Kd.C_alloc ?_ _)|(with_reducible refine Kd.C_drewN ?_ _)|(with_reducible refine Kd.C_drew ?_)|exact HR115.1)) hb)
                have n4_:=a0z.mk (Kd.f2z (by repeat (first|(with_reducible exact HR128.1)|(with_reducible refine Kd.C_alloc ?_ _)|(with_reducible refine Kd.C_drewN ?_ _)|(with_reducible refine Kd.C_drew ?_)|exact HR128.1)) hb)
                have n5_:=a0z.mk (b3z (by repeat (first|(with_reducible first|exact HB.1|apply a3z|apply a1z|apply a2z|refine a6z ?_ GE107.1)|exact HB.1)) hb)
                clear HO_3
                clear BK107
                clear HR115
                clear HR128
                clear HB
                have HO_3:=n0_
                have HO111:=n1_
                have BK107:=n2_
                have HR115:=n3_
                have HR128:=n4_
                have HB:=n5_
                clear n0_ n1_ n2_ n3_ n4_ n5_
                clear hb ho31
                refine hK.out _ _ ⟨(b2z BK107.1 0).trans rfl,(b2z BK107.1 1).trans rfl⟩ (fun hHeld => ?_)
                clear hK K
                refine norm_ (a':=?_) ?_ ?_
                rotate_left
                ·show Act.put _ (some 44) _ = _
                 simp only [Act.put,sA_,sZ_,sS_,i64_w,i32_w]
                 rfl
                refine two_ (i:=4) (j:=6) (Ni:=some 48) (Nj:=some 50) #[true,true,true,true,true,true,false,false,true,true,true,false,false] #[true,true,true,true,false,true,true,false,true,true,true,false,false] rfl rfl rfl rfl (two_of HT_.1 (by kernel_rfl)) (by decide) (by decide) (fun K hK => ?_) (fun K hK => ?_)
                ·skip
                 refine Kd.f7z k63 (w0:=w) w.heap.size (by rfl) (.tmp 44) (.tmp 47) 41 63 (.agg #[(.int .i64 0),(.int .i64 0)]) 16 rfl Try.underlying41 info63 rfl (by decide) (by omega) v110 y109 y112 _ _ _ (fun k_ => some k_ ≠ (.slice (some ad108) x3_1.length co26 : Value).ownBlock ∧ k_ ≠ gb107) (fun _ => False) rfl rfl ?aO ?aR (fun _ _ h => h) (fun _ h => h.elim) ?aF ?aB ?aS ?aL ?_
                 (case aR => repeat (first|exact (by repeat (first|(with_reducible exact HR115.1)|(with_reducible refine Kd.C_alloc ?_ _)|(with_reducible refine Kd.C_drewN ?_ _)|(with_reducible refine Kd.C_drew ?_)|exact HR115.1))|(with_reducible refine Kd.C_alloc ?_ _)|(with_reducible refine Kd.C_drewN ?_ _)|(with_reducible refine Kd.C_drew ?_)))
                 (case aB => exact (by repeat (first|(with_reducible first|exact HB.1|apply a3z|apply a1z|apply a2z|refine a6z ?_ GE107.1)|exact HB.1)))
                 (case aF => exact (fun k_ hk => ⟨Kd.fresh' (Kd.R_lt (by (with_reducible repeat (first|apply Kd.R_alloc|apply Kd.a4z|apply Kd.a5z));exact HO_3.1)) k_ hk,Kd.freshB (g:=gb107) (o:=.cells #[.int .i64 ((b6z l0 x4_1).f0),.int .i64 t106] 63 (0,0)) (by (with_reducible repeat (first|refine a8z ?_ _|refine a9z ?_|refine a7z ?_ _));exact BK107.1) k_ hk⟩))
                 (case aO => exact (by (with_reducible repeat (first|apply Kd.R_alloc|apply Kd.a4z|apply Kd.a5z));exact Kd.b5z HO111.1 (fun _ hk => ⟨hk.1.2,hk.2⟩)))
                 (case aS => exact (b1z (by repeat (first|(with_reducible first|exact HB.1|apply a3z|apply a1z|apply a2z|refine a6z ?_ GE107.1)|exact HB.1))))
                 (case aL => have:=LMc20.1;omega)
                 intro v117 w32 ho hb hg hat
                 rw [← Ny116.1] at ho
                 have n0_:=a0z.mk (Kd.c9z (ok:=(fun k_ => k_ ≠ gb107)) (by (with_reducible repeat (first|apply Kd.R_alloc|apply Kd.a4z|apply Kd.a5z));exact HO_3.1) hg hat)
                 have n1_:=a0z.mk (f0z (g:=gb107) (o:=.cells #[.int .i64 ((b6z l0 x4_1).f0),.int .i64 t106] 63 (0,0)) (by (with_reducible repeat (first|refine a8z ?_ _|refine a9z ?_|refine a7z ?_ _));exact BK107.1) hg (Kd.h1z HO111.1 (fun _ hk => hk.2)))
                 have n2_:=a0z.mk (hb)
                 have n3_:=a0z.mk ((show Kd.C k63 w32 (some ad108) y112.length y112 from by rw [Ny112.1];exact Kd.C_take (m:=(x6_2 : Int).toNat) ((Kd.b4z (Kd.c9z (ok:=(fun k_ => k_ ≠ gb107)) (by (with_reducible repeat (first|apply Kd.R_alloc|apply Kd.a4z|apply Kd.a5z));exact HO_3.1) hg hat)).2.2) KL28.1))
                 have n4_:=a0z.mk ((show Kd.C k63 w32 A29 y125.length y125 from by rw [Ny125.1,KA29.1];exact Kd.C_drop (m:=(x6_2 : Int).toNat) (c:=co26) ((Kd.b4z (Kd.c9z (ok:=(fun k_ => k_ ≠ gb107)) (by (with_reducible repeat (first|apply Kd.R_alloc|apply Kd.a4z|apply Kd.a5z));exact HO_3.1) hg hat)).2.2) KL29.1 ((Kd.b4z (Kd.c9z (ok:=(fun k_ => k_ ≠ gb107)) (by (with_reducible repeat (first|apply Kd.R_alloc|apply Kd.a4z|apply Kd.a5z));exact HO_3.1) hg hat)).2.1)))
                 have n5_:=a0z.mk (ho)
                 clear HO_3
                 clear BK107
                 clear HB
                 clear HR115
                 clear HR128
                 clear HO111
                 have HO_3:=n0_
                 have BK107:=n1_
                 have HB:=n2_
                 have HR115:=n3_
                 have HR128:=n4_
                 have HO118:=n5_
                 clear n0_ n1_ n2_ n3_ n4_ n5_
                 clear ho hb hg hat
                 refine hK.out _ _ ⟨(b2z BK107.1 0).trans rfl,(b2z BK107.1 1).trans rfl⟩ (fun hHeld => ?_)
                 clear hK K
                 refine norm_ (a':=?_) ?_ ?_
                 rotate_left
                 ·show Act.put _ (some 48) _ = _
                  simp only [Act.put,sA_,sZ_,sS_,i64_w,i32_w]
                  rfl
                 refine one_ (i:=6) (N:=some 50) #[true,true,true,true,true,true,true,false,true,true,true,false,false] rfl rfl (f9z HT_.1 (by kernel_rfl)) (by decide) (fun K hK => ?_)
                 refine Kd.h3z k63 _ 63 ?hg (N:=50) ?hd (xs:=([(⟨((b6z l0 x4_1).f0),t106⟩ : S63)] : List (S63))) (inner:=[.int .i64 ((b6z l0 x4_1).f0),.int .i64 t106]) (ok:=fun _ => True) (okp:=fun _ => True) ?hr ?hp (fun _ hk => hk) trivial (Below.refl _ _) (Nat.le_refl _) (by simp) ?_;(case hd => rfl);(case hg => rfl);(case hr => first|(go_simp;done)|(go_simp;rfl));(case hp => exact (Reps.c2 (show Kd.M k63 _ _ _ (⟨((b6z l0 x4_1).f0),t106⟩ : S63) [.int .i64 ((b6z l0 x4_1).f0),.int .i64 t106] from (h9z _ _ _ (⟨((b6z l0 x4_1).f0),t106⟩ : S63) )) (Reps.none _ _)))
                 intro v120 w33 ho34 hb hg_ hnew_
                 clear hg_ hnew_
                 (first|rw [← Ny119.1] at ho34|(simp only [Int.reduceToNat] at ho34;rw [← Ny119.1] at ho34))
                 have n0_:=a0z.mk (Kd.c4z (by (with_reducible repeat (first|apply Kd.R_alloc|apply Kd.a4z|apply Kd.a5z));exact HO_3.1) (Kd.d1z ho34) hb)
                 have n1_:=a0z.mk (Kd.c4z (by (with_reducible repeat (first|apply Kd.R_alloc|apply Kd.a4z|apply Kd.a5z));exact HO118.1) (Kd.d1z ho34) hb)
                 have n2_:=a0z.mk (Kd.d5z (Kd.R_newB (Kd.d0z (Kd.d0z ho34 (Kd.R_lt (by (with_reducible repeat (first|apply Kd.R_alloc|apply Kd.a4z|apply Kd.a5z));exact HO_3.1))) (Kd.R_lt (by (with_reducible repeat (first|apply Kd.R_alloc|apply Kd.a4z|apply Kd.a5z));exact HO118.1))) (g:=gb107) (o:=.cells #[.int .i64 ((b6z l0 x4_1).f0),.int .i64 t106] 63 (0,0)) (by (with_reducible repeat (first|refine a8z ?_ _|refine a9z ?_|refine a7z ?_ _));exact BK107.1)) (b1z (by repeat (first|(with_reducible first|exact HB.1|apply a3z|apply a1z|apply a2z|refine a6z ?_ GE107.1)|exact HB.1))))
                 have n3_:=a0z.mk (d9z (g:=gb107) (o:=.cells #[.int .i64 ((b6z l0 x4_1).f0),.int .i64 t106] 63 (0,0)) (by (with_reducible repeat (first|refine a8z ?_ _|refine a9z ?_|refine a7z ?_ _));exact BK107.1) hb)
                 have n4_:=a0z.mk (Kd.f2z (by repeat (first|(with_reducible exact HR115.1)|(with_reducible refine Kd.C_alloc ?_ _)|(with_reducible refine Kd.C_drewN ?_ _)|(with_reducible refine Kd.C_drew ?_)|exact HR115.1)) hb)
                 have n5_:=a0z.mk (Kd.f2z (by repeat (first|(with_reducible exact HR128.1)|(with_reducible refine Kd.C_alloc ?_ _)|(with_reducible refine Kd.C_drewN ?_ _)|(with_reducible refine Kd.C_drew ?_)|exact HR128.1)) hb)
                 have n6_:=a0z.mk (b3z (by repeat (first|(with_reducible first|exact HB.1|apply a3z|apply a1z|apply a2z|refine a6z ?_ GE107.1)|exact HB.1)) hb)
                 clear HO_3
                 clear HO118
                 clear BK107
                 clear HR115
                 clear HR128
                 clear HB
                 have HO_3:=n0_
                 have HO118:=n1_
                 have HO121:=n2_
                 have BK107:=n3_
                 have HR115:=n4_
                 have HR128:=n5_
                 have HB:=n6_
                 clear n0_ n1_ n2_ n3_ n4_ n5_ n6_
                 clear hb ho34
                 refine hK.out _ _ ⟨(b2z BK107.1 0).trans rfl,(b2z BK107.1 1).trans rfl⟩ (fun hHeld => ?_)
                 clear hK K
                 refine norm_ (a':=?_) ?_ ?_
                 rotate_left
                 ·show Act.put _ (some 50) _ = _
                  simp only [Act.put,sA_,sZ_,sS_,i64_w,i32_w]
                  rfl
                 exact norm_ (by simp only [putAll,Act.put,sA_,sZ_,sS_]) (hCont (v110,v117,v120) _ ⟨hHeld,(by (with_reducible repeat (first|apply Kd.R_alloc|apply Kd.a4z|apply Kd.a5z));exact Kd.b5z HO118.1 (fun _ hk => ⟨hk.2,⟨hk.1.1,hk.1.2⟩⟩)),(by (with_reducible repeat (first|apply Kd.R_alloc|apply Kd.a4z|apply Kd.a5z));exact Kd.b5z HO121.1 (fun _ hk => ⟨hk.1.2,⟨hk.1.1.2,hk.2⟩⟩)),(by (with_reducible repeat (first|apply Kd.R_alloc|apply Kd.a4z|apply Kd.a5z));exact Kd.b5z HO_3.1 (fun _ hk => ⟨hk.1.2,⟨hk.2,hk.1.1⟩⟩)),(by (with_reducible repeat (first|refine a8z ?_ _|refine a9z ?_|refine a7z ?_ _));exact BK107.1),(by repeat (first|(with_reducible exact HR115.1)|(with_reducible refine Kd.C_alloc ?_ _)|(with_reducible refine Kd.C_drewN ?_ _)|(with_reducible refine Kd.C_drew ?_)|exact HR115.1)),(by repeat (first|(with_reducible exact HR128.1)|(with_reducible refine Kd.C_alloc ?_ _)|(with_reducible refine Kd.C_drewN ?_ _)|(with_reducible refine Kd.C_drew ?_)|exact HR128.1)),(by repeat (first|(with_reducible first|exact HB.1|apply a3z|apply a1z|apply a2z|refine a6z ?_ GE107.1)|exact HB.1))⟩)
                ·skip
                 refine Kd.h3z k63 _ 63 ?hg (N:=50) ?hd (xs:=([(⟨((b6z l0 x4_1).f0),t106⟩ : S63)] : List (S63))) (inner:=[.int .i64 ((b6z l0 x4_1).f0),.int .i64 t106]) (ok:=fun _ => True) (okp:=fun _ => True) ?hr ?hp (fun _ hk => hk) trivial (Below.refl _ _) (Nat.le_refl _) (by simp) ?_;(case hd => rfl);(case hg => rfl);(case hr => first|(go_simp;done)|(go_simp;rfl));(case hp => exact (Reps.c2 (show Kd.M k63 _ _ _ (⟨((b6z l0 x4_1).f0),t106⟩ : S63) [.int .i64 ((b6z l0 x4_1).f0),.int .i64 t106] from (h9z _ _ _ (⟨((b6z l0 x4_1).f0),t106⟩ : S63) )) (Reps.none _ _)))
                 intro v120 w32 ho33 hb hg_ hnew_
                 clear hg_ hnew_
                 (first|rw [← Ny119.1] at ho33|(simp only [Int.reduceToNat] at ho33;rw [← Ny119.1] at ho33))
                 have n0_:=a0z.mk (Kd.c4z (by (with_reducible repeat (first|apply Kd.R_alloc|apply Kd.a4z|apply Kd.a5z));exact HO_3.1) (Kd.d1z ho33) hb)
                 have n1_:=a0z.mk (Kd.c4z (by (with_reducible repeat (first|apply Kd.R_alloc|apply Kd.a4z|apply Kd.a5z));exact HO111.1) (Kd.d1z ho33) hb)
                 have n2_:=a0z.mk (Kd.d5z (Kd.R_newB (Kd.d0z (Kd.d0z ho33 (Kd.R_lt (by (with_reducible repeat (first|apply Kd.R_alloc|apply Kd.a4z|apply Kd.a5z));exact HO_3.1))) (Kd.R_lt (by (with_reducible repeat (first|apply Kd.R_alloc|apply Kd.a4z|apply Kd.a5z));exact HO111.1))) (g:=gb107) (o:=.cells #[.int .i64 ((b6z l0 x4_1).f0),.int .i64 t106] 63 (0,0)) (by (with_reducible repeat (first|refine a8z ?_ _|refine a9z ?_|refine a7z ?_ _));exact BK107.1)) (b1z (by repeat (first|(with_reducible first|exact HB.1|apply a3z|apply a1z|apply a2z|refine a6z ?_ GE107.1)|exact HB.1))))
                 have n3_:=a0z.mk (d9z (g:=gb107) (o:=.cells #[.int .i64 ((b6z l0 x4_1).f0),.int .i64 t106] 63 (0,0)) (by (with_reducible repeat (first|refine a8z ?_ _|refine a9z ?_|refine a7z ?_ _));exact BK107.1) hb)
                 have n4_:=a0z.mk (Kd.f2z (by repeat (first|(with_reducible exact HR115.1)|(with_reducible refine Kd.C_alloc ?_ _)|(with_reducible refine Kd.C_drewN ?_ _)|(with_reducible refine Kd.C_drew ?_)|exact HR115.1)) hb)
                 have n5_:=a0z.mk (Kd.f2z (by repeat (first|(with_reducible exact HR128.1)|(with_reducible refine Kd.C_alloc ?_ _)|(with_reducible refine Kd.C_drewN ?_ _)|(with_reducible refine Kd.C_drew ?_)|exact HR128.1)) hb)
                 have n6_:=a0z.mk (b3z (by repeat (first|(with_reducible first|exact HB.1|apply a3z|apply a1z|apply a2z|refine a6z ?_ GE107.1)|exact HB.1)) hb)
                 clear HO_3
                 clear HO111
                 clear BK107
                 clear HR115
                 clear HR128
                 clear HB
                 have HO_3:=n0_
                 have HO111:=n1_
                 have HO121:=n2_
                 have BK107:=n3_
                 have HR115:=n4_
                 have HR128:=n5_
                 have HB:=n6_
                 clear n0_ n1_ n2_ n3_ n4_ n5_ n6_
                 clear hb ho33
                 refine hK.out _ _ ⟨(b2z BK107.1 0).trans rfl,(b2z BK107.1 1).trans rfl⟩ (fun hHeld => ?_)
                 clear hK K
                 refine norm_ (a':=?_) ?_ ?_
                 rotate_left
                 ·show Act.put _ (some 50) _ = _
                  simp only [Act.put,sA_,sZ_,sS_,i64_w,i32_w]
                  rfl
                 refine one_ (i:=4) (N:=some 48) #[true,true,true,true,true,true,true,false,true,true,true,false,false] rfl rfl (f9z HT_.1 (by kernel_rfl)) (by decide) (fun K hK => ?_)
                 refine Kd.f7z k63 (w0:=w) w.heap.size (by rfl) (.tmp 44) (.tmp 47) 41 63 (.agg #[(.int .i64 0),(.int .i64 0)]) 16 rfl Try.underlying41 info63 rfl (by decide) (by omega) v110 y109 y112 _ _ _ (fun k_ => some k_ ≠ (.slice (some ad108) x3_1.length co26 : Value).ownBlock ∧ some k_ ≠ (v120 : Value).ownBlock ∧ k_ ≠ gb107) (fun _ => False) rfl rfl ?aO ?aR (fun _ _ h => h) (fun _ h => h.elim) ?aF ?aB ?aS ?aL ?_
                 (case aR => repeat (first|exact (by repeat (first|(with_reducible exact HR115.1)|(with_reducible refine Kd.C_alloc ?_ _)|(with_reducible refine Kd.C_drewN ?_ _)|(with_reducible refine Kd.C_drew ?_)|exact HR115.1))|(with_reducible refine Kd.C_alloc ?_ _)|(with_reducible refine Kd.C_drewN ?_ _)|(with_reducible refine Kd.C_drew ?_)))
                 (case aB => exact (by repeat (first|(with_reducible first|exact HB.1|apply a3z|apply a1z|apply a2z|refine a6z ?_ GE107.1)|exact HB.1)))
                 (case aF => exact (fun k_ hk => ⟨Kd.fresh' (Kd.R_lt (by (with_reducible repeat (first|apply Kd.R_alloc|apply Kd.a4z|apply Kd.a5z));exact HO_3.1)) k_ hk,Kd.fresh' (Kd.R_lt (by (with_reducible repeat (first|apply Kd.R_alloc|apply Kd.a4z|apply Kd.a5z));exact HO121.1)) k_ hk,Kd.freshB (g:=gb107) (o:=.cells #[.int .i64 ((b6z l0 x4_1).f0),.int .i64 t106] 63 (0,0)) (by (with_reducible repeat (first|refine a8z ?_ _|refine a9z ?_|refine a7z ?_ _));exact BK107.1) k_ hk⟩))
                 (case aO => exact (by (with_reducible repeat (first|apply Kd.R_alloc|apply Kd.a4z|apply Kd.a5z));exact Kd.b5z HO111.1 (fun _ hk => ⟨hk.1.1.2,⟨hk.2,hk.1.2⟩⟩)))
                 (case aS => exact (b1z (by repeat (first|(with_reducible first|exact HB.1|apply a3z|apply a1z|apply a2z|refine a6z ?_ GE107.1)|exact HB.1))))
                 (case aL => have:=LMc20.1;omega)
                 intro v117 w34 ho hb hg hat
                 rw [← Ny116.1] at ho
                 have n0_:=a0z.mk (Kd.c9z (ok:=(fun k_ => some k_ ≠ (v120 : Value).ownBlock ∧ k_ ≠ gb107)) (by (with_reducible repeat (first|apply Kd.R_alloc|apply Kd.a4z|apply Kd.a5z));exact Kd.b5z HO_3.1 (fun _ hk => ⟨⟨hk.2,hk.1.1⟩,hk.1.2⟩)) hg hat)
                 have n1_:=a0z.mk (f0z (g:=gb107) (o:=.cells #[.int .i64 ((b6z l0 x4_1).f0),.int .i64 t106] 63 (0,0)) (by (with_reducible repeat (first|refine a8z ?_ _|refine a9z ?_|refine a7z ?_ _));exact BK107.1) hg (Kd.h1z HO111.1 (fun _ hk => hk.1.2)))
                 have n2_:=a0z.mk (Kd.c9z (ok:=(fun k_ => some k_ ≠ (.slice (some ad108) x3_1.length co26 : Value).ownBlock ∧ k_ ≠ gb107)) (by (with_reducible repeat (first|apply Kd.R_alloc|apply Kd.a4z|apply Kd.a5z));exact Kd.b5z HO121.1 (fun _ hk => ⟨⟨hk.1.1.2,hk.2⟩,hk.1.2⟩)) hg hat)
                 have n3_:=a0z.mk (hb)
                 have n4_:=a0z.mk ((show Kd.C k63 w34 (some ad108) y112.length y112 from by rw [Ny112.1];exact Kd.C_take (m:=(x6_2 : Int).toNat) ((Kd.b4z (Kd.c9z (ok:=(fun k_ => some k_ ≠ (v120 : Value).ownBlock ∧ k_ ≠ gb107)) (by (with_reducible repeat (first|apply Kd.R_alloc|apply Kd.a4z|apply Kd.a5z));exact Kd.b5z HO_3.1 (fun _ hk => ⟨⟨hk.2,hk.1.1⟩,hk.1.2⟩)) hg hat)).2.2) KL28.1))
                 have n5_:=a0z.mk ((show Kd.C k63 w34 A29 y125.length y125 from by rw [Ny125.1,KA29.1];exact Kd.C_drop (m:=(x6_2 : Int).toNat) (c:=co26) ((Kd.b4z (Kd.c9z (ok:=(fun k_ => some k_ ≠ (v120 : Value).ownBlock ∧ k_ ≠ gb107)) (by (with_reducible repeat (first|apply Kd.R_alloc|apply Kd.a4z|apply Kd.a5z));exact Kd.b5z HO_3.1 (fun _ hk => ⟨⟨hk.2,hk.1.1⟩,hk.1.2⟩)) hg hat)).2.2) KL29.1 ((Kd.b4z (Kd.c9z (ok:=(fun k_ => some k_ ≠ (v120 : Value).ownBlock ∧ k_ ≠ gb107)) (by (with_reducible repeat (first|apply Kd.R_alloc|apply Kd.a4z|apply Kd.a5z));exact Kd.b5z HO_3.1 (fun _ hk => ⟨⟨hk.2,hk.1.1⟩,hk.1.2⟩)) hg hat)).2.1)))
                 have n6_:=a0z.mk (ho)
                 clear HO_3
                 clear BK107
                 clear HO121
                 clear HB
                 clear HR115
                 clear HR128
                 clear HO111
                 have HO_3:=n0_
                 have BK107:=n1_
                 have HO121:=n2_
                 have HB:=n3_
                 have HR115:=n4_
                 have HR128:=n5_
                 have HO118:=n6_
                 clear n0_ n1_ n2_ n3_ n4_ n5_ n6_
                 clear ho hb hg hat
                 refine hK.out _ _ ⟨(b2z BK107.1 0).trans rfl,(b2z BK107.1 1).trans rfl⟩ (fun hHeld => ?_)
                 clear hK K
                 refine norm_ (a':=?_) ?_ ?_
                 rotate_left
                 ·show Act.put _ (some 48) _ = _
                  simp only [Act.put,sA_,sZ_,sS_,i64_w,i32_w]
                  rfl
                 exact norm_ (by simp only [putAll,Act.put,sA_,sZ_,sS_]) (hCont (v110,v117,v120) _ ⟨hHeld,(by (with_reducible repeat (first|apply Kd.R_alloc|apply Kd.a4z|apply Kd.a5z));exact Kd.b5z HO118.1 (fun _ hk => ⟨hk.2.1,⟨hk.1,hk.2.2⟩⟩)),(by (with_reducible repeat (first|apply Kd.R_alloc|apply Kd.a4z|apply Kd.a5z));exact Kd.b5z HO121.1 (fun _ hk => ⟨hk.2,⟨hk.1.1,hk.1.2⟩⟩)),(by (with_reducible repeat (first|apply Kd.R_alloc|apply Kd.a4z|apply Kd.a5z));exact Kd.b5z HO_3.1 (fun _ hk => ⟨hk.2,⟨hk.1.1,hk.1.2⟩⟩)),(by (with_reducible repeat (first|refine a8z ?_ _|refine a9z ?_|refine a7z ?_ _));exact BK107.1),(by repeat (first|(with_reducible exact HR115.1)|(with_reducible refine Kd.C_alloc ?_ _)|(with_reducible refine Kd.C_drewN ?_ _)|(with_reducible refine Kd.C_drew ?_)|exact HR115.1)),(by repeat (first|(with_reducible exact HR128.1)|(with_reducible refine Kd.C_alloc ?_ _)|(with_reducible refine Kd.C_drewN ?_ _)|(with_reducible refine Kd.C_drew ?_)|exact HR128.1)),(by repeat (first|(with_reducible first|exact HB.1|apply a3z|apply a1z|apply a2z|refine a6z ?_ GE107.1)|exact HB.1))⟩)
               ·skip
                refine Kd.h3z k63 _ 63 ?hg (N:=50) ?hd (xs:=([(⟨((b6z l0 x4_1).f0),t106⟩ : S63)] : List (S63))) (inner:=[.int .i64 ((b6z l0 x4_1).f0),.int .i64 t106]) (ok:=fun _ => True) (okp:=fun _ => True) ?hr ?hp (fun _ hk => hk) trivial (Below.refl _ _) (Nat.le_refl _) (by simp) ?_;(case hd => rfl);(case hg => rfl);(case hr => first|(go_simp;done)|(go_simp;rfl));(case hp => exact (Reps.c2 (show Kd.M k63 _ _ _ (⟨((b6z l0 x4_1).f0),t106⟩ : S63) [.int .i64 ((b6z l0 x4_1).f0),.int .i64 t106] from (h9z _ _ _ (⟨((b6z l0 x4_1).f0),t106⟩ : S63) )) (Reps.none _ _)))
                intro v120 w30 ho31 hb hg_ hnew_
                clear hg_ hnew_
                (first|rw [← Ny119.1] at ho31|(simp only [Int.reduceToNat] at ho31;rw [← Ny119.1] at ho31))
                have n0_:=a0z.mk (Kd.c4z (by (with_reducible repeat (first|apply Kd.R_alloc|apply Kd.a4z|apply Kd.a5z));exact HO_3.1) (Kd.d1z ho31) hb)
                have n1_:=a0z.mk (Kd.d5z (Kd.R_newB (Kd.d0z ho31 (Kd.R_lt (by (with_reducible repeat (first|apply Kd.R_alloc|apply Kd.a4z|apply Kd.a5z));exact HO_3.1))) (g:=gb107) (o:=.cells #[.int .i64 ((b6z l0 x4_1).f0),.int .i64 t106] 63 (0,0)) (by (with_reducible repeat (first|refine a8z ?_ _|refine a9z ?_|refine a7z ?_ _));exact BK107.1)) (b1z (by repeat (first|(with_reducible first|exact HB.1|apply a3z|apply a1z|apply a2z|refine a6z ?_ GE107.1)|exact HB.1))))
                have n2_:=a0z.mk (d9z (g:=gb107) (o:=.cells #[.int .i64 ((b6z l0 x4_1).f0),.int .i64 t106] 63 (0,0)) (by (with_reducible repeat (first|refine a8z ?_ _|refine a9z ?_|refine a7z ?_ _));exact BK107.1) hb)
                have n3_:=a0z.mk (Kd.f2z (by repeat (first|(with_reducible exact HR115.1)|(with_reducible refine Kd.C_alloc ?_ _)|(with_reducible refine Kd.C_drewN ?_ _)|(with_reducible refine Kd.C_drew ?_)|exact HR115.1)) hb)
                have n4_:=a0z.mk (Kd.f2z (by repeat (first|(with_reducible exact HR128.1)|(with_reducible refine Kd.C_alloc ?_ _)|(with_reducible refine Kd.C_drewN ?_ _)|(with_reducible refine Kd.C_drew ?_)|exact HR128.1)) hb)
                have n5_:=a0z.mk (b3z (by repeat (first|(with_reducible first|exact HB.1|apply a3z|apply a1z|apply a2z|refine a6z ?_ GE107.1)|exact HB.1)) hb)
                clear HO_3
                clear BK107
                clear HR115
                clear HR128
                clear HB
                have HO_3:=n0_
                have HO121:=n1_
                have BK107:=n2_
                have HR115:=n3_
                have HR128:=n4_
                have HB:=n5_
                clear n0_ n1_ n2_ n3_ n4_ n5_
                clear hb ho31
                refine hK.out _ _ ⟨(b2z BK107.1 0).trans rfl,(b2z BK107.1 1).trans rfl⟩ (fun hHeld => ?_)
                clear hK K
                refine norm_ (a':=?_) ?_ ?_
                rotate_left
                ·show Act.put _ (some 50) _ = _
                 simp only [Act.put,sA_,sZ_,sS_,i64_w,i32_w]
                 rfl
                refine one_ (i:=0) (N:=some 44) #[true,true,true,true,false,true,true,false,true,true,true,false,false] rfl rfl (f9z HT_.1 (by kernel_rfl)) (by decide) (fun K hK => ?_)
                refine Kd.h3z k63 _ 63 ?hg (N:=44) ?hd (xs:=([] : List (S63))) (inner:=[]) (ok:=fun _ => True) (okp:=fun _ => True) ?hr ?hp (fun _ hk => hk) trivial (Below.refl _ _) (Nat.le_refl _) (by simp) ?_;(case hd => rfl);(case hg => rfl);(case hr => first|(go_simp;done)|(go_simp;rfl));(case hp => exact (Reps.none _ _))
                intro v110 w32 ho33 hb hg_ hnew_
                clear hg_ hnew_
                (first|rw [← Ny109.1] at ho33|(simp only [Int.reduceToNat] at ho33;rw [← Ny109.1] at ho33))
                have n0_:=a0z.mk (Kd.c4z (by (with_reducible repeat (first|apply Kd.R_alloc|apply Kd.a4z|apply Kd.a5z));exact HO_3.1) (Kd.d1z ho33) hb)
                have n1_:=a0z.mk (Kd.c4z (by (with_reducible repeat (first|apply Kd.R_alloc|apply Kd.a4z|apply Kd.a5z));exact HO121.1) (Kd.d1z ho33) hb)
                have n2_:=a0z.mk (Kd.d5z (Kd.R_newB (Kd.d0z (Kd.d0z ho33 (Kd.R_lt (by (with_reducible repeat (first|apply Kd.R_alloc|apply Kd.a4z|apply Kd.a5z));exact HO_3.1))) (Kd.R_lt (by (with_reducible repeat (first|apply Kd.R_alloc|apply Kd.a4z|apply Kd.a5z));exact HO121.1))) (g:=gb107) (o:=.cells #[.int .i64 ((b6z l0 x4_1).f0),.int .i64 t106] 63 (0,0)) (by (with_reducible repeat (first|refine a8z ?_ _|refine a9z ?_|refine a7z ?_ _));exact BK107.1)) (b1z (by repeat (first|(with_reducible first|exact HB.1|apply a3z|apply a1z|apply a2z|refine a6z ?_ GE107.1)|exact HB.1))))
                have n3_:=a0z.mk (d9z (g:=gb107) (o:=.cells #[.int .i64 ((b6z l0 x4_1).f0),.int .i64 t106] 63 (0,0)) (by (with_reducible repeat (first|refine a8z ?_ _|refine a9z ?_|refine a7z ?_ _));exact BK107.1) hb)
                have n4_:=a0z.mk (Kd.f2z (by repeat (first|(with_reducible exact HR115.1)|(with_reducible refine Kd.C_alloc ?_ _)|(with_reducible refine Kd.C_drewN ?_ _)|(with_reducible refine Kd.C_drew ?_)|exact HR115.1)) hb)
                have n5_:=a0z.mk (Kd.f2z (by repeat (first|(with_reducible exact HR128.1)|(with_reducible refine Kd.C_alloc ?_ _)|(with_reducible refine Kd.C_drewN ?_ _)|(with_reducible refine Kd.C_drew ?_)|exact HR128.1)) hb)
                have n6_:=a0z.mk (b3z (by repeat (first|(with_reducible first|exact HB.1|apply a3z|apply a1z|apply a2z|refine a6z ?_ GE107.1)|exact HB.1)) hb)
                clear HO_3
                clear HO121
                clear BK107
                clear HR115
                clear HR128
                clear HB
                have HO_3:=n0_
                have HO121:=n1_
                have HO111:=n2_
                have BK107:=n3_
                have HR115:=n4_
                have HR128:=n5_
                have HB:=n6_
                clear n0_ n1_ n2_ n3_ n4_ n5_ n6_
                clear hb ho33
                refine hK.out _ _ ⟨(b2z BK107.1 0).trans rfl,(b2z BK107.1 1).trans rfl⟩ (fun hHeld => ?_)
                clear hK K
                refine norm_ (a':=?_) ?_ ?_
                rotate_left
                ·show Act.put _ (some 44) _ = _
                 simp only [Act.put,sA_,sZ_,sS_,i64_w,i32_w]
                 rfl
                refine one_ (i:=4) (N:=some 48) #[true,true,true,true,true,true,true,false,true,true,true,false,false] rfl rfl (f9z HT_.1 (by kernel_rfl)) (by decide) (fun K hK => ?_)
                refine Kd.f7z k63 (w0:=w) w.heap.size (by rfl) (.tmp 44) (.tmp 47) 41 63 (.agg #[(.int .i64 0),(.int .i64 0)]) 16 rfl Try.underlying41 info63 rfl (by decide) (by omega) v110 y109 y112 _ _ _ (fun k_ => some k_ ≠ (.slice (some ad108) x3_1.length co26 : Value).ownBlock ∧ some k_ ≠ (v120 : Value).ownBlock ∧ k_ ≠ gb107) (fun _ => False) rfl rfl ?aO ?aR (fun _ _ h => h) (fun _ h => h.elim) ?aF ?aB ?aS ?aL ?_
                (case aR => repeat (first|exact (by repeat (first|(with_reducible exact HR115.1)|(with_reducible refine Kd.C_alloc ?_ _)|(with_reducible refine Kd.C_drewN ?_ _)|(with_reducible refine Kd.C_drew ?_)|exact HR115.1))|(with_reducible refine Kd.C_alloc ?_ _)|(with_reducible refine Kd.C_drewN ?_ _)|(with_reducible refine Kd.C_drew ?_)))
                (case aB => exact (by repeat (first|(with_reducible first|exact HB.1|apply a3z|apply a1z|apply a2z|refine a6z ?_ GE107.1)|exact HB.1)))
                (case aF => exact (fun k_ hk => ⟨Kd.fresh' (Kd.R_lt (by (with_reducible repeat (first|apply Kd.R_alloc|apply Kd.a4z|apply Kd.a5z));exact HO_3.1)) k_ hk,Kd.fresh' (Kd.R_lt (by (with_reducible repeat (first|apply Kd.R_alloc|apply Kd.a4z|apply Kd.a5z));exact HO121.1)) k_ hk,Kd.freshB (g:=gb107) (o:=.cells #[.int .i64 ((b6z l0 x4_1).f0),.int .i64 t106] 63 (0,0)) (by (with_reducible repeat (first|refine a8z ?_ _|refine a9z ?_|refine a7z ?_ _));exact BK107.1) k_ hk⟩))
                (case aO => exact (by (with_reducible repeat (first|apply Kd.R_alloc|apply Kd.a4z|apply Kd.a5z));exact Kd.b5z HO111.1 (fun _ hk => ⟨hk.1.1.2,⟨hk.1.2,hk.2⟩⟩)))
                (case aS => exact (b1z (by repeat (first|(with_reducible first|exact HB.1|apply a3z|apply a1z|apply a2z|refine a6z ?_ GE107.1)|exact HB.1))))
                (case aL => have:=LMc20.1;omega)
                intro v117 w34 ho hb hg hat
                rw [← Ny116.1] at ho
                have n0_:=a0z.mk (Kd.c9z (ok:=(fun k_ => some k_ ≠ (v120 : Value).ownBlock ∧ k_ ≠ gb107)) (by (with_reducible repeat (first|apply Kd.R_alloc|apply Kd.a4z|apply Kd.a5z));exact Kd.b5z HO_3.1 (fun _ hk => ⟨⟨hk.1.2,hk.1.1⟩,hk.2⟩)) hg hat)
                have n1_:=a0z.mk (f0z (g:=gb107) (o:=.cells #[.int .i64 ((b6z l0 x4_1).f0),.int .i64 t106] 63 (0,0)) (by (with_reducible repeat (first|refine a8z ?_ _|refine a9z ?_|refine a7z ?_ _));exact BK107.1) hg (Kd.h1z HO111.1 (fun _ hk => hk.2)))
                have n2_:=a0z.mk (Kd.c9z (ok:=(fun k_ => some k_ ≠ (.slice (some ad108) x3_1.length co26 : Value).ownBlock ∧ k_ ≠ gb107)) (by (with_reducible repeat (first|apply Kd.R_alloc|apply Kd.a4z|apply Kd.a5z));exact Kd.b5z HO121.1 (fun _ hk => ⟨⟨hk.1.1.2,hk.1.2⟩,hk.2⟩)) hg hat)
                have n3_:=a0z.mk (hb)
                have n4_:=a0z.mk ((show Kd.C k63 w34 (some ad108) y112.length y112 from by rw [Ny112.1];exact Kd.C_take (m:=(x6_2 : Int).toNat) ((Kd.b4z (Kd.c9z (ok:=(fun k_ => some k_ ≠ (v120 : Value).ownBlock ∧ k_ ≠ gb107)) (by (with_reducible repeat (first|apply Kd.R_alloc|apply Kd.a4z|apply Kd.a5z));exact Kd.b5z HO_3.1 (fun _ hk => ⟨⟨hk.1.2,hk.1.1⟩,hk.2⟩)) hg hat)).2.2) KL28.1))
                have n5_:=a0z.mk ((show Kd.C k63 w34 A29 y125.length y125 from by rw [Ny125.1,KA29.1];exact Kd.C_drop (m:=(x6_2 : Int).toNat) (c:=co26) ((Kd.b4z (Kd.c9z (ok:=(fun k_ => some k_ ≠ (v120 : Value).ownBlock ∧ k_ ≠ gb107)) (by (with_reducible repeat (first|apply Kd.R_alloc|apply Kd.a4z|apply Kd.a5z));exact Kd.b5z HO_3.1 (fun _ hk => ⟨⟨hk.1.2,hk.1.1⟩,hk.2⟩)) hg hat)).2.2) KL29.1 ((Kd.b4z (Kd.c9z (ok:=(fun k_ => some k_ ≠ (v120 : Value).ownBlock ∧ k_ ≠ gb107)) (by (with_reducible repeat (first|apply Kd.R_alloc|apply Kd.a4z|apply Kd.a5z));exact Kd.b5z HO_3.1 (fun _ hk => ⟨⟨hk.1.2,hk.1.1⟩,hk.2⟩)) hg hat)).2.1)))
                have n6_:=a0z.mk (ho)
                clear HO_3
                clear BK107
                clear HO121
                clear HB
                clear HR115
                clear HR128
                clear HO111
                have HO_3:=n0_
                have BK107:=n1_
                have HO121:=n2_
                have HB:=n3_
                have HR115:=n4_
                have HR128:=n5_
                have HO118:=n6_
                clear n0_ n1_ n2_ n3_ n4_ n5_ n6_
                clear ho hb hg hat
                refine hK.out _ _ ⟨(b2z BK107.1 0).trans rfl,(b2z BK107.1 1).trans rfl⟩ (fun hHeld => ?_)
                clear hK K
                refine norm_ (a':=?_) ?_ ?_
                rotate_left
                ·show Act.put _ (some 48) _ = _
                 simp only [Act.put,sA_,sZ_,sS_,i64_w,i32_w]
                 rfl
                exact norm_ (by simp only [putAll,Act.put,sA_,sZ_,sS_]) (hCont (v110,v117,v120) _ ⟨hHeld,(by (with_reducible repeat (first|apply Kd.R_alloc|apply Kd.a4z|apply Kd.a5z));exact Kd.b5z HO118.1 (fun _ hk => ⟨hk.2.1,⟨hk.1,hk.2.2⟩⟩)),(by (with_reducible repeat (first|apply Kd.R_alloc|apply Kd.a4z|apply Kd.a5z));exact Kd.b5z HO121.1 (fun _ hk => ⟨hk.2,⟨hk.1.1,hk.1.2⟩⟩)),(by (with_reducible repeat (first|apply Kd.R_alloc|apply Kd.a4z|apply Kd.a5z));exact Kd.b5z HO_3.1 (fun _ hk => ⟨hk.2,⟨hk.1.1,hk.1.2⟩⟩)),(by (with_reducible repeat (first|refine a8z ?_ _|refine a9z ?_|refine a7z ?_ _));exact BK107.1),(by repeat (first|(with_reducible exact HR115.1)|(with_reducible refine Kd.C_alloc ?_ _)|(with_reducible refine Kd.C_drewN ?_ _)|(with_reducible refine Kd.C_drew ?_)|exact HR115.1)),(by repeat (first|(with_reducible exact HR128.1)|(with_reducible refine Kd.C_alloc ?_ _)|(with_reducible refine Kd.C_drewN ?_ _)|(with_reducible refine Kd.C_drew ?_)|exact HR128.1)),(by repeat (first|(with_reducible first|exact HB.1|apply a3z|apply a1z|apply a2z|refine a6z ?_ GE107.1)|exact HB.1))⟩)
              rintro ⟨v110,v117,v120⟩ w35 ⟨hS_,h0_,h1_,h2_,h3_,h4_,h5_,h6_⟩
              have n0_ : a0z (Kd.R k63 63 w35 w.heap.size (fun k_ => some k_ ≠ (v120 : Value).ownBlock ∧ some k_ ≠ (.slice (some ad108) x3_1.length co26 : Value).ownBlock ∧ k_ ≠ gb107) v117 y116):=⟨h0_⟩
              have n1_ : a0z (Kd.R k63 63 w35 w.heap.size (fun k_ => some k_ ≠ (v117 : Value).ownBlock ∧ some k_ ≠ (.slice (some ad108) x3_1.length co26 : Value).ownBlock ∧ k_ ≠ gb107) v120 y119):=⟨h1_⟩
              have n2_ : a0z (Kd.R k63 63 w35 w.heap.size (fun k_ => some k_ ≠ (v117 : Value).ownBlock ∧ some k_ ≠ (v120 : Value).ownBlock ∧ k_ ≠ gb107) (.slice (some ad108) x3_1.length co26) x3_1):=⟨h2_⟩
              have n3_ : a0z (w35.heap[gb107]? = some (.cells #[.int .i64 ((b6z l0 x4_1).f0),.int .i64 t106] 63 (0,0))):=⟨h3_⟩
              have n4_ : a0z (Kd.C k63 w35 (some ad108) y112.length y112):=⟨h4_⟩
              have n5_ : a0z (Kd.C k63 w35 A29 y125.length y125):=⟨h5_⟩
              have n6_ : a0z (Below w.heap.size w w35):=⟨h6_⟩
              clear HO_3
              clear BK107
              clear HB
              clear h0_ h1_ h2_ h3_ h4_ h5_ h6_
              have HO118:=n0_
              have HO121:=n1_
              have HO_3:=n2_
              have BK107:=n3_
              have HR115:=n4_
              have HR128:=n5_
              have HB:=n6_
              clear n0_ n1_ n2_ n3_ n4_ n5_ n6_
              have hHeld : w35.cell? ⟨gb107,0,none⟩ = some (.int .i64 ((b6z l0 x4_1).f0)) ∧ w35.cell? ⟨gb107,1,none⟩ = some (.int .i64 t106):=hS_
              obtain ⟨Ao37,co37,eo37⟩:=Kd.d3z HO121.1
              (first|subst eo37|(injection eo37 with f1_ f2_ f3_;have f4_:=f1_.symm;have f5_:=f3_.symm;clear f1_ f2_ f3_;subst f4_;subst f5_))
              refine norm_ (a':=?_) ?_ ?_
              rotate_left
              ·simp only [putAll,Act.put,sA_,sZ_,sS_]
               rfl
              refine one_ (i:=7) (N:=some 51) #[true,true,true,true,true,true,true,true,true,true,true,false,false] rfl rfl (f9z HT_.1 (by kernel_rfl)) (by decide) (fun K hK => ?_)
              refine Kd.f7z k63 (w0:=w) w.heap.size (by rfl) (.tmp 48) (.tmp 50) 41 63 (.agg #[(.int .i64 0),(.int .i64 0)]) 16 rfl Try.underlying41 info63 rfl (by decide) (by omega) v117 y116 y119 _ _ _ (fun k_ => some k_ ≠ (.slice (some ad108) x3_1.length co26 : Value).ownBlock ∧ some k_ ≠ (.slice Ao37 y119.length co37 : Value).ownBlock ∧ k_ ≠ gb107) (fun _ => False) rfl rfl ?aO ?aR (fun _ _ h => h) (fun _ h => h.elim) ?aF ?aB ?aS ?aL ?_
              (case aR => repeat (first|exact (Kd.b4z HO121.1).2.2|(with_reducible refine Kd.C_alloc ?_ _)|(with_reducible refine Kd.C_drewN ?_ _)|(with_reducible refine Kd.C_drew ?_)))
              (case aB => exact (by repeat (first|(with_reducible first|exact HB.1|apply a3z|apply a1z|apply a2z|refine a6z ?_ GE107.1)|exact HB.1)))
              (case aF => exact (fun k_ hk => ⟨Kd.fresh' (Kd.R_lt (by (with_reducible repeat (first|apply Kd.R_alloc|apply Kd.a4z|apply Kd.a5z));exact HO_3.1)) k_ hk,Kd.fresh' (Kd.R_lt (by (with_reducible repeat (first|apply Kd.R_alloc|apply Kd.a4z|apply Kd.a5z));exact HO121.1)) k_ hk,Kd.freshB (g:=gb107) (o:=.cells #[.int .i64 ((b6z l0 x4_1).f0),.int .i64 t106] 63 (0,0)) (by (with_reducible repeat (first|refine a8z ?_ _|refine a9z ?_|refine a7z ?_ _));exact BK107.1) k_ hk⟩))
              (case aO => exact (by (with_reducible repeat (first|apply Kd.R_alloc|apply Kd.a4z|apply Kd.a5z));exact Kd.b5z HO118.1 (fun _ hk => ⟨hk.2.1,⟨hk.1,hk.2.2⟩⟩)))
              (case aS => exact (b1z (by repeat (first|(with_reducible first|exact HB.1|apply a3z|apply a1z|apply a2z|refine a6z ?_ GE107.1)|exact HB.1))))
              (case aL => have:=LMc21.1;omega)
              intro v123 w36 ho hb hg hat
              rw [← Ny122.1] at ho
              have n0_:=a0z.mk (Kd.c9z (ok:=(fun k_ => some k_ ≠ (.slice Ao37 y119.length co37 : Value).ownBlock ∧ k_ ≠ gb107)) (by (with_reducible repeat (first|apply Kd.R_alloc|apply Kd.a4z|apply Kd.a5z));exact Kd.b5z HO_3.1 (fun _ hk => ⟨⟨hk.2.1,hk.2.2⟩,hk.1⟩)) hg hat)
              have n1_:=a0z.mk (f0z (g:=gb107) (o:=.cells #[.int .i64 ((b6z l0 x4_1).f0),.int .i64 t106] 63 (0,0)) (by (with_reducible repeat (first|refine a8z ?_ _|refine a9z ?_|refine a7z ?_ _));exact BK107.1) hg (Kd.h1z HO118.1 (fun _ hk => hk.2.2)))
              have n2_:=a0z.mk (Kd.c9z (ok:=(fun k_ => some k_ ≠ (.slice (some ad108) x3_1.length co26 : Value).ownBlock ∧ k_ ≠ gb107)) (by (with_reducible repeat (first|apply Kd.R_alloc|apply Kd.a4z|apply Kd.a5z));exact Kd.b5z HO121.1 (fun _ hk => ⟨⟨hk.2.1,hk.2.2⟩,hk.1⟩)) hg hat)
              have n3_:=a0z.mk (hb)
              have n4_:=a0z.mk ((show Kd.C k63 w36 (some ad108) y112.length y112 from by rw [Ny112.1];exact Kd.C_take (m:=(x6_2 : Int).toNat) ((Kd.b4z (Kd.c9z (ok:=(fun k_ => some k_ ≠ (.slice Ao37 y119.length co37 : Value).ownBlock ∧ k_ ≠ gb107)) (by (with_reducible repeat (first|apply Kd.R_alloc|apply Kd.a4z|apply Kd.a5z));exact Kd.b5z HO_3.1 (fun _ hk => ⟨⟨hk.2.1,hk.2.2⟩,hk.1⟩)) hg hat)).2.2) KL28.1))
              have n5_:=a0z.mk ((show Kd.C k63 w36 A29 y125.length y125 from by rw [Ny125.1,KA29.1];exact Kd.C_drop (m:=(x6_2 : Int).toNat) (c:=co26) ((Kd.b4z (Kd.c9z (ok:=(fun k_ => some k_ ≠ (.slice Ao37 y119.length co37 : Value).ownBlock ∧ k_ ≠ gb107)) (by (with_reducible repeat (first|apply Kd.R_alloc|apply Kd.a4z|apply Kd.a5z));exact Kd.b5z HO_3.1 (fun _ hk => ⟨⟨hk.2.1,hk.2.2⟩,hk.1⟩)) hg hat)).2.2) KL29.1 ((Kd.b4z (Kd.c9z (ok:=(fun k_ => some k_ ≠ (.slice Ao37 y119.length co37 : Value).ownBlock ∧ k_ ≠ gb107)) (by (with_reducible repeat (first|apply Kd.R_alloc|apply Kd.a4z|apply Kd.a5z));exact Kd.b5z HO_3.1 (fun _ hk => ⟨⟨hk.2.1,hk.2.2⟩,hk.1⟩)) hg hat)).2.1)))
              have n6_:=a0z.mk (ho)
              clear HO_3
              clear BK107
              clear HO121
              clear HB
              clear HR115
              clear HR128
              clear HO118
              have HO_3:=n0_
              have BK107:=n1_
              have HO121:=n2_
              have HB:=n3_
              have HR115:=n4_
              have HR128:=n5_
              have HO124:=n6_
              clear n0_ n1_ n2_ n3_ n4_ n5_ n6_
              clear ho hb hg hat
              refine hK.out _ _ ⟨(b2z BK107.1 0).trans rfl,(b2z BK107.1 1).trans rfl⟩ (fun hHeld => ?_)
              clear hK K
              refine norm_ (a':=?_) ?_ ?_
              rotate_left
              ·show Act.put _ (some 51) _ = _
               simp only [Act.put,sA_,sZ_,sS_,i64_w,i32_w]
               rfl
              refine one_ (i:=11) (N:=some 55) #[true,true,true,true,true,true,true,true,true,true,true,true,false] rfl rfl (f9z HT_.1 (by kernel_rfl)) (by decide) (fun K hK => ?_)
              refine Kd.f7z k63 (w0:=w) w.heap.size (by rfl) (.tmp 51) (.tmp 54) 41 63 (.agg #[(.int .i64 0),(.int .i64 0)]) 16 rfl Try.underlying41 info63 rfl (by decide) (by omega) v123 y122 y125 _ _ _ (fun k_ => some k_ ≠ (.slice (some ad108) x3_1.length co26 : Value).ownBlock ∧ some k_ ≠ (.slice Ao37 y119.length co37 : Value).ownBlock ∧ k_ ≠ gb107) (fun _ => False) rfl rfl ?aO ?aR (fun _ _ h => h) (fun _ h => h.elim) ?aF ?aB ?aS ?aL ?_
              (case aR => repeat (first|exact (by repeat (first|(with_reducible exact HR128.1)|(with_reducible refine Kd.C_alloc ?_ _)|(with_reducible refine Kd.C_drewN ?_ _)|(with_reducible refine Kd.C_drew ?_)|exact HR128.1))|(with_reducible refine Kd.C_alloc ?_ _)|(with_reducible refine Kd.C_drewN ?_ _)|(with_reducible refine Kd.C_drew ?_)))
              (case aB => exact (by repeat (first|(with_reducible first|exact HB.1|apply a3z|apply a1z|apply a2z|refine a6z ?_ GE107.1)|exact HB.1)))
              (case aF => exact (fun k_ hk => ⟨Kd.fresh' (Kd.R_lt (by (with_reducible repeat (first|apply Kd.R_alloc|apply Kd.a4z|apply Kd.a5z));exact HO_3.1)) k_ hk,Kd.fresh' (Kd.R_lt (by (with_reducible repeat (first|apply Kd.R_alloc|apply Kd.a4z|apply Kd.a5z));exact HO121.1)) k_ hk,Kd.freshB (g:=gb107) (o:=.cells #[.int .i64 ((b6z l0 x4_1).f0),.int .i64 t106] 63 (0,0)) (by (with_reducible repeat (first|refine a8z ?_ _|refine a9z ?_|refine a7z ?_ _));exact BK107.1) k_ hk⟩))
              (case aO => exact (by (with_reducible repeat (first|apply Kd.R_alloc|apply Kd.a4z|apply Kd.a5z));exact HO124.1))
              (case aS => exact (b1z (by repeat (first|(with_reducible first|exact HB.1|apply a3z|apply a1z|apply a2z|refine a6z ?_ GE107.1)|exact HB.1))))
              (case aL => have:=LMc24.1;omega)
              intro v130 w38 ho hb hg hat
              rw [← Ny129.1] at ho
              have n0_:=a0z.mk (Kd.c9z (ok:=(fun k_ => some k_ ≠ (.slice Ao37 y119.length co37 : Value).ownBlock ∧ k_ ≠ gb107)) (by (with_reducible repeat (first|apply Kd.R_alloc|apply Kd.a4z|apply Kd.a5z));exact HO_3.1) hg hat)
              have n1_:=a0z.mk (f0z (g:=gb107) (o:=.cells #[.int .i64 ((b6z l0 x4_1).f0),.int .i64 t106] 63 (0,0)) (by (with_reducible repeat (first|refine a8z ?_ _|refine a9z ?_|refine a7z ?_ _));exact BK107.1) hg (Kd.h1z HO124.1 (fun _ hk => hk.2.2)))
              have n2_:=a0z.mk (Kd.c9z (ok:=(fun k_ => some k_ ≠ (.slice (some ad108) x3_1.length co26 : Value).ownBlock ∧ k_ ≠ gb107)) (by (with_reducible repeat (first|apply Kd.R_alloc|apply Kd.a4z|apply Kd.a5z));exact HO121.1) hg hat)
              have n3_:=a0z.mk (hb)
              have n4_:=a0z.mk ((show Kd.C k63 w38 (some ad108) y112.length y112 from by rw [Ny112.1];exact Kd.C_take (m:=(x6_2 : Int).toNat) ((Kd.b4z (Kd.c9z (ok:=(fun k_ => some k_ ≠ (.slice Ao37 y119.length co37 : Value).ownBlock ∧ k_ ≠ gb107)) (by (with_reducible repeat (first|apply Kd.R_alloc|apply Kd.a4z|apply Kd.a5z));exact HO_3.1) hg hat)).2.2) KL28.1))
              have n5_:=a0z.mk ((show Kd.C k63 w38 A29 y125.length y125 from by rw [Ny125.1,KA29.1];exact Kd.C_drop (m:=(x6_2 : Int).toNat) (c:=co26) ((Kd.b4z (Kd.c9z (ok:=(fun k_ => some k_ ≠ (.slice Ao37 y119.length co37 : Value).ownBlock ∧ k_ ≠ gb107)) (by (with_reducible repeat (first|apply Kd.R_alloc|apply Kd.a4z|apply Kd.a5z));exact HO_3.1) hg hat)).2.2) KL29.1 ((Kd.b4z (Kd.c9z (ok:=(fun k_ => some k_ ≠ (.slice Ao37 y119.length co37 : Value).ownBlock ∧ k_ ≠ gb107)) (by (with_reducible repeat (first|apply Kd.R_alloc|apply Kd.a4z|apply Kd.a5z));exact HO_3.1) hg hat)).2.1)))
              have n6_:=a0z.mk (ho)
              clear HO_3
              clear BK107
              clear HO121
              clear HB
              clear HR115
              clear HR128
              clear HO124
              have HO_3:=n0_
              have BK107:=n1_
              have HO121:=n2_
              have HB:=n3_
              have HR115:=n4_
              have HR128:=n5_
              have HO131:=n6_
              clear n0_ n1_ n2_ n3_ n4_ n5_ n6_
              clear ho hb hg hat
              refine hK.out _ _ ⟨(b2z BK107.1 0).trans rfl,(b2z BK107.1 1).trans rfl⟩ (fun hHeld => ?_)
              clear hK K
              refine norm_ (a':=?_) ?_ ?_
              rotate_left
              ·show Act.put _ (some 55) _ = _
               simp only [Act.put,sA_,sZ_,sS_,i64_w,i32_w]
               rfl
              refine pure_ (i:=12) (N:=some 3) (v:=?_) (a':=?_) #[true,true,true,true,true,true,true,true,true,true,true,true,true] rfl rfl (c0z HT_.1 (by kernel_rfl)) (fun _ _ _ h => h) (Or.inl ⟨by rfl,?_⟩) ?_ ?_
              rotate_left
              ·intro w'
               go_simp
               with_reducible rfl
              rotate_left
              ·simp only [Act.put,sA_,sZ_,sS_,i64_w,i32_w]
               rfl
              refine done_ (g5z HT_.1 (by kernel_rfl)) ?_
              try go_wp2
              go_roundg k2
              case measure => have:=HK1.1;have:=HK2.1;omega
              case rel => exact ⟨(y129),(wrap64 (x4_1 + 1)),(by first|rfl|(simp;done)|(simp [*];done)),H',⟨by have:=HK1.1;have:=HK2.1;omega⟩,⟨by (with_reducible repeat (first|apply Kd.R_alloc|apply Kd.a4z|apply Kd.a5z));exact Kd.b5z HO131.1 (fun _ hk => trivial)⟩,⟨by repeat (first|(with_reducible first|exact HB.1|apply a3z|apply a1z|apply a2z|refine a6z ?_ GE107.1)|exact HB.1)⟩⟩
             ·rw [if_neg c24] at H
              exact absurd H (by simp)
            ·rw [if_neg c21] at H
             exact absurd H (by simp)
           ·rw [if_neg c20] at H
            exact absurd H (by simp)
          ·rw [if_neg c19] at H
           exact absurd H (by simp)
        ·rw [if_neg c14] at H
         exact absurd H (by simp)
       ·rw [if_neg c13] at H
        have c13b0 : decide (x6_2 < (x3_1.length : Int)) = false:=decide_eq_false c13
        clear c13
        obtain ⟨y132,hy132⟩ : ∃ y_ : List (S63),y_ = (([] : List (S63))):=⟨_,rfl⟩
        replace H : (if 0 ≤ x6_2 then (if x6_2 ≤ (x3_1.length : Int) then ((some (x3_1.take (x6_2 : Int).toNat : List (S63))).bind fun y135 => (if y132.length + y135.length < 8796093022208 then ((some (y132 ++ y135 : List (S63))).bind fun y139 => ((some (([(⟨((b6z l0 x4_1).f0),t106⟩ : S63)] : List (S63)) : List (S63))).bind fun y142 => (if y139.length + y142.length < 8796093022208 then ((some (y139 ++ y142 : List (S63))).bind fun y145 => ((some (x3_1.drop (x6_2 : Int).toNat : List (S63))).bind fun y148 => (if y145.length + y148.length < 8796093022208 then (spec_l2Spans.l0 k2 l0 (y145 ++ y148) (wrap64 (x4_1 + 1))) else (none)))) else (none)))) else (none))) else (none)) else (none)) = some r:=by first|(rw [hy132];with_reducible exact H)|(have H2_:=(Option.bind_some _ _).symm.trans H;rw [hy132];with_reducible exact H2_)|(have H2_:=(Option.bind_some _ _).symm.trans H;with_reducible exact H2_)|with_reducible exact H|(rw [hy132];exact H)|exact H
        have Ny132:=a0z.mk hy132
        clear hy132
        by_cases c39 : 0 ≤ x6_2
        ·rw [if_pos c39] at H
         have c39b0:=eq_true c39
         have c39b1 : decide (0 ≤ x6_2) = true:=decide_eq_true c39
         clear c39
         by_cases c40 : x6_2 ≤ (x3_1.length : Int)
         ·rw [if_pos c40] at H
          have c40b0:=eq_true c40
          have c40b1 : decide (x6_2 ≤ (x3_1.length : Int)) = true:=decide_eq_true c40
          clear c40
          obtain ⟨y135,hy135⟩ : ∃ y_ : List (S63),y_ = (x3_1.take (x6_2 : Int).toNat):=⟨_,rfl⟩
          replace H : (if y132.length + y135.length < 8796093022208 then ((some (y132 ++ y135 : List (S63))).bind fun y139 => ((some (([(⟨((b6z l0 x4_1).f0),t106⟩ : S63)] : List (S63)) : List (S63))).bind fun y142 => (if y139.length + y142.length < 8796093022208 then ((some (y139 ++ y142 : List (S63))).bind fun y145 => ((some (x3_1.drop (x6_2 : Int).toNat : List (S63))).bind fun y148 => (if y145.length + y148.length < 8796093022208 then (spec_l2Spans.l0 k2 l0 (y145 ++ y148) (wrap64 (x4_1 + 1))) else (none)))) else (none)))) else (none)) = some r:=by first|(rw [hy135];with_reducible exact H)|(have H2_:=(Option.bind_some _ _).symm.trans H;rw [hy135];with_reducible exact H2_)|(have H2_:=(Option.bind_some _ _).symm.trans H;with_reducible exact H2_)|with_reducible exact H|(rw [hy135];exact H)|exact H
          have Ny135:=a0z.mk hy135
          clear hy135
          by_cases c41 : y132.length + y135.length < 8796093022208
          ·rw [if_pos c41] at H
           have LMc41:=a0z.mk c41
           clear c41
           obtain ⟨y139,hy139⟩ : ∃ y_ : List (S63),y_ = (y132 ++ y135):=⟨_,rfl⟩
           replace H : ((some (([(⟨((b6z l0 x4_1).f0),t106⟩ : S63)] : List (S63)) : List (S63))).bind fun y142 => (if y139.length + y142.length < 8796093022208 then ((some (y139 ++ y142 : List (S63))).bind fun y145 => ((some (x3_1.drop (x6_2 : Int).toNat : List (S63))).bind fun y148 => (if y145.length + y148.length < 8796093022208 then (spec_l2Spans.l0 k2 l0 (y145 ++ y148) (wrap64 (x4_1 + 1))) else (none)))) else (none))) = some r:=by first|(rw [hy139];with_reducible exact H)|(have H2_:=(Option.bind_some _ _).symm.trans H;rw [hy139];with_reducible exact H2_)|(have H2_:=(Option.bind_some _ _).symm.trans H;with_reducible exact H2_)|with_reducible exact H|(rw [hy139];exact H)|exact H
           have Ny139:=a0z.mk hy139
           clear hy139
           obtain ⟨y142,hy142⟩ : ∃ y_ : List (S63),y_ = (([(⟨((b6z l0 x4_1).f0),t106⟩ : S63)] : List (S63))):=⟨_,rfl⟩
           replace H : (if y139.length + y142.length < 8796093022208 then ((some (y139 ++ y142 : List (S63))).bind fun y145 => ((some (x3_1.drop (x6_2 : Int).toNat : List (S63))).bind fun y148 => (if y145.length + y148.length < 8796093022208 then (spec_l2Spans.l0 k2 l0 (y145 ++ y148) (wrap64 (x4_1 + 1))) else (none)))) else (none)) = some r:=by first|(rw [hy142];with_reducible exact H)|(have H2_:=(Option.bind_some _ _).symm.trans H;rw [hy142];with_reducible exact H2_)|(have H2_:=(Option.bind_some _ _).symm.trans H;with_reducible exact H2_)|with_reducible exact H|(rw [hy142];exact H)|exact H
           have Ny142:=a0z.mk hy142
           clear hy142
           by_cases c42 : y139.length + y142.length < 8796093022208
           ·rw [if_pos c42] at H
            have LMc42:=a0z.mk c42
            clear c42
            obtain ⟨y145,hy145⟩ : ∃ y_ : List (S63),y_ = (y139 ++ y142):=⟨_,rfl⟩
            replace H : ((some (x3_1.drop (x6_2 : Int).toNat : List (S63))).bind fun y148 => (if y145.length + y148.length < 8796093022208 then (spec_l2Spans.l0 k2 l0 (y145 ++ y148) (wrap64 (x4_1 + 1))) else (none))) = some r:=by first|(rw [hy145];with_reducible exact H)|(have H2_:=(Option.bind_some _ _).symm.trans H;rw [hy145];with_reducible exact H2_)|(have H2_:=(Option.bind_some _ _).symm.trans H;with_reducible exact H2_)|with_reducible exact H|(rw [hy145];exact H)|exact H
            have Ny145:=a0z.mk hy145
            clear hy145
            have c43b0:=eq_true (of_decide_eq_true (by first|(with_reducible assumption)|assumption) : 0 ≤ x6_2)
            have c44b0:=eq_true (of_decide_eq_true (by first|(with_reducible assumption)|assumption) : x6_2 ≤ (x3_1.length : Int))
            obtain ⟨y148,hy148⟩ : ∃ y_ : List (S63),y_ = (x3_1.drop (x6_2 : Int).toNat):=⟨_,rfl⟩
            replace H : (if y145.length + y148.length < 8796093022208 then (spec_l2Spans.l0 k2 l0 (y145 ++ y148) (wrap64 (x4_1 + 1))) else (none)) = some r:=by first|(rw [hy148];with_reducible exact H)|(have H2_:=(Option.bind_some _ _).symm.trans H;rw [hy148];with_reducible exact H2_)|(have H2_:=(Option.bind_some _ _).symm.trans H;with_reducible exact H2_)|with_reducible exact H|(rw [hy148];exact H)|exact H
            have Ny148:=a0z.mk hy148
            clear hy148
            by_cases c45 : y145.length + y148.length < 8796093022208
            ·rw [if_pos c45] at H
             have LMc45:=a0z.mk c45
             clear c45
             obtain ⟨y152,hy152⟩ : ∃ y_ : List (S63),y_ = (y145 ++ y148):=⟨_,rfl⟩
             replace H : (spec_l2Spans.l0 k2 l0 y152 (wrap64 (x4_1 + 1))) = some r:=by first|(rw [hy152];with_reducible exact H)|(have H2_:=(Option.bind_some _ _).symm.trans H;rw [hy152];with_reducible exact H2_)|(have H2_:=(Option.bind_some _ _).symm.trans H;with_reducible exact H2_)|with_reducible exact H|(rw [hy152];exact H)|exact H
             have Ny152:=a0z.mk hy152
             clear hy152
             have H':=a0z.mk H
             clear H
             try go_wp2
             have n0_:=a0z.mk (Kd.a5z HO_3.1)
             have n1_:=a0z.mk (a9z BK107.1)
             have n2_:=a0z.mk (a2z HB.1)
             clear HO_3
             clear BK107
             clear HB
             have HO_3:=n0_
             have BK107:=n1_
             have HB:=n2_
             clear n0_ n1_ n2_
             obtain ⟨Ao47,co47,eo47⟩:=Kd.d3z HO_3.1
             (first|subst eo47|(injection eo47 with f1_ f2_ f3_;have f4_:=f1_.symm;have f5_:=f3_.symm;clear f1_ f2_ f3_;subst f4_;subst f5_))
             refine g9z (n:=14) (S:=fun w' => True) (ds:=[]) #[false,false,false,false,false,false,false,false,false,false,false,false,false,false] (by kernel_rfl) rfl rfl trivial (fun hHeld => ?_);refine f8z spec_l2Spans.tab7 spec_l2Spans.bits7 (fun HT_ HW_ => ?_)
             generalize wr.drew = w46 at HO_3 BK107 HB hHeld ⊢
             refine pure_ (i:=0) (N:=some 28) (v:=?_) (a':=?_) #[true,false,false,false,false,false,false,false,false,false,false,false,false,false] rfl rfl (c0z HT_.1 (by kernel_rfl)) (fun _ _ _ h => h) (Or.inl ⟨by rfl,?_⟩) ?_ ?_
             rotate_left
             ·intro w'
              go_simp
              with_reducible rfl
             rotate_left
             ·simp only [Act.put,sA_,sZ_,sS_,i64_w,i32_w]
              rfl
             refine pure_ (i:=1) (N:=some 29) (v:=?_) (a':=?_) #[true,true,false,false,false,false,false,false,false,false,false,false,false,false] rfl rfl (c0z HT_.1 (by kernel_rfl)) (fun _ _ _ h => h) (Or.inl ⟨by rfl,?_⟩) ?_ ?_
             rotate_left
             ·intro w'
              go_simp
              with_reducible rfl
             rotate_left
             ·simp only [Act.put,sA_,sZ_,sS_,i64_w,i32_w]
              rfl
             refine pure_ (i:=2) (N:=some 30) (v:=?_) (a':=?_) #[true,true,true,false,false,false,false,false,false,false,false,false,false,false] rfl rfl (c0z HT_.1 (by kernel_rfl)) (fun _ _ _ h => h) (Or.inl ⟨by rfl,?_⟩) ?_ ?_
             rotate_left
             ·intro w'
              go_simp
              with_reducible rfl
             rotate_left
             ·simp only [Act.put,sA_,sZ_,sS_,i64_w,i32_w]
              rfl
             refine pure_ (i:=3) (N:=some 31) (v:=?_) (a':=?_) #[true,true,true,true,false,false,false,false,false,false,false,false,false,false] rfl rfl (c0z HT_.1 (by kernel_rfl)) (fun _ _ _ h => h) (Or.inl ⟨by rfl,?_⟩) ?_ ?_
             rotate_left
             ·intro w'
              go_simp
              with_reducible rfl
             rotate_left
             ·simp only [Act.put,sA_,sZ_,sS_,i64_w,i32_w]
              rfl
             refine pure_ (i:=4) (N:=some 32) (v:=?_) (a':=?_) #[true,true,true,true,true,false,false,false,false,false,false,false,false,false] rfl rfl (c0z HT_.1 (by kernel_rfl)) (fun _ _ _ h => h) (Or.inl ⟨by rfl,?_⟩) ?_ ?_
             rotate_left
             ·intro w'
              go_simp
              with_reducible rfl
             rotate_left
             ·simp only [Act.put,sA_,sZ_,sS_,i64_w,i32_w]
              rfl
             refine pure_ (i:=5) (N:=some 33) (v:=undef) (a':=?_) #[true,true,true,true,true,true,false,false,false,false,false,false,false,false] rfl rfl (c0z HT_.1 (by kernel_rfl)) (fun _ _ _ h => h) (Or.inr ⟨by rfl,rfl⟩) ?_ ?_
             rotate_left
             ·simp only [Act.put,sA_,sZ_,sS_,i64_w,i32_w]
              rfl
             refine pure_ (i:=6) (N:=some 34) (v:=undef) (a':=?_) #[true,true,true,true,true,true,true,false,false,false,false,false,false,false] rfl rfl (c0z HT_.1 (by kernel_rfl)) (fun _ _ _ h => h) (Or.inr ⟨by rfl,rfl⟩) ?_ ?_
             rotate_left
             ·simp only [Act.put,sA_,sZ_,sS_,i64_w,i32_w]
              rfl
             refine pure_ (i:=7) (N:=some 35) (v:=undef) (a':=?_) #[true,true,true,true,true,true,true,true,false,false,false,false,false,false] rfl rfl (c0z HT_.1 (by kernel_rfl)) (fun _ _ _ h => h) (Or.inr ⟨by rfl,rfl⟩) ?_ ?_
             rotate_left
             ·simp only [Act.put,sA_,sZ_,sS_,i64_w,i32_w]
              rfl
             refine pure_ (i:=8) (N:=some 36) (v:=undef) (a':=?_) #[true,true,true,true,true,true,true,true,true,false,false,false,false,false] rfl rfl (c0z HT_.1 (by kernel_rfl)) (fun _ _ _ h => h) (Or.inr ⟨by rfl,rfl⟩) ?_ ?_
             rotate_left
             ·simp only [Act.put,sA_,sZ_,sS_,i64_w,i32_w]
              rfl
             refine pure_ (i:=9) (N:=some 37) (v:=undef) (a':=?_) #[true,true,true,true,true,true,true,true,true,true,false,false,false,false] rfl rfl (c0z HT_.1 (by kernel_rfl)) (fun _ _ _ h => h) (Or.inr ⟨by rfl,rfl⟩) ?_ ?_
             rotate_left
             ·simp only [Act.put,sA_,sZ_,sS_,i64_w,i32_w]
              rfl
             refine pure_ (i:=10) (N:=some 38) (v:=undef) (a':=?_) #[true,true,true,true,true,true,true,true,true,true,true,false,false,false] rfl rfl (c0z HT_.1 (by kernel_rfl)) (fun _ _ _ h => h) (Or.inr ⟨by rfl,rfl⟩) ?_ ?_
             rotate_left
             ·simp only [Act.put,sA_,sZ_,sS_,i64_w,i32_w]
              rfl
             refine pure_ (i:=11) (N:=some 39) (v:=undef) (a':=?_) #[true,true,true,true,true,true,true,true,true,true,true,true,false,false] rfl rfl (c0z HT_.1 (by kernel_rfl)) (fun _ _ _ h => h) (Or.inr ⟨by rfl,rfl⟩) ?_ ?_
             rotate_left
             ·simp only [Act.put,sA_,sZ_,sS_,i64_w,i32_w]
              rfl
             refine pure_ (i:=12) (N:=some 40) (v:=undef) (a':=?_) #[true,true,true,true,true,true,true,true,true,true,true,true,true,false] rfl rfl (c0z HT_.1 (by kernel_rfl)) (fun _ _ _ h => h) (Or.inr ⟨by rfl,rfl⟩) ?_ ?_
             rotate_left
             ·simp only [Act.put,sA_,sZ_,sS_,i64_w,i32_w]
              rfl
             refine pure_ (i:=13) (N:=some 41) (v:=?_) (a':=?_) #[true,true,true,true,true,true,true,true,true,true,true,true,true,true] rfl rfl (c0z HT_.1 (by kernel_rfl)) (fun _ _ _ h => h) (Or.inl ⟨by rfl,?_⟩) ?_ ?_
             rotate_left
             ·intro w'
              go_simp
              with_reducible rfl
             rotate_left
             ·simp only [Act.put,sA_,sZ_,sS_,i64_w,i32_w]
              rfl
             refine done_ (g5z HT_.1 (by kernel_rfl)) ?_
             try go_wp2
             have n0_:=a0z.mk (Kd.a5z HO_3.1)
             have n1_:=a0z.mk (a9z BK107.1)
             have n2_:=a0z.mk (a2z HB.1)
             clear HO_3
             clear BK107
             clear HB
             have HO_3:=n0_
             have BK107:=n1_
             have HB:=n2_
             clear n0_ n1_ n2_
             have q49 : (x6_2 : Int) ≤ ((x3_1.length : Int) : Int):=of_decide_eq_true (by first|(with_reducible assumption)|assumption)
             obtain ⟨i049,hi049,_,hsz49,_⟩:=info_parts info63
             have hroom49 : x3_1.length ≤ co47:=(Kd.b4z HO_3.1).2.1
             have hC49 : Kd.C k63 _ Ao47 x3_1.length x3_1:=(Kd.b4z HO_3.1).2.2
             have hcut49:=cut_to (P:=Try.prog) 41 63 .i64 Try.underlying41 hi049 Ao47 x3_1.length co47 x6_2 (of_decide_eq_true (by first|(with_reducible assumption)|assumption)) q49 hroom49
             have hr49:=Kd.C_take (m:=(x6_2 : Int).toNat) hC49 (by omega)
             have hy49 : y135.length = (x6_2 : Int).toNat:=(by rw [Ny135.1,List.length_take];omega)
             rw [← Ny135.1] at hr49
             rw [← hy49] at hcut49
             have HR138:=a0z.mk hr49
             have HC138:=a0z.mk (show y135.length ≤ co47 from by omega)
             clear hr49 hC49 hroom49 hi049 hsz49
             have KY49:=a0z.mk hy49
             clear hy49
             have KL49:=a0z.mk (show (x6_2 : Int).toNat ≤ x3_1.length from by omega)
             replace q49:=eq_true q49
             have q50 : (x6_2 : Int) ≤ ((x3_1.length : Int) : Int):=of_decide_eq_true (by first|(with_reducible assumption)|assumption)
             obtain ⟨i050,hi050,_,hsz50,_⟩:=info_parts info63
             have hroom50 : x3_1.length ≤ co47:=(Kd.b4z HO_3.1).2.1
             have hC50 : Kd.C k63 _ Ao47 x3_1.length x3_1:=(Kd.b4z HO_3.1).2.2
             have q050 : (0 : Int) ≤ (x6_2 : Int):=of_decide_eq_true (by first|(with_reducible assumption)|assumption)
             have hcut50:=cut_from (P:=Try.prog) 41 63 .i64 Try.underlying41 hi050 2 hsz50 Ao47 x3_1.length co47 x6_2 q050 q50
             have hr50:=Kd.C_drop (m:=(x6_2 : Int).toNat) (c:=co47) hC50 (by omega) hroom50
             obtain ⟨A50,hA50⟩ : ∃ A1,A1 = (if co47 = (x6_2 : Int).toNat then Ao47 else (Ao47 : Option Addr).map (·.add ((x6_2 : Int).toNat * 2))):=⟨_,rfl⟩
             obtain ⟨c50,hc50⟩ : ∃ c1,c1 = co47 - (x6_2 : Int).toNat:=⟨_,rfl⟩
             have hy50 : y148.length = x3_1.length - (x6_2 : Int).toNat:=(by rw [Ny148.1,List.length_drop] <;> omega)
             rw [show (x3_1).drop (x6_2 : Int).toNat = y148 from Ny148.1.symm] at hr50
             replace hr50 : Kd.C k63 _ A50 y148.length y148:=(by rw [hA50];exact hr50)
             rw [← hy50,← hA50,← hc50] at hcut50
             have HR151:=a0z.mk hr50
             have HC151:=a0z.mk (show y148.length ≤ c50 from by rw [hy50,hc50];exact Nat.sub_le_sub_right hroom50 _)
             clear hr50 hC50 hroom50 hi050 hsz50 hc50
             have KY50:=a0z.mk hy50
             have KA50:=a0z.mk hA50
             clear hy50 hA50
             have KL50:=a0z.mk (show (x6_2 : Int).toNat ≤ x3_1.length from by omega)
             replace q50:=eq_true q50
             refine g9z (n:=13) (S:=fun w' => w'.cell? ⟨gb107,0,none⟩ = some (.int .i64 ((b6z l0 x4_1).f0)) ∧ w'.cell? ⟨gb107,1,none⟩ = some (.int .i64 t106)) (ds:=[]) #[false,false,false,false,false,false,false,false,false,false,false,false,false] (by kernel_rfl) rfl rfl ⟨(b2z BK107.1 0).trans rfl,(b2z BK107.1 1).trans rfl⟩ (fun hHeld => ?_);refine f8z spec_l2Spans.tab9 spec_l2Spans.bits9 (fun HT_ HW_ => ?_)
             generalize w46.drew = w48 at HO_3 BK107 HB HR138 HR151 hHeld ⊢
             refine pure_ (i:=1) (N:=some 45) (v:=?_) (a':=?_) #[false,true,false,false,false,false,false,false,false,false,false,false,false] rfl rfl (c0z HT_.1 (by kernel_rfl)) (fun _ _ _ h => h) (Or.inl ⟨by rfl,?_⟩) ?_ ?_
             rotate_left
             ·intro w'
              go_simp
              with_reducible rfl
             rotate_left
             ·simp only [Act.put,sA_,sZ_,sS_,i64_w,i32_w]
              rfl
             refine pure_ (i:=2) (N:=some 46) (v:=?_) (a':=?_) #[false,true,true,false,false,false,false,false,false,false,false,false,false] rfl rfl (c0z HT_.1 (by kernel_rfl)) (fun _ _ _ h => h) (Or.inl ⟨by rfl,?_⟩) ?_ ?_
             rotate_left
             ·intro w'
              go_simp
              with_reducible rfl
             rotate_left
             ·simp only [Act.put,sA_,sZ_,sS_,i64_w,i32_w]
              rfl
             refine pure_ (i:=3) (N:=some 47) (v:=?_) (a':=?_) #[false,true,true,true,false,false,false,false,false,false,false,false,false] rfl rfl (c0z HT_.1 (by kernel_rfl)) (fun _ _ _ h => h) (Or.inl ⟨by rfl,?_⟩) ?_ ?_
             rotate_left
             ·intro w'
              go_simp
              with_reducible rfl
             rotate_left
             ·simp only [Act.put,sA_,sZ_,sS_,i64_w,i32_w]
              rfl
             refine pure_ (i:=8) (N:=some 52) (v:=?_) (a':=?_) #[false,true,true,true,false,false,false,false,true,false,false,false,false] rfl rfl (c0z HT_.1 (by kernel_rfl)) (fun _ _ _ h => h) (Or.inl ⟨by rfl,?_⟩) ?_ ?_
             rotate_left
             ·intro w'
              go_simp
              with_reducible rfl
             rotate_left
             ·simp only [Act.put,sA_,sZ_,sS_,i64_w,i32_w]
              rfl
             refine pure_ (i:=9) (N:=some 53) (v:=?_) (a':=?_) #[false,true,true,true,false,false,false,false,true,true,false,false,false] rfl rfl (c0z HT_.1 (by kernel_rfl)) (fun _ _ _ h => h) (Or.inl ⟨by rfl,?_⟩) ?_ ?_
             rotate_left
             ·intro w'
              go_simp
              with_reducible rfl
             rotate_left
             ·simp only [Act.put,sA_,sZ_,sS_,i64_w,i32_w]
              rfl
             refine pure_ (i:=10) (N:=some 54) (v:=?_) (a':=?_) #[false,true,true,true,false,false,false,false,true,true,true,false,false] rfl rfl (c0z HT_.1 (by kernel_rfl)) (fun _ _ _ h => h) (Or.inl ⟨by rfl,?_⟩) ?_ ?_
             rotate_left
             ·intro w'
              go_simp
              with_reducible rfl
             rotate_left
             ·simp only [Act.put,sA_,sZ_,sS_,i64_w,i32_w]
              rfl
             refine take_ (i:=5) (N:=some 49) (v:=?_) (a':=?_) #[false,true,true,true,false,true,false,false,true,true,true,false,false] rfl rfl (f3z HT_.1 HW_.1 (by kernel_rfl)) (fun _ _ _ h => h) (Or.inl ⟨by rfl,?_⟩) hHeld ?_ ?_
             rotate_left
             ·rintro w' ⟨s0,s1⟩
              go_simp
              with_reducible rfl
             rotate_left
             ·simp only [Act.put,sA_,sZ_,sS_,i64_w,i32_w]
              rfl
             refine join_ (σ:=Value × Value × Value) 3 #[true,true,true,true,true,true,true,false,true,true,true,false,false] (fun s_ => [(44,s_.1),(48,s_.2.1),(50,s_.2.2)]) (fun s_ w' => (w'.cell? ⟨gb107,0,none⟩ = some (.int .i64 ((b6z l0 x4_1).f0)) ∧ w'.cell? ⟨gb107,1,none⟩ = some (.int .i64 t106)) ∧ (Kd.R k63 63 w' w.heap.size (fun k_ => some k_ ≠ (s_.2.2 : Value).ownBlock ∧ some k_ ≠ (.slice Ao47 x3_1.length co47 : Value).ownBlock ∧ k_ ≠ gb107) s_.2.1 y139) ∧ (Kd.R k63 63 w' w.heap.size (fun k_ => some k_ ≠ (s_.2.1 : Value).ownBlock ∧ some k_ ≠ (.slice Ao47 x3_1.length co47 : Value).ownBlock ∧ k_ ≠ gb107) s_.2.2 y142) ∧ (Kd.R k63 63 w' w.heap.size (fun k_ => some k_ ≠ (s_.2.1 : Value).ownBlock ∧ some k_ ≠ (s_.2.2 : Value).ownBlock ∧ k_ ≠ gb107) (.slice Ao47 x3_1.length co47) x3_1) ∧ (w'.heap[gb107]? = some (.cells #[.int .i64 ((b6z l0 x4_1).f0),.int .i64 t106] 63 (0,0))) ∧ (Kd.C k63 w' Ao47 y135.length y135) ∧ (Kd.C k63 w' A50 y148.length y148) ∧ (Below w.heap.size w w')) ?_ ?_
             rotate_left
             ·intro hCont
              refine two_ (i:=0) (j:=6) (Ni:=some 44) (Nj:=some 50) #[true,true,true,true,false,true,false,false,true,true,true,false,false] #[false,true,true,true,false,true,true,false,true,true,true,false,false] rfl rfl rfl rfl (two_of HT_.1 (by kernel_rfl)) (by decide) (by decide) (fun K hK => ?_) (fun K hK => ?_)
              ·skip
               refine Kd.h3z k63 _ 63 ?hg (N:=44) ?hd (xs:=([] : List (S63))) (inner:=[]) (ok:=fun _ => True) (okp:=fun _ => True) ?hr ?hp (fun _ hk => hk) trivial (Below.refl _ _) (Nat.le_refl _) (by simp) ?_;(case hd => rfl);(case hg => rfl);(case hr => first|(go_simp;done)|(go_simp;rfl));(case hp => exact (Reps.none _ _))
               intro v133 w51 ho52 hb hg_ hnew_
               clear hg_ hnew_
               (first|rw [← Ny132.1] at ho52|(simp only [Int.reduceToNat] at ho52;rw [← Ny132.1] at ho52))
               have n0_:=a0z.mk (Kd.c4z (by (with_reducible repeat (first|apply Kd.R_alloc|apply Kd.a4z|apply Kd.a5z));exact HO_3.1) (Kd.d1z ho52) hb)
               have n1_:=a0z.mk (Kd.d5z (Kd.R_newB (Kd.d0z ho52 (Kd.R_lt (by (with_reducible repeat (first|apply Kd.R_alloc|apply Kd.a4z|apply Kd.a5z));exact HO_3.1))) (g:=gb107) (o:=.cells #[.int .i64 ((b6z l0 x4_1).f0),.int .i64 t106] 63 (0,0)) (by (with_reducible repeat (first|refine a8z ?_ _|refine a9z ?_|refine a7z ?_ _));exact BK107.1)) (b1z (by repeat (first|(with_reducible first|exact HB.1|apply a3z|apply a1z|apply a2z|refine a6z ?_ GE107.1)|exact HB.1))))
               have n2_:=a0z.mk (d9z (g:=gb107) (o:=.cells #[.int .i64 ((b6z l0 x4_1).f0),.int .i64 t106] 63 (0,0)) (by (with_reducible repeat (first|refine a8z ?_ _|refine a9z ?_|refine a7z ?_ _));exact BK107.1) hb)
               have n3_:=a0z.mk (Kd.f2z (by repeat (first|(with_reducible exact HR138.1)|(with_reducible refine Kd.C_alloc ?_ _)|(with_reducible refine Kd.C_drewN ?_ _)|(with_reducible refine Kd.C_drew ?_)|exact HR138.1)) hb)
               have n4_:=a0z.mk (Kd.f2z (by repeat (first|(with_reducible exact HR151.1)|(with_reducible refine Kd.C_alloc ?_ _)|(with_reducible refine Kd.C_drewN ?_ _)|(with_reducible refine Kd.C_drew ?_)|exact HR151.1)) hb)
               have n5_:=a0z.mk (b3z (by repeat (first|(with_reducible first|exact HB.1|apply a3z|apply a1z|apply a2z|refine a6z ?_ GE107.1)|exact HB.1)) hb)
               clear HO_3
               clear BK107
               clear HR138
               clear HR151
               clear HB
               have HO_3:=n0_
               have HO134:=n1_
               have BK107:=n2_
               have HR138:=n3_
               have HR151:=n4_
               have HB:=n5_
               clear n0_ n1_ n2_ n3_ n4_ n5_
               clear hb ho52
               refine hK.out _ _ ⟨(b2z BK107.1 0).trans rfl,(b2z BK107.1 1).trans rfl⟩ (fun hHeld => ?_)
               clear hK K
               refine norm_ (a':=?_) ?_ ?_
               rotate_left
               ·show Act.put _ (some 44) _ = _
                simp only [Act.put,sA_,sZ_,sS_,i64_w,i32_w]
                rfl
               refine two_ (i:=4) (j:=6) (Ni:=some 48) (Nj:=some 50) #[true,true,true,true,true,true,false,false,true,true,true,false,false] #[true,true,true,true,false,true,true,false,true,true,true,false,false] rfl rfl rfl rfl (two_of HT_.1 (by kernel_rfl)) (by decide) (by decide) (fun K hK => ?_) (fun K hK => ?_)
               ·skip
                refine Kd.f7z k63 (w0:=w) w.heap.size (by rfl) (.tmp 44) (.tmp 47) 41 63 (.agg #[(.int .i64 0),(.int .i64 0)]) 16 rfl Try.underlying41 info63 rfl (by decide) (by omega) v133 y132 y135 _ _ _ (fun k_ => some k_ ≠ (.slice Ao47 x3_1.length co47 : Value).ownBlock ∧ k_ ≠ gb107) (fun _ => False) rfl rfl ?aO ?aR (fun _ _ h => h) (fun _ h => h.elim) ?aF ?aB ?aS ?aL ?_
                (case aR => repeat (first|exact (by repeat (first|(with_reducible exact HR138.1)|(with_reducible refine Kd.C_alloc ?_ _)|(with_reducible refine Kd.C_drewN ?_ _)|(with_reducible refine Kd.C_drew ?_)|exact HR138.1))|(with_reducible refine Kd.C_alloc ?_ _)|(with_reducible refine Kd.C_drewN ?_ _)|(with_reducible refine Kd.C_drew ?_)))
                (case aB => exact (by repeat (first|(with_reducible first|exact HB.1|apply a3z|apply a1z|apply a2z|refine a6z ?_ GE107.1)|exact HB.1)))
                (case aF => exact (fun k_ hk => ⟨Kd.fresh' (Kd.R_lt (by (with_reducible repeat (first|apply Kd.R_alloc|apply Kd.a4z|apply Kd.a5z));exact HO_3.1)) k_ hk,Kd.freshB (g:=gb107) (o:=.cells #[.int .i64 ((b6z l0 x4_1).f0),.int .i64 t106] 63 (0,0)) (by (with_reducible repeat (first|refine a8z ?_ _|refine a9z ?_|refine a7z ?_ _));exact BK107.1) k_ hk⟩))
                (case aO => exact (by (with_reducible repeat (first|apply Kd.R_alloc|apply Kd.a4z|apply Kd.a5z));exact Kd.b5z HO134.1 (fun _ hk => ⟨hk.1.2,hk.2⟩)))
                (case aS => exact (b1z (by repeat (first|(with_reducible first|exact HB.1|apply a3z|apply a1z|apply a2z|refine a6z ?_ GE107.1)|exact HB.1))))
                (case aL => have:=LMc41.1;omega)
                intro v140 w53 ho hb hg hat
                rw [← Ny139.1] at ho
                have n0_:=a0z.mk (Kd.c9z (ok:=(fun k_ => k_ ≠ gb107)) (by (with_reducible repeat (first|apply Kd.R_alloc|apply Kd.a4z|apply Kd.a5z));exact HO_3.1) hg hat)
                have n1_:=a0z.mk (f0z (g:=gb107) (o:=.cells #[.int .i64 ((b6z l0 x4_1).f0),.int .i64 t106] 63 (0,0)) (by (with_reducible repeat (first|refine a8z ?_ _|refine a9z ?_|refine a7z ?_ _));exact BK107.1) hg (Kd.h1z HO134.1 (fun _ hk => hk.2)))
                have n2_:=a0z.mk (hb)
                have n3_:=a0z.mk ((show Kd.C k63 w53 Ao47 y135.length y135 from by rw [Ny135.1];exact Kd.C_take (m:=(x6_2 : Int).toNat) ((Kd.b4z (Kd.c9z (ok:=(fun k_ => k_ ≠ gb107)) (by (with_reducible repeat (first|apply Kd.R_alloc|apply Kd.a4z|apply Kd.a5z));exact HO_3.1) hg hat)).2.2) KL49.1))
                have n4_:=a0z.mk ((show Kd.C k63 w53 A50 y148.length y148 from by rw [Ny148.1,KA50.1];exact Kd.C_drop (m:=(x6_2 : Int).toNat) (c:=co47) ((Kd.b4z (Kd.c9z (ok:=(fun k_ => k_ ≠ gb107)) (by (with_reducible repeat (first|apply Kd.R_alloc|apply Kd.a4z|apply Kd.a5z));exact HO_3.1) hg hat)).2.2) KL50.1 ((Kd.b4z (Kd.c9z (ok:=(fun k_ => k_ ≠ gb107)) (by (with_reducible repeat (first|apply Kd.R_alloc|apply Kd.a4z|apply Kd.a5z));exact HO_3.1) hg hat)).2.1)))
                have n5_:=a0z.mk (ho)
                clear HO_3
                clear BK107
                clear HB
                clear HR138
                clear HR151
                clear HO134
                have HO_3:=n0_
                have BK107:=n1_
                have HB:=n2_
                have HR138:=n3_
                have HR151:=n4_
                have HO141:=n5_
                clear n0_ n1_ n2_ n3_ n4_ n5_
                clear ho hb hg hat
                refine hK.out _ _ ⟨(b2z BK107.1 0).trans rfl,(b2z BK107.1 1).trans rfl⟩ (fun hHeld => ?_)
                clear hK K
                refine norm_ (a':=?_) ?_ ?_
                rotate_left
                ·show Act.put _ (some 48) _ = _
                 simp only [Act.put,sA_,sZ_,sS_,i64_w,i32_w]
                 rfl
                refine one_ (i:=6) (N:=some 50) #[true,true,true,true,true,true,true,false,true,true,true,false,false] rfl rfl (f9z HT_.1 (by kernel_rfl)) (by decide) (fun K hK => ?_)
                refine Kd.h3z k63 _ 63 ?hg (N:=50) ?hd (xs:=([(⟨((b6z l0 x4_1).f0),t106⟩ : S63)] : List (S63))) (inner:=[.int .i64 ((b6z l0 x4_1).f0),.int .i64 t106]) (ok:=fun _ => True) (okp:=fun _ => True) ?hr ?hp (fun _ hk => hk) trivial (Below.refl _ _) (Nat.le_refl _) (by simp) ?_;(case hd => rfl);(case hg => rfl);(case hr => first|(go_simp;done)|(go_simp;rfl));(case hp => exact (Reps.c2 (show Kd.M k63 _ _ _ (⟨((b6z l0 x4_1).f0),t106⟩ : S63) [.int .i64 ((b6z l0 x4_1).f0),.int .i64 t106] from (h9z _ _ _ (⟨((b6z l0 x4_1).f0),t106⟩ : S63) )) (Reps.none _ _)))
                intro v143 w54 ho55 hb hg_ hnew_
                clear hg_ hnew_
                (first|rw [← Ny142.1] at ho55|(simp only [Int.reduceToNat] at ho55;rw [← Ny142.1] at ho55))
                have n0_:=a0z.mk (Kd.c4z (by (with_reducible repeat (first|apply Kd.R_alloc|apply Kd.a4z|apply Kd.a5z));exact HO_3.1) (Kd.d1z ho55) hb)
                have n1_:=a0z.mk (Kd.c4z (by (with_reducible repeat (first|apply Kd.R_alloc|apply Kd.a4z|apply Kd.a5z));exact HO141.1) (Kd.d1z ho55) hb)
                have n2_:=a0z.mk (Kd.d5z (Kd.R_newB (Kd.d0z (Kd.d0z ho55 (Kd.R_lt (by (with_reducible repeat (first|apply Kd.R_alloc|apply Kd.a4z|apply Kd.a5z));exact HO_3.1))) (Kd.R_lt (by (with_reducible repeat (first|apply Kd.R_alloc|apply Kd.a4z|apply Kd.a5z));exact HO141.1))) (g:=gb107) (o:=.cells #[.int .i64 ((b6z l0 x4_1).f0),.int .i64 t106] 63 (0,0)) (by (with_reducible repeat (first|refine a8z ?_ _|refine a9z ?_|refine a7z ?_ _));exact BK107.1)) (b1z (by repeat (first|(with_reducible first|exact HB.1|apply a3z|apply a1z|apply a2z|refine a6z ?_ GE107.1)|exact HB.1))))
                have n3_:=a0z.mk (d9z (g:=gb107) (o:=.cells #[.int .i64 ((b6z l0 x4_1).f0),.int .i64 t106] 63 (0,0)) (by (with_reducible repeat (first|refine a8z ?_ _|refine a9z ?_|refine a7z ?_ _));exact BK107.1) hb)
                have n4_:=a0z.mk (Kd.f2z (by repeat (first|(with_reducible exact HR138.1)|(with_reducible refine Kd.C_alloc ?_ _)|(with_reducible refine Kd.C_drewN ?_ _)|(with_reducible refine Kd.C_drew ?_)|exact HR138.1)) hb)
                have n5_:=a0z.mk (Kd.f2z (by repeat (first|(with_reducible exact HR151.1)|(with_reducible refine Kd.C_alloc ?_ _)|(with_reducible refine Kd.C_drewN ?_ _)|(with_reducible refine Kd.C_drew ?_)|exact HR151.1)) hb)
                have n6_:=a0z.mk (b3z (by repeat (first|(with_reducible first|exact HB.1|apply a3z|apply a1z|apply a2z|refine a6z ?_ GE107.1)|exact HB.1)) hb)
                clear HO_3
                clear HO141
                clear BK107
                clear HR138
                clear HR151
                clear HB
                have HO_3:=n0_
                have HO141:=n1_
                have HO144:=n2_
                have BK107:=n3_
                have HR138:=n4_
                have HR151:=n5_
                have HB:=n6_
                clear n0_ n1_ n2_ n3_ n4_ n5_ n6_
                clear hb ho55
                refine hK.out _ _ ⟨(b2z BK107.1 0).trans rfl,(b2z BK107.1 1).trans rfl⟩ (fun hHeld => ?_)
                clear hK K
                refine norm_ (a':=?_) ?_ ?_
                rotate_left
                ·show Act.put _ (some 50) _ = _
                 simp only [Act.put,sA_,sZ_,sS_,i64_w,i32_w]
                 rfl
                exact norm_ (by simp only [putAll,Act.put,sA_,sZ_,sS_]) (hCont (v133,v140,v143) _ ⟨hHeld,(by (with_reducible repeat (first|apply Kd.R_alloc|apply Kd.a4z|apply Kd.a5z));exact Kd.b5z HO141.1 (fun _ hk => ⟨hk.2,⟨hk.1.1,hk.1.2⟩⟩)),(by (with_reducible repeat (first|apply Kd.R_alloc|apply Kd.a4z|apply Kd.a5z));exact Kd.b5z HO144.1 (fun _ hk => ⟨hk.1.2,⟨hk.1.1.2,hk.2⟩⟩)),(by (with_reducible repeat (first|apply Kd.R_alloc|apply Kd.a4z|apply Kd.a5z));exact Kd.b5z HO_3.1 (fun _ hk => ⟨hk.1.2,⟨hk.2,hk.1.1⟩⟩)),(by (with_reducible repeat (first|refine a8z ?_ _|refine a9z ?_|refine a7z ?_ _));exact BK107.1),(by repeat (first|(with_reducible exact HR138.1)|(with_reducible refine Kd.C_alloc ?_ _)|(with_reducible refine Kd.C_drewN ?_ _)|(with_reducible refine Kd.C_drew ?_)|exact HR138.1)),(by repeat (first|(with_reducible exact HR151.1)|(with_reducible refine Kd.C_alloc ?_ _)|(with_reducible refine Kd.C_drewN ?_ _)|(with_reducible refine Kd.C_drew ?_)|exact HR151.1)),(by repeat (first|(with_reducible first|exact HB.1|apply a3z|apply a1z|apply a2z|refine a6z ?_ GE107.1)|exact HB.1))⟩)
               ·skip
                refine Kd.h3z k63 _ 63 ?hg (N:=50) ?hd (xs:=([(⟨((b6z l0 x4_1).f0),t106⟩ : S63)] : List (S63))) (inner:=[.int .i64 ((b6z l0 x4_1).f0),.int .i64 t106]) (ok:=fun _ => True) (okp:=fun _ => True) ?hr ?hp (fun _ hk => hk) trivial (Below.refl _ _) (Nat.le_refl _) (by simp) ?_;(case hd => rfl);(case hg => rfl);(case hr => first|(go_simp;done)|(go_simp;rfl));(case hp => exact (Reps.c2 (show Kd.M k63 _ _ _ (⟨((b6z l0 x4_1).f0),t106⟩ : S63) [.int .i64 ((b6z l0 x4_1).f0),.int .i64 t106] from (h9z _ _ _ (⟨((b6z l0 x4_1).f0),t106⟩ : S63) )) (Reps.none _ _)))
                intro v143 w53 ho54 hb hg_ hnew_
                clear hg_ hnew_
                (first|rw [← Ny142.1] at ho54|(simp only [Int.reduceToNat] at ho54;rw [← Ny142.1] at ho54))
                have n0_:=a0z.mk (Kd.c4z (by (with_reducible repeat (first|apply Kd.R_alloc|apply Kd.a4z|apply Kd.a5z));exact HO_3.1) (Kd.d1z ho54) hb)
                have n1_:=a0z.mk (Kd.c4z (by (with_reducible repeat (first|apply Kd.R_alloc|apply Kd.a4z|apply Kd.a5z));exact HO134.1) (Kd.d1z ho54) hb)
                have n2_:=a0z.mk (Kd.d5z (Kd.R_newB (Kd.d0z (Kd.d0z ho54 (Kd.R_lt (by (with_reducible repeat (first|apply Kd.R_alloc|apply Kd.a4z|apply Kd.a5z));exact HO_3.1))) (Kd.R_lt (by (with_reducible repeat (first|apply Kd.R_alloc|apply Kd.a4z|apply Kd.a5z));exact HO134.1))) (g:=gb107) (o:=.cells #[.int .i64 ((b6z l0 x4_1).f0),.int .i64 t106] 63 (0,0)) (by (with_reducible repeat (first|refine a8z ?_ _|refine a9z ?_|refine a7z ?_ _));exact BK107.1)) (b1z (by repeat (first|(with_reducible first|exact HB.1|apply a3z|apply a1z|apply a2z|refine a6z ?_ GE107.1)|exact HB.1))))
                have n3_:=a0z.mk (d9z (g:=gb107) (o:=.cells #[.int .i64 ((b6z l0 x4_1).f0),.int .i64 t106] 63 (0,0)) (by (with_reducible repeat (first|refine a8z ?_ _|refine a9z ?_|refine a7z ?_ _));exact BK107.1) hb)
                have n4_:=a0z.mk (Kd.f2z (by repeat (first|(with_reducible exact HR138.1)|(with_reducible refine Kd.C_alloc ?_ _)|(with_reducible refine Kd.C_drewN ?_ _)|(with_reducible refine Kd.C_drew ?_)|exact HR138.1)) hb)
                have n5_:=a0z.mk (Kd.f2z (by repeat (first|(with_reducible exact HR151.1)|(with_reducible refine Kd.C_alloc ?_ _)|(with_reducible refine Kd.C_drewN ?_ _)|(with_reducible refine Kd.C_drew ?_)|exact HR151.1)) hb)
                have n6_:=a0z.mk (b3z (by repeat (first|(with_reducible first|exact HB.1|apply a3z|apply a1z|apply a2z|refine a6z ?_ GE107.1)|exact HB.1)) hb)
                clear HO_3
                clear HO134
                clear BK107
                clear HR138
                clear HR151
                clear HB
                have HO_3:=n0_
                have HO134:=n1_
                have HO144:=n2_
                have BK107:=n3_
                have HR138:=n4_
                have HR151:=n5_
                have HB:=n6_
                clear n0_ n1_ n2_ n3_ n4_ n5_ n6_
                clear hb ho54
                refine hK.out _ _ ⟨(b2z BK107.1 0).trans rfl,(b2z BK107.1 1).trans rfl⟩ (fun hHeld => ?_)
                clear hK K
                refine norm_ (a':=?_) ?_ ?_
                rotate_left
                ·show Act.put _ (some 50) _ = _
                 simp only [Act.put,sA_,sZ_,sS_,i64_w,i32_w]
                 rfl
                refine one_ (i:=4) (N:=some 48) #[true,true,true,true,true,true,true,false,true,true,true,false,false] rfl rfl (f9z HT_.1 (by kernel_rfl)) (by decide) (fun K hK => ?_)
                refine Kd.f7z k63 (w0:=w) w.heap.size (by rfl) (.tmp 44) (.tmp 47) 41 63 (.agg #[(.int .i64 0),(.int .i64 0)]) 16 rfl Try.underlying41 info63 rfl (by decide) (by omega) v133 y132 y135 _ _ _ (fun k_ => some k_ ≠ (.slice Ao47 x3_1.length co47 : Value).ownBlock ∧ some k_ ≠ (v143 : Value).ownBlock ∧ k_ ≠ gb107) (fun _ => False) rfl rfl ?aO ?aR (fun _ _ h => h) (fun _ h => h.elim) ?aF ?aB ?aS ?aL ?_
                (case aR => repeat (first|exact (by repeat (first|(with_reducible exact HR138.1)|(with_reducible refine Kd.C_alloc ?_ _)|(with_reducible refine Kd.C_drewN ?_ _)|(with_reducible refine Kd.C_drew ?_)|exact HR138.1))|(with_reducible refine Kd.C_alloc ?_ _)|(with_reducible refine Kd.C_drewN ?_ _)|(with_reducible refine Kd.C_drew ?_)))
                (case aB => exact (by repeat (first|(with_reducible first|exact HB.1|apply a3z|apply a1z|apply a2z|refine a6z ?_ GE107.1)|exact HB.1)))
                (case aF => exact (fun k_ hk => ⟨Kd.fresh' (Kd.R_lt (by (with_reducible repeat (first|apply Kd.R_alloc|apply Kd.a4z|apply Kd.a5z));exact HO_3.1)) k_ hk,Kd.fresh' (Kd.R_lt (by (with_reducible repeat (first|apply Kd.R_alloc|apply Kd.a4z|apply Kd.a5z));exact HO144.1)) k_ hk,Kd.freshB (g:=gb107) (o:=.cells #[.int .i64 ((b6z l0 x4_1).f0),.int .i64 t106] 63 (0,0)) (by (with_reducible repeat (first|refine a8z ?_ _|refine a9z ?_|refine a7z ?_ _));exact BK107.1) k_ hk⟩))
                (case aO => exact (by (with_reducible repeat (first|apply Kd.R_alloc|apply Kd.a4z|apply Kd.a5z));exact Kd.b5z HO134.1 (fun _ hk => ⟨hk.1.1.2,⟨hk.2,hk.1.2⟩⟩)))
                (case aS => exact (b1z (by repeat (first|(with_reducible first|exact HB.1|apply a3z|apply a1z|apply a2z|refine a6z ?_ GE107.1)|exact HB.1))))
                (case aL => have:=LMc41.1;omega)
                intro v140 w55 ho hb hg hat
                rw [← Ny139.1] at ho
                have n0_:=a0z.mk (Kd.c9z (ok:=(fun k_ => some k_ ≠ (v143 : Value).ownBlock ∧ k_ ≠ gb107)) (by (with_reducible repeat (first|apply Kd.R_alloc|apply Kd.a4z|apply Kd.a5z));exact Kd.b5z HO_3.1 (fun _ hk => ⟨⟨hk.2,hk.1.1⟩,hk.1.2⟩)) hg hat)
                have n1_:=a0z.mk (f0z (g:=gb107) (o:=.cells #[.int .i64 ((b6z l0 x4_1).f0),.int .i64 t106] 63 (0,0)) (by (with_reducible repeat (first|refine a8z ?_ _|refine a9z ?_|refine a7z ?_ _));exact BK107.1) hg (Kd.h1z HO134.1 (fun _ hk => hk.1.2)))
                have n2_:=a0z.mk (Kd.c9z (ok:=(fun k_ => some k_ ≠ (.slice Ao47 x3_1.length co47 : Value).ownBlock ∧ k_ ≠ gb107)) (by (with_reducible repeat (first|apply Kd.R_alloc|apply Kd.a4z|apply Kd.a5z));exact Kd.b5z HO144.1 (fun _ hk => ⟨⟨hk.1.1.2,hk.2⟩,hk.1.2⟩)) hg hat)
                have n3_:=a0z.mk (hb)
                have n4_:=a0z.mk ((show Kd.C k63 w55 Ao47 y135.length y135 from by rw [Ny135.1];exact Kd.C_take (m:=(x6_2 : Int).toNat) ((Kd.b4z (Kd.c9z (ok:=(fun k_ => some k_ ≠ (v143 : Value).ownBlock ∧ k_ ≠ gb107)) (by (with_reducible repeat (first|apply Kd.R_alloc|apply Kd.a4z|apply Kd.a5z));exact Kd.b5z HO_3.1 (fun _ hk => ⟨⟨hk.2,hk.1.1⟩,hk.1.2⟩)) hg hat)).2.2) KL49.1))
                have n5_:=a0z.mk ((show Kd.C k63 w55 A50 y148.length y148 from by rw [Ny148.1,KA50.1];exact Kd.C_drop (m:=(x6_2 : Int).toNat) (c:=co47) ((Kd.b4z (Kd.c9z (ok:=(fun k_ => some k_ ≠ (v143 : Value).ownBlock ∧ k_ ≠ gb107)) (by (with_reducible repeat (first|apply Kd.R_alloc|apply Kd.a4z|apply Kd.a5z));exact Kd.b5z HO_3.1 (fun _ hk => ⟨⟨hk.2,hk.1.1⟩,hk.1.2⟩)) hg hat)).2.2) KL50.1 ((Kd.b4z (Kd.c9z (ok:=(fun k_ => some k_ ≠ (v143 : Value).ownBlock ∧ k_ ≠ gb107)) (by (with_reducible repeat (first|apply Kd.R_alloc|apply Kd.a4z|apply Kd.a5z));exact Kd.b5z HO_3.1 (fun _ hk => ⟨⟨hk.2,hk.1.1⟩,hk.1.2⟩)) hg hat)).2.1)))
                have n6_:=a0z.mk (ho)
                clear HO_3
                clear BK107
                clear HO144
                clear HB
                clear HR138
                clear HR151
                clear HO134
                have HO_3:=n0_
                have BK107:=n1_
                have HO144:=n2_
                have HB:=n3_
                have HR138:=n4_
                have HR151:=n5_
                have HO141:=n6_
                clear n0_ n1_ n2_ n3_ n4_ n5_ n6_
                clear ho hb hg hat
                refine hK.out _ _ ⟨(b2z BK107.1 0).trans rfl,(b2z BK107.1 1).trans rfl⟩ (fun hHeld => ?_)
                clear hK K
                refine norm_ (a':=?_) ?_ ?_
                rotate_left
                ·show Act.put _ (some 48) _ = _
                 simp only [Act.put,sA_,sZ_,sS_,i64_w,i32_w]
                 rfl
                exact norm_ (by simp only [putAll,Act.put,sA_,sZ_,sS_]) (hCont (v133,v140,v143) _ ⟨hHeld,(by (with_reducible repeat (first|apply Kd.R_alloc|apply Kd.a4z|apply Kd.a5z));exact Kd.b5z HO141.1 (fun _ hk => ⟨hk.2.1,⟨hk.1,hk.2.2⟩⟩)),(by (with_reducible repeat (first|apply Kd.R_alloc|apply Kd.a4z|apply Kd.a5z));exact Kd.b5z HO144.1 (fun _ hk => ⟨hk.2,⟨hk.1.1,hk.1.2⟩⟩)),(by (with_reducible repeat (first|apply Kd.R_alloc|apply Kd.a4z|apply Kd.a5z));exact Kd.b5z HO_3.1 (fun _ hk => ⟨hk.2,⟨hk.1.1,hk.1.2⟩⟩)),(by (with_reducible repeat (first|refine a8z ?_ _|refine a9z ?_|refine a7z ?_ _));exact BK107.1),(by repeat (first|(with_reducible exact HR138.1)|(with_reducible refine Kd.C_alloc ?_ _)|(with_reducible refine Kd.C_drewN ?_ _)|(with_reducible refine Kd.C_drew ?_)|exact HR138.1)),(by repeat (first|(with_reducible exact HR151.1)|(with_reducible refine Kd.C_alloc ?_ _)|(with_reducible refine Kd.C_drewN ?_ _)|(with_reducible refine Kd.C_drew ?_)|exact HR151.1)),(by repeat (first|(with_reducible first|exact HB.1|apply a3z|apply a1z|apply a2z|refine a6z ?_ GE107.1)|exact HB.1))⟩)
              ·skip
               refine Kd.h3z k63 _ 63 ?hg (N:=50) ?hd (xs:=([(⟨((b6z l0 x4_1).f0),t106⟩ : S63)] : List (S63))) (inner:=[.int .i64 ((b6z l0 x4_1).f0),.int .i64 t106]) (ok:=fun _ => True) (okp:=fun _ => True) ?hr ?hp (fun _ hk => hk) trivial (Below.refl _ _) (Nat.le_refl _) (by simp) ?_;(case hd => rfl);(case hg => rfl);(case hr => first|(go_simp;done)|(go_simp;rfl));(case hp => exact (Reps.c2 (show Kd.M k63 _ _ _ (⟨((b6z l0 x4_1).f0),t106⟩ : S63) [.int .i64 ((b6z l0 x4_1).f0),.int .i64 t106] from (h9z _ _ _ (⟨((b6z l0 x4_1).f0),t106⟩ : S63) )) (Reps.none _ _)))
               intro v143 w51 ho52 hb hg_ hnew_
               clear hg_ hnew_
               (first|rw [← Ny142.1] at ho52|(simp only [Int.reduceToNat] at ho52;rw [← Ny142.1] at ho52))
               have n0_:=a0z.mk (Kd.c4z (by (with_reducible repeat (first|apply Kd.R_alloc|apply Kd.a4z|apply Kd.a5z));exact HO_3.1) (Kd.d1z ho52) hb)
               have n1_:=a0z.mk (Kd.d5z (Kd.R_newB (Kd.d0z ho52 (Kd.R_lt (by (with_reducible repeat (first|apply Kd.R_alloc|apply Kd.a4z|apply Kd.a5z));exact HO_3.1))) (g:=gb107) (o:=.cells #[.int .i64 ((b6z l0 x4_1).f0),.int .i64 t106] 63 (0,0)) (by (with_reducible repeat (first|refine a8z ?_ _|refine a9z ?_|refine a7z ?_ _));exact BK107.1)) (b1z (by repeat (first|(with_reducible first|exact HB.1|apply a3z|apply a1z|apply a2z|refine a6z ?_ GE107.1)|exact HB.1))))
               have n2_:=a0z.mk (d9z (g:=gb107) (o:=.cells #[.int .i64 ((b6z l0 x4_1).f0),.int .i64 t106] 63 (0,0)) (by (with_reducible repeat (first|refine a8z ?_ _|refine a9z ?_|refine a7z ?_ _));exact BK107.1) hb)
               have n3_:=a0z.mk (Kd.f2z (by repeat (first|(with_reducible exact HR138.1)|(with_reducible refine Kd.C_alloc ?_ _)|(with_reducible refine Kd.C_drewN ?_ _)|(with_reducible refine Kd.C_drew ?_)|exact HR138.1)) hb)
               have n4_:=a0z.mk (Kd.f2z (by repeat (first|(with_reducible exact HR151.1)|(with_reducible refine Kd.C_alloc ?_ _)|(with_reducible refine Kd.C_drewN ?_ _)|(with_reducible refine Kd.C_drew ?_)|exact HR151.1)) hb)
               have n5_:=a0z.mk (b3z (by repeat (first|(with_reducible first|exact HB.1|apply a3z|apply a1z|apply a2z|refine a6z ?_ GE107.1)|exact HB.1)) hb)
               clear HO_3
               clear BK107
               clear HR138
               clear HR151
               clear HB
               have HO_3:=n0_
               have HO144:=n1_
               have BK107:=n2_
               have HR138:=n3_
               have HR151:=n4_
               have HB:=n5_
               clear n0_ n1_ n2_ n3_ n4_ n5_
               clear hb ho52
               refine hK.out _ _ ⟨(b2z BK107.1 0).trans rfl,(b2z BK107.1 1).trans rfl⟩ (fun hHeld => ?_)
               clear hK K
               refine norm_ (a':=?_) ?_ ?_
               rotate_left
               ·show Act.put _ (some 50) _ = _
                simp only [Act.put,sA_,sZ_,sS_,i64_w,i32_w]
                rfl
               refine one_ (i:=0) (N:=some 44) #[true,true,true,true,false,true,true,false,true,true,true,false,false] rfl rfl (f9z HT_.1 (by kernel_rfl)) (by decide) (fun K hK => ?_)
               refine Kd.h3z k63 _ 63 ?hg (N:=44) ?hd (xs:=([] : List (S63))) (inner:=[]) (ok:=fun _ => True) (okp:=fun _ => True) ?hr ?hp (fun _ hk => hk) trivial (Below.refl _ _) (Nat.le_refl _) (by simp) ?_;(case hd => rfl);(case hg => rfl);(case hr => first|(go_simp;done)|(go_simp;rfl));(case hp => exact (Reps.none _ _))
               intro v133 w53 ho54 hb hg_ hnew_
               clear hg_ hnew_
               (first|rw [← Ny132.1] at ho54|(simp only [Int.reduceToNat] at ho54;rw [← Ny132.1] at ho54))
               have n0_:=a0z.mk (Kd.c4z (by (with_reducible repeat (first|apply Kd.R_alloc|apply Kd.a4z|apply Kd.a5z));exact HO_3.1) (Kd.d1z ho54) hb)
               have n1_:=a0z.mk (Kd.c4z (by (with_reducible repeat (first|apply Kd.R_alloc|apply Kd.a4z|apply Kd.a5z));exact HO144.1) (Kd.d1z ho54) hb)
               have n2_:=a0z.mk (Kd.d5z (Kd.R_newB (Kd.d0z (Kd.d0z ho54 (Kd.R_lt (by (with_reducible repeat (first|apply Kd.R_alloc|apply Kd.a4z|apply Kd.a5z));exact HO_3.1))) (Kd.R_lt (by (with_reducible repeat (first|apply Kd.R_alloc|apply Kd.a4z|apply Kd.a5z));exact HO144.1))) (g:=gb107) (o:=.cells #[.int .i64 ((b6z l0 x4_1).f0),.int .i64 t106] 63 (0,0)) (by (with_reducible repeat (first|refine a8z ?_ _|refine a9z ?_|refine a7z ?_ _));exact BK107.1)) (b1z (by repeat (first|(with_reducible first|exact HB.1|apply a3z|apply a1z|apply a2z|refine a6z ?_ GE107.1)|exact HB.1))))
               have n3_:=a0z.mk (d9z (g:=gb107) (o:=.cells #[.int .i64 ((b6z l0 x4_1).f0),.int .i64 t106] 63 (0,0)) (by (with_reducible repeat (first|refine a8z ?_ _|refine a9z ?_|refine a7z ?_ _));exact BK107.1) hb)
               have n4_:=a0z.mk (Kd.f2z (by repeat (first|(with_reducible exact HR138.1)|(with_reducible refine Kd.C_alloc ?_ _)|(with_reducible refine Kd.C_drewN ?_ _)|(with_reducible refine Kd.C_drew ?_)|exact HR138.1)) hb)
               have n5_:=a0z.mk (Kd.f2z (by repeat (first|(with_reducible exact HR151.1)|(with_reducible refine Kd.C_alloc ?_ _)|(with_reducible refine Kd.C_drewN ?_ _)|(with_reducible refine Kd.C_drew ?_)|exact HR151.1)) hb)
               have n6_:=a0z.mk (b3z (by repeat (first|(with_reducible first|exact HB.1|apply a3z|apply a1z|apply a2z|refine a6z ?_ GE107.1)|exact HB.1)) hb)
               clear HO_3
               clear HO144
               clear BK107
               clear HR138
               clear HR151
               clear HB
               have HO_3:=n0_
               have HO144:=n1_
               have HO134:=n2_
               have BK107:=n3_
               have HR138:=n4_
               have HR151:=n5_
               have HB:=n6_
               clear n0_ n1_ n2_ n3_ n4_ n5_ n6_
               clear hb ho54
               refine hK.out _ _ ⟨(b2z BK107.1 0).trans rfl,(b2z BK107.1 1).trans rfl⟩ (fun hHeld => ?_)
               clear hK K
               refine norm_ (a':=?_) ?_ ?_
               rotate_left
               ·show Act.put _ (some 44) _ = _
                simp only [Act.put,sA_,sZ_,sS_,i64_w,i32_w]
                rfl
               refine one_ (i:=4) (N:=some 48) #[true,true,true,true,true,true,true,false,true,true,true,false,false] rfl rfl (f9z HT_.1 (by kernel_rfl)) (by decide) (fun K hK => ?_)
               refine Kd.f7z k63 (w0:=w) w.heap.size (by rfl) (.tmp 44) (.tmp 47) 41 63 (.agg #[(.int .i64 0),(.int .i64 0)]) 16 rfl Try.underlying41 info63 rfl (by decide) (by omega) v133 y132 y135 _ _ _ (fun k_ => some k_ ≠ (.slice Ao47 x3_1.length co47 : Value).ownBlock ∧ some k_ ≠ (v143 : Value).ownBlock ∧ k_ ≠ gb107) (fun _ => False) rfl rfl ?aO ?aR (fun _ _ h => h) (fun _ h => h.elim) ?aF ?aB ?aS ?aL ?_
               (case aR => repeat (first|exact (by repeat (first|(with_reducible exact HR138.1)|(with_reducible refine Kd.C_alloc ?_ _)|(with_reducible refine Kd.C_drewN ?_ _)|(with_reducible refine Kd.C_drew ?_)|exact HR138.1))|(with_reducible refine Kd.C_alloc ?_ _)|(with_reducible refine Kd.C_drewN ?_ _)|(with_reducible refine Kd.C_drew ?_)))
               (case aB => exact (by repeat (first|(with_reducible first|exact HB.1|apply a3z|apply a1z|apply a2z|refine a6z ?_ GE107.1)|exact HB.1)))
               (case aF => exact (fun k_ hk => ⟨Kd.fresh' (Kd.R_lt (by (with_reducible repeat (first|apply Kd.R_alloc|apply Kd.a4z|apply Kd.a5z));exact HO_3.1)) k_ hk,Kd.fresh' (Kd.R_lt (by (with_reducible repeat (first|apply Kd.R_alloc|apply Kd.a4z|apply Kd.a5z));exact HO144.1)) k_ hk,Kd.freshB (g:=gb107) (o:=.cells #[.int .i64 ((b6z l0 x4_1).f0),.int .i64 t106] 63 (0,0)) (by (with_reducible repeat (first|refine a8z ?_ _|refine a9z ?_|refine a7z ?_ _));exact BK107.1) k_ hk⟩))
               (case aO => exact (by (with_reducible repeat (first|apply Kd.R_alloc|apply Kd.a4z|apply Kd.a5z));exact Kd.b5z HO134.1 (fun _ hk => ⟨hk.1.1.2,⟨hk.1.2,hk.2⟩⟩)))
               (case aS => exact (b1z (by repeat (first|(with_reducible first|exact HB.1|apply a3z|apply a1z|apply a2z|refine a6z ?_ GE107.1)|exact HB.1))))
               (case aL => have:=LMc41.1;omega)
               intro v140 w55 ho hb hg hat
               rw [← Ny139.1] at ho
               have n0_:=a0z.mk (Kd.c9z (ok:=(fun k_ => some k_ ≠ (v143 : Value).ownBlock ∧ k_ ≠ gb107)) (by (with_reducible repeat (first|apply Kd.R_alloc|apply Kd.a4z|apply Kd.a5z));exact Kd.b5z HO_3.1 (fun _ hk => ⟨⟨hk.1.2,hk.1.1⟩,hk.2⟩)) hg hat)
               have n1_:=a0z.mk (f0z (g:=gb107) (o:=.cells #[.int .i64 ((b6z l0 x4_1).f0),.int .i64 t106] 63 (0,0)) (by (with_reducible repeat (first|refine a8z ?_ _|refine a9z ?_|refine a7z ?_ _));exact BK107.1) hg (Kd.h1z HO134.1 (fun _ hk => hk.2)))
               have n2_:=a0z.mk (Kd.c9z (ok:=(fun k_ => some k_ ≠ (.slice Ao47 x3_1.length co47 : Value).ownBlock ∧ k_ ≠ gb107)) (by (with_reducible repeat (first|apply Kd.R_alloc|apply Kd.a4z|apply Kd.a5z));exact Kd.b5z HO144.1 (fun _ hk => ⟨⟨hk.1.1.2,hk.1.2⟩,hk.2⟩)) hg hat)
               have n3_:=a0z.mk (hb)
               have n4_:=a0z.mk ((show Kd.C k63 w55 Ao47 y135.length y135 from by rw [Ny135.1];exact Kd.C_take (m:=(x6_2 : Int).toNat) ((Kd.b4z (Kd.c9z (ok:=(fun k_ => some k_ ≠ (v143 : Value).ownBlock ∧ k_ ≠ gb107)) (by (with_reducible repeat (first|apply Kd.R_alloc|apply Kd.a4z|apply Kd.a5z));exact Kd.b5z HO_3.1 (fun _ hk => ⟨⟨hk.1.2,hk.1.1⟩,hk.2⟩)) hg hat)).2.2) KL49.1))
               have n5_:=a0z.mk ((show Kd.C k63 w55 A50 y148.length y148 from by rw [Ny148.1,KA50.1];exact Kd.C_drop (m:=(x6_2 : Int).toNat) (c:=co47) ((Kd.b4z (Kd.c9z (ok:=(fun k_ => some k_ ≠ (v143 : Value).ownBlock ∧ k_ ≠ gb107)) (by (with_reducible repeat (first|apply Kd.R_alloc|apply Kd.a4z|apply Kd.a5z));exact Kd.b5z HO_3.1 (fun _ hk => ⟨⟨hk.1.2,hk.1.1⟩,hk.2⟩)) hg hat)).2.2) KL50.1 ((Kd.b4z (Kd.c9z (ok:=(fun k_ => some k_ ≠ (v143 : Value).ownBlock ∧ k_ ≠ gb107)) (by (with_reducible repeat (first|apply Kd.R_alloc|apply Kd.a4z|apply Kd.a5z));exact Kd.b5z HO_3.1 (fun _ hk => ⟨⟨hk.1.2,hk.1.1⟩,hk.2⟩)) hg hat)).2.1)))
               have n6_:=a0z.mk (ho)
               clear HO_3
               clear BK107
               clear HO144
               clear HB
               clear HR138
               clear HR151
               clear HO134
               have HO_3:=n0_
               have BK107:=n1_
               have HO144:=n2_
               have HB:=n3_
               have HR138:=n4_
               have HR151:=n5_
               have HO141:=n6_
               clear n0_ n1_ n2_ n3_ n4_ n5_ n6_
               clear ho hb hg hat
               refine hK.out _ _ ⟨(b2z BK107.1 0).trans rfl,(b2z BK107.1 1).trans rfl⟩ (fun hHeld => ?_)
               clear hK K
               refine norm_ (a':=?_) ?_ ?_
               rotate_left
               ·show Act.put _ (some 48) _ = _
                simp only [Act.put,sA_,sZ_,sS_,i64_w,i32_w]
                rfl
               exact norm_ (by simp only [putAll,Act.put,sA_,sZ_,sS_]) (hCont (v133,v140,v143) _ ⟨hHeld,(by (with_reducible repeat (first|apply Kd.R_alloc|apply Kd.a4z|apply Kd.a5z));exact Kd.b5z HO141.1 (fun _ hk => ⟨hk.2.1,⟨hk.1,hk.2.2⟩⟩)),(by (with_reducible repeat (first|apply Kd.R_alloc|apply Kd.a4z|apply Kd.a5z));exact Kd.b5z HO144.1 (fun _ hk => ⟨hk.2,⟨hk.1.1,hk.1.2⟩⟩)),(by (with_reducible repeat (first|apply Kd.R_alloc|apply Kd.a4z|apply Kd.a5z));exact Kd.b5z HO_3.1 (fun _ hk => ⟨hk.2,⟨hk.1.1,hk.1.2⟩⟩)),(by (with_reducible repeat (first|refine a8z ?_ _|refine a9z ?_|refine a7z ?_ _));exact BK107.1),(by repeat (first|(with_reducible exact HR138.1)|(with_reducible refine Kd.C_alloc ?_ _)|(with_reducible refine Kd.C_drewN ?_ _)|(with_reducible refine Kd.C_drew ?_)|exact HR138.1)),(by repeat (first|(with_reducible exact HR151.1)|(with_reducible refine Kd.C_alloc ?_ _)|(with_reducible refine Kd.C_drewN ?_ _)|(with_reducible refine Kd.C_drew ?_)|exact HR151.1)),(by repeat (first|(with_reducible first|exact HB.1|apply a3z|apply a1z|apply a2z|refine a6z ?_ GE107.1)|exact HB.1))⟩)
             rintro ⟨v133,v140,v143⟩ w56 ⟨hS_,h0_,h1_,h2_,h3_,h4_,h5_,h6_⟩
             have n0_ : a0z (Kd.R k63 63 w56 w.heap.size (fun k_ => some k_ ≠ (v143 : Value).ownBlock ∧ some k_ ≠ (.slice Ao47 x3_1.length co47 : Value).ownBlock ∧ k_ ≠ gb107) v140 y139):=⟨h0_⟩
             have n1_ : a0z (Kd.R k63 63 w56 w.heap.size (fun k_ => some k_ ≠ (v140 : Value).ownBlock ∧ some k_ ≠ (.slice Ao47 x3_1.length co47 : Value).ownBlock ∧ k_ ≠ gb107) v143 y142):=⟨h1_⟩
             have n2_ : a0z (Kd.R k63 63 w56 w.heap.size (fun k_ => some k_ ≠ (v140 : Value).ownBlock ∧ some k_ ≠ (v143 : Value).ownBlock ∧ k_ ≠ gb107) (.slice Ao47 x3_1.length co47) x3_1):=⟨h2_⟩
             have n3_ : a0z (w56.heap[gb107]? = some (.cells #[.int .i64 ((b6z l0 x4_1).f0),.int .i64 t106] 63 (0,0))):=⟨h3_⟩
             have n4_ : a0z (Kd.C k63 w56 Ao47 y135.length y135):=⟨h4_⟩
             have n5_ : a0z (Kd.C k63 w56 A50 y148.length y148):=⟨h5_⟩
             have n6_ : a0z (Below w.heap.size w w56):=⟨h6_⟩
             clear HO_3
             clear BK107
             clear HB
             clear h0_ h1_ h2_ h3_ h4_ h5_ h6_
             have HO141:=n0_
             have HO144:=n1_
             have HO_3:=n2_
             have BK107:=n3_
             have HR138:=n4_
             have HR151:=n5_
             have HB:=n6_
             clear n0_ n1_ n2_ n3_ n4_ n5_ n6_
             have hHeld : w56.cell? ⟨gb107,0,none⟩ = some (.int .i64 ((b6z l0 x4_1).f0)) ∧ w56.cell? ⟨gb107,1,none⟩ = some (.int .i64 t106):=hS_
             obtain ⟨Ao58,co58,eo58⟩:=Kd.d3z HO144.1
             (first|subst eo58|(injection eo58 with f1_ f2_ f3_;have f4_:=f1_.symm;have f5_:=f3_.symm;clear f1_ f2_ f3_;subst f4_;subst f5_))
             refine norm_ (a':=?_) ?_ ?_
             rotate_left
             ·simp only [putAll,Act.put,sA_,sZ_,sS_]
              rfl
             refine one_ (i:=7) (N:=some 51) #[true,true,true,true,true,true,true,true,true,true,true,false,false] rfl rfl (f9z HT_.1 (by kernel_rfl)) (by decide) (fun K hK => ?_)
             refine Kd.f7z k63 (w0:=w) w.heap.size (by rfl) (.tmp 48) (.tmp 50) 41 63 (.agg #[(.int .i64 0),(.int .i64 0)]) 16 rfl Try.underlying41 info63 rfl (by decide) (by omega) v140 y139 y142 _ _ _ (fun k_ => some k_ ≠ (.slice Ao47 x3_1.length co47 : Value).ownBlock ∧ some k_ ≠ (.slice Ao58 y142.length co58 : Value).ownBlock ∧ k_ ≠ gb107) (fun _ => False) rfl rfl ?aO ?aR (fun _ _ h => h) (fun _ h => h.elim) ?aF ?aB ?aS ?aL ?_
             (case aR => repeat (first|exact (Kd.b4z HO144.1).2.2|(with_reducible refine Kd.C_alloc ?_ _)|(with_reducible refine Kd.C_drewN ?_ _)|(with_reducible refine Kd.C_drew ?_)))
             (case aB => exact (by repeat (first|(with_reducible first|exact HB.1|apply a3z|apply a1z|apply a2z|refine a6z ?_ GE107.1)|exact HB.1)))
             (case aF => exact (fun k_ hk => ⟨Kd.fresh' (Kd.R_lt (by (with_reducible repeat (first|apply Kd.R_alloc|apply Kd.a4z|apply Kd.a5z));exact HO_3.1)) k_ hk,Kd.fresh' (Kd.R_lt (by (with_reducible repeat (first|apply Kd.R_alloc|apply Kd.a4z|apply Kd.a5z));exact HO144.1)) k_ hk,Kd.freshB (g:=gb107) (o:=.cells #[.int .i64 ((b6z l0 x4_1).f0),.int .i64 t106] 63 (0,0)) (by (with_reducible repeat (first|refine a8z ?_ _|refine a9z ?_|refine a7z ?_ _));exact BK107.1) k_ hk⟩))
             (case aO => exact (by (with_reducible repeat (first|apply Kd.R_alloc|apply Kd.a4z|apply Kd.a5z));exact Kd.b5z HO141.1 (fun _ hk => ⟨hk.2.1,⟨hk.1,hk.2.2⟩⟩)))
             (case aS => exact (b1z (by repeat (first|(with_reducible first|exact HB.1|apply a3z|apply a1z|apply a2z|refine a6z ?_ GE107.1)|exact HB.1))))
             (case aL => have:=LMc42.1;omega)
             intro v146 w57 ho hb hg hat
             rw [← Ny145.1] at ho
             have n0_:=a0z.mk (Kd.c9z (ok:=(fun k_ => some k_ ≠ (.slice Ao58 y142.length co58 : Value).ownBlock ∧ k_ ≠ gb107)) (by (with_reducible repeat (first|apply Kd.R_alloc|apply Kd.a4z|apply Kd.a5z));exact Kd.b5z HO_3.1 (fun _ hk => ⟨⟨hk.2.1,hk.2.2⟩,hk.1⟩)) hg hat)
             have n1_:=a0z.mk (f0z (g:=gb107) (o:=.cells #[.int .i64 ((b6z l0 x4_1).f0),.int .i64 t106] 63 (0,0)) (by (with_reducible repeat (first|refine a8z ?_ _|refine a9z ?_|refine a7z ?_ _));exact BK107.1) hg (Kd.h1z HO141.1 (fun _ hk => hk.2.2)))
             have n2_:=a0z.mk (Kd.c9z (ok:=(fun k_ => some k_ ≠ (.slice Ao47 x3_1.length co47 : Value).ownBlock ∧ k_ ≠ gb107)) (by (with_reducible repeat (first|apply Kd.R_alloc|apply Kd.a4z|apply Kd.a5z));exact Kd.b5z HO144.1 (fun _ hk => ⟨⟨hk.2.1,hk.2.2⟩,hk.1⟩)) hg hat)
             have n3_:=a0z.mk (hb)
             have n4_:=a0z.mk ((show Kd.C k63 w57 Ao47 y135.length y135 from by rw [Ny135.1];exact Kd.C_take (m:=(x6_2 : Int).toNat) ((Kd.b4z (Kd.c9z (ok:=(fun k_ => some k_ ≠ (.slice Ao58 y142.length co58 : Value).ownBlock ∧ k_ ≠ gb107)) (by (with_reducible repeat (first|apply Kd.R_alloc|apply Kd.a4z|apply Kd.a5z));exact Kd.b5z HO_3.1 (fun _ hk => ⟨⟨hk.2.1,hk.2.2⟩,hk.1⟩)) hg hat)).2.2) KL49.1))
             have n5_:=a0z.mk ((show Kd.C k63 w57 A50 y148.length y148 from by rw [Ny148.1,KA50.1];exact Kd.C_drop (m:=(x6_2 : Int).toNat) (c:=co47) ((Kd.b4z (Kd.c9z (ok:=(fun k_ => some k_ ≠ (.slice Ao58 y142.length co58 : Value).ownBlock ∧ k_ ≠ gb107)) (by (with_reducible repeat (first|apply Kd.R_alloc|apply Kd.a4z|apply Kd.a5z));exact Kd.b5z HO_3.1 (fun _ hk => ⟨⟨hk.2.1,hk.2.2⟩,hk.1⟩)) hg hat)).2.2) KL50.1 ((Kd.b4z (Kd.c9z (ok:=(fun k_ => some k_ ≠ (.slice Ao58 y142.length co58 : Value).ownBlock ∧ k_ ≠ gb107)) (by (with_reducible repeat (first|apply Kd.R_alloc|apply Kd.a4z|apply Kd.a5z));exact Kd.b5z HO_3.1 (fun _ hk => ⟨⟨hk.2.1,hk.2.2⟩,hk.1⟩)) hg hat)).2.1)))
             have n6_:=a0z.mk (ho)
             clear HO_3
             clear BK107
             clear HO144
             clear HB
             clear HR138
             clear HR151
             clear HO141
             have HO_3:=n0_
             have BK107:=n1_
             have HO144:=n2_
             have HB:=n3_
             have HR138:=n4_
             have HR151:=n5_
             have HO147:=n6_
             clear n0_ n1_ n2_ n3_ n4_ n5_ n6_
             clear ho hb hg hat
             refine hK.out _ _ ⟨(b2z BK107.1 0).trans rfl,(b2z BK107.1 1).trans rfl⟩ (fun hHeld => ?_)
             clear hK K
             refine norm_ (a':=?_) ?_ ?_
             rotate_left
             ·show Act.put _ (some 51) _ = _
              simp only [Act.put,sA_,sZ_,sS_,i64_w,i32_w]
              rfl
             refine one_ (i:=11) (N:=some 55) #[true,true,true,true,true,true,true,true,true,true,true,true,false] rfl rfl (f9z HT_.1 (by kernel_rfl)) (by decide) (fun K hK => ?_)
             refine Kd.f7z k63 (w0:=w) w.heap.size (by rfl) (.tmp 51) (.tmp 54) 41 63 (.agg #[(.int .i64 0),(.int .i64 0)]) 16 rfl Try.underlying41 info63 rfl (by decide) (by omega) v146 y145 y148 _ _ _ (fun k_ => some k_ ≠ (.slice Ao47 x3_1.length co47 : Value).ownBlock ∧ some k_ ≠ (.slice Ao58 y142.length co58 : Value).ownBlock ∧ k_ ≠ gb107) (fun _ => False) rfl rfl ?aO ?aR (fun _ _ h => h) (fun _ h => h.elim) ?aF ?aB ?aS ?aL ?_
             (case aR => repeat (first|exact (by repeat (first|(with_reducible exact HR151.1)|(with_reducible refine Kd.C_alloc ?_ _)|(with_reducible refine Kd.C_drewN ?_ _)|(with_reducible refine Kd.C_drew ?_)|exact HR151.1))|(with_reducible refine Kd.C_alloc ?_ _)|(with_reducible refine Kd.C_drewN ?_ _)|(with_reducible refine Kd.C_drew ?_)))
             (case aB => exact (by repeat (first|(with_reducible first|exact HB.1|apply a3z|apply a1z|apply a2z|refine a6z ?_ GE107.1)|exact HB.1)))
             (case aF => exact (fun k_ hk => ⟨Kd.fresh' (Kd.R_lt (by (with_reducible repeat (first|apply Kd.R_alloc|apply Kd.a4z|apply Kd.a5z));exact HO_3.1)) k_ hk,Kd.fresh' (Kd.R_lt (by (with_reducible repeat (first|apply Kd.R_alloc|apply Kd.a4z|apply Kd.a5z));exact HO144.1)) k_ hk,Kd.freshB (g:=gb107) (o:=.cells #[.int .i64 ((b6z l0 x4_1).f0),.int .i64 t106] 63 (0,0)) (by (with_reducible repeat (first|refine a8z ?_ _|refine a9z ?_|refine a7z ?_ _));exact BK107.1) k_ hk⟩))
             (case aO => exact (by (with_reducible repeat (first|apply Kd.R_alloc|apply Kd.a4z|apply Kd.a5z));exact HO147.1))
             (case aS => exact (b1z (by repeat (first|(with_reducible first|exact HB.1|apply a3z|apply a1z|apply a2z|refine a6z ?_ GE107.1)|exact HB.1))))
             (case aL => have:=LMc45.1;omega)
             intro v153 w59 ho hb hg hat
             rw [← Ny152.1] at ho
             have n0_:=a0z.mk (Kd.c9z (ok:=(fun k_ => some k_ ≠ (.slice Ao58 y142.length co58 : Value).ownBlock ∧ k_ ≠ gb107)) (by (with_reducible repeat (first|apply Kd.R_alloc|apply Kd.a4z|apply Kd.a5z));exact HO_3.1) hg hat)
             have n1_:=a0z.mk (f0z (g:=gb107) (o:=.cells #[.int .i64 ((b6z l0 x4_1).f0),.int .i64 t106] 63 (0,0)) (by (with_reducible repeat (first|refine a8z ?_ _|refine a9z ?_|refine a7z ?_ _));exact BK107.1) hg (Kd.h1z HO147.1 (fun _ hk => hk.2.2)))
             have n2_:=a0z.mk (Kd.c9z (ok:=(fun k_ => some k_ ≠ (.slice Ao47 x3_1.length co47 : Value).ownBlock ∧ k_ ≠ gb107)) (by (with_reducible repeat (first|apply Kd.R_alloc|apply Kd.a4z|apply Kd.a5z));exact HO144.1) hg hat)
             have n3_:=a0z.mk (hb)
             have n4_:=a0z.mk ((show Kd.C k63 w59 Ao47 y135.length y135 from by rw [Ny135.1];exact Kd.C_take (m:=(x6_2 : Int).toNat) ((Kd.b4z (Kd.c9z (ok:=(fun k_ => some k_ ≠ (.slice Ao58 y142.length co58 : Value).ownBlock ∧ k_ ≠ gb107)) (by (with_reducible repeat (first|apply Kd.R_alloc|apply Kd.a4z|apply Kd.a5z));exact HO_3.1) hg hat)).2.2) KL49.1))
             have n5_:=a0z.mk ((show Kd.C k63 w59 A50 y148.length y148 from by rw [Ny148.1,KA50.1];exact Kd.C_drop (m:=(x6_2 : Int).toNat) (c:=co47) ((Kd.b4z (Kd.c9z (ok:=(fun k_ => some k_ ≠ (.slice Ao58 y142.length co58 : Value).ownBlock ∧ k_ ≠ gb107)) (by (with_reducible repeat (first|apply Kd.R_alloc|apply Kd.a4z|apply Kd.a5z));exact HO_3.1) hg hat)).2.2) KL50.1 ((Kd.b4z (Kd.c9z (ok:=(fun k_ => some k_ ≠ (.slice Ao58 y142.length co58 : Value).ownBlock ∧ k_ ≠ gb107)) (by (with_reducible repeat (first|apply Kd.R_alloc|apply Kd.a4z|apply Kd.a5z));exact HO_3.1) hg hat)).2.1)))
             have n6_:=a0z.mk (ho)
             clear HO_3
             clear BK107
             clear HO144
             clear HB
             clear HR138
             clear HR151
             clear HO147
             have HO_3:=n0_
             have BK107:=n1_
             have HO144:=n2_
             have HB:=n3_
             have HR138:=n4_
             have HR151:=n5_
             have HO154:=n6_
             clear n0_ n1_ n2_ n3_ n4_ n5_ n6_
             clear ho hb hg hat
             refine hK.out _ _ ⟨(b2z BK107.1 0).trans rfl,(b2z BK107.1 1).trans rfl⟩ (fun hHeld => ?_)
             clear hK K
             refine norm_ (a':=?_) ?_ ?_
             rotate_left
             ·show Act.put _ (some 55) _ = _
              simp only [Act.put,sA_,sZ_,sS_,i64_w,i32_w]
              rfl
             refine pure_ (i:=12) (N:=some 3) (v:=?_) (a':=?_) #[true,true,true,true,true,true,true,true,true,true,true,true,true] rfl rfl (c0z HT_.1 (by kernel_rfl)) (fun _ _ _ h => h) (Or.inl ⟨by rfl,?_⟩) ?_ ?_
             rotate_left
             ·intro w'
              go_simp
              with_reducible rfl
             rotate_left
             ·simp only [Act.put,sA_,sZ_,sS_,i64_w,i32_w]
              rfl
             refine done_ (g5z HT_.1 (by kernel_rfl)) ?_
             try go_wp2
             go_roundg k2
             case measure => have:=HK1.1;have:=HK2.1;omega
             case rel => exact ⟨(y152),(wrap64 (x4_1 + 1)),(by first|rfl|(simp;done)|(simp [*];done)),H',⟨by have:=HK1.1;have:=HK2.1;omega⟩,⟨by (with_reducible repeat (first|apply Kd.R_alloc|apply Kd.a4z|apply Kd.a5z));exact Kd.b5z HO154.1 (fun _ hk => trivial)⟩,⟨by repeat (first|(with_reducible first|exact HB.1|apply a3z|apply a1z|apply a2z|refine a6z ?_ GE107.1)|exact HB.1)⟩⟩
            ·rw [if_neg c45] at H
             exact absurd H (by simp)
           ·rw [if_neg c42] at H
            exact absurd H (by simp)
          ·rw [if_neg c41] at H
           exact absurd H (by simp)
         ·rw [if_neg c40] at H
          exact absurd H (by simp)
        ·rw [if_neg c39] at H
         exact absurd H (by simp)
    ·rw [if_neg c5] at H
     exact absurd H (by simp)
   ·rw [if_neg c4] at H
    have c4b0 : decide (x4_1 < (l0.length : Int)) = false:=decide_eq_false c4
    clear c4
    obtain ⟨y155,hy155⟩ : ∃ y_ : List (S63),y_ = (([] : List (S63))):=⟨_,rfl⟩
    replace H : (spec_l2Spans.l2 k1 x3_1 y155 0) = some r:=by first|(rw [hy155];with_reducible exact H)|(have H2_:=(Option.bind_some _ _).symm.trans H;rw [hy155];with_reducible exact H2_)|(have H2_:=(Option.bind_some _ _).symm.trans H;with_reducible exact H2_)|with_reducible exact H|(rw [hy155];exact H)|exact H
    have Ny155:=a0z.mk hy155
    clear hy155
    have H':=a0z.mk H
    clear H
    go_wp2_with (first|((with_reducible refine d4z (N:=56) rfl ?_);refine Kd.R_lit k63 _ 63 ?hg (N:=56) ?hd (xs:=([] : List (S63))) (inner:=[]) (ok:=fun _ => True) (okp:=fun _ => True) ?hr ?hp (fun _ hk => hk) trivial (Below.refl _ _) (Nat.le_refl _) (by simp) ?_;(case hd => rfl);(case hg => rfl);(case hr => first|(go_simp;done)|(go_simp;rfl));(case hp => exact (Reps.none _ _));intro v156 w60 ho61 hb hg_ hnew_;clear hg_ hnew_;(first|rw [← Ny155.1] at ho61|(simp only [Int.reduceToNat] at ho61;rw [← Ny155.1] at ho61));have n0_:=a0z.mk (Kd.c4z (by (with_reducible repeat (first|apply Kd.R_alloc|apply Kd.a4z|apply Kd.a5z));exact HO_3.1) (Kd.d1z ho61) hb);have n1_:=a0z.mk (Kd.d5z (Kd.d0z ho61 (Kd.R_lt (by (with_reducible repeat (first|apply Kd.R_alloc|apply Kd.a4z|apply Kd.a5z));exact HO_3.1))) (b1z (by repeat (first|(with_reducible first|exact HB.1|apply a3z|apply a1z|apply a2z)|exact HB.1))));have n2_:=a0z.mk (b3z (by repeat (first|(with_reducible first|exact HB.1|apply a3z|apply a1z|apply a2z)|exact HB.1)) hb);clear HO_3;clear HB;have HO_3:=n0_;have HO157:=n1_;have HB:=n2_;clear n0_ n1_ n2_;clear hb ho61))
    go_loopg [7,8] k1 (fun kq v7 v8 w' => ∃ (x3_2 : List (S63)) (x7_2 : List (S63)) (x8_2 : Int),v8 = .int .i64 x8_2 ∧ a0z (spec_l2Spans.l2 kq x3_2 x7_2 x8_2 = some r) ∧ a0z (kq ≤ k1) ∧ a0z (Kd.R k63 63 w' w.heap.size (fun k_ => some k_ ≠ (v7 : Value).ownBlock) u3 x3_2) ∧ a0z (Kd.R k63 63 w' w.heap.size (fun k_ => some k_ ≠ (u3 : Value).ownBlock) v7 x7_2) ∧ a0z (Below w.heap.size w w'))
    case atStart => exact ⟨(x3_1),(y155),(0),(by first|rfl|(simp;done)|(simp [*];done)),H',⟨Nat.le_refl _⟩,⟨by (with_reducible repeat (first|apply Kd.R_alloc|apply Kd.a4z|apply Kd.a5z));exact Kd.b5z HO_3.1 (fun _ hk => hk.2)⟩,⟨by (with_reducible repeat (first|apply Kd.R_alloc|apply Kd.a4z|apply Kd.a5z));exact Kd.b5z HO157.1 (fun _ hk => hk.2)⟩,⟨by repeat (first|(with_reducible first|exact HB.1|apply a3z|apply a1z|apply a2z)|exact HB.1)⟩⟩
    case round =>
     clear H'
     try clear c1
     try clear c2
     try clear p2
     try clear c3
     try clear c4
     try clear c4b0
     try clear q4
     try clear c5
     try clear q5
     try clear p6
     try clear c39
     try clear c40
     try clear c41
     try clear c42
     try clear c45
     try clear q49
     try clear c50
     try clear q50
     try clear q050
     try clear q49
     try clear q50
     obtain ⟨x3_2,x7_2,x8_2,rfl,HA,HK2,HO_3,HO_7,HB⟩:=hrel
     cases gk with
     | zero => exact absurd HA.1 (by simp [spec_l2Spans.l2])
     | succ k2 =>
      have H:=HA.1
      clear HA
      simp only [spec_l2Spans.l2] at H
      by_cases c62 : x8_2 < (x3_2.length : Int)
      ·rw [if_pos c62] at H
       have c62b0 : decide (x8_2 < (x3_2.length : Int)) = true:=decide_eq_true c62
       clear c62
       have HC63:=a0z.mk H
       clear H
       obtain ⟨Ao64,co64,eo64⟩:=Kd.d3z HO_3.1
       subst eo64
       obtain ⟨Ao65,co65,eo65⟩:=Kd.d3z HO_7.1
       subst eo65
       go_upto_region 15 with (fail)
       go_cut [81] (fun v81 wc => ∃ (kq : Nat) (x81_62 : Bool),v81 = .bool x81_62 ∧ a0z (spec_l2Spans.j3 kq x3_2 x7_2 x8_2 (wrap64 ((x7_2.length : Int) - 1)) x81_62 = some r) ∧ a0z (kq ≤ k2) ∧ a0z (Kd.R k63 63 wc w.heap.size (fun k_ => some k_ ≠ ((.slice Ao65 x7_2.length co65) : Value).ownBlock) (.slice Ao64 x3_2.length co64) x3_2) ∧ a0z (Kd.R k63 63 wc w.heap.size (fun k_ => some k_ ≠ ((.slice Ao64 x3_2.length co64) : Value).ownBlock) (.slice Ao65 x7_2.length co65) x7_2) ∧ a0z (Below w.heap.size w wc))
       case first =>
        have H:=HC63.1
        clear HC63
        by_cases c66 : (wrap64 ((x7_2.length : Int) - 1)) ≥ 0
        ·rw [if_pos c66] at H
         have c66b0 : decide (0 ≤ (wrap64 ((x7_2.length : Int) - 1))) = true:=decide_eq_true c66
         clear c66
         (first|rw [c66b0]|(simp only [i64_w,i32_w];rw [c66b0])|skip)
         by_cases c67 : 0 ≤ x8_2
         ·rw [if_pos c67] at H
          have c67b0 : decide (0 ≤ x8_2) = true:=decide_eq_true c67
          clear c67
          obtain ⟨ji68,hji68⟩ : ∃ j_ : Int,(wrap64 ((x7_2.length : Int) - 1)) = j_:=⟨_,rfl⟩
          replace H : (if 0 ≤ (ji68) then (if (ji68) < (x7_2.length : Int) then (spec_l2Spans.j3 k2 x3_2 x7_2 x8_2 ji68 (decide (((c6z x3_2 x8_2).f0) ≤ (wrap64 (((c6z x7_2 (ji68)).f1) + 1))))) else (none)) else (none)) = some r:=by first|(rw [hji68] at H;exact H)|(simp only [hji68] at H ⊢;exact H)
          (try rw [hji68] at c66b0)
          have hji68w : (IntKind.i64.wrap ((x7_2.length : Int) - 1)) = ji68:=(i64_w _).trans hji68
          by_cases c69 : 0 ≤ (ji68)
          ·rw [if_pos c69] at H
           have c69b0 : decide (0 ≤ (ji68)) = true:=decide_eq_true c69
           clear c69
           by_cases c70 : (ji68) < (x7_2.length : Int)
           ·rw [if_pos c70] at H
            have c70b0 : decide ((ji68) < (x7_2.length : Int)) = true:=decide_eq_true c70
            clear c70
            have H':=a0z.mk H
            clear H
            try go_wp2
            have n0_:=a0z.mk (Kd.a5z HO_3.1)
            have n1_:=a0z.mk (Kd.a5z HO_7.1)
            have n2_:=a0z.mk (a2z HB.1)
            clear HO_3
            clear HO_7
            clear HB
            have HO_3:=n0_
            have HO_7:=n1_
            have HB:=n2_
            clear n0_ n1_ n2_
            have p158 : 0 ≤ (x8_2 : Int):=of_decide_eq_true (by first|(with_reducible assumption)|assumption)
            have q158 : x8_2 < (x3_2.length : Int):=of_decide_eq_true (by first|(with_reducible assumption)|assumption)
            obtain ⟨ad158,e158,hx158_0,hx158_1⟩:=h0z (Kd.b4z HO_3.1).2.2 x8_2 p158 q158
            cases e158
            replace p158:=eq_true p158
            replace q158:=eq_true q158
            have p159 : 0 ≤ ((ji68) : Int):=of_decide_eq_true (by first|(with_reducible assumption)|assumption)
            have q159 : (ji68) < (x7_2.length : Int):=of_decide_eq_true (by first|(with_reducible assumption)|assumption)
            obtain ⟨ad159,e159,hx159_0,hx159_1⟩:=h0z (Kd.b4z HO_7.1).2.2 (ji68) p159 q159
            cases e159
            replace p159:=eq_true p159
            replace q159:=eq_true q159
            refine g9z (n:=16) (S:=fun w' => w'.cell? (ad158.add ((x8_2).toNat * 2)) = some (.int .i64 ((c6z x3_2 x8_2).f0)) ∧ w'.cell? ⟨(ad158.add ((x8_2).toNat * 2)).block,(ad158.add ((x8_2).toNat * 2)).off + 1,none⟩ = some (.int .i64 ((c6z x3_2 x8_2).f1)) ∧ w'.cell? (ad159.add (((ji68)).toNat * 2)) = some (.int .i64 ((c6z x7_2 (ji68)).f0)) ∧ w'.cell? ⟨(ad159.add (((ji68)).toNat * 2)).block,(ad159.add (((ji68)).toNat * 2)).off + 1,none⟩ = some (.int .i64 ((c6z x7_2 (ji68)).f1))) (ds:=[]) #[false,false,false,false,false,false,false,false,false,false,false,false,false,false,false,false] (by kernel_rfl) rfl rfl ⟨hx158_0,hx158_1,hx159_0,hx159_1⟩ (fun hHeld => ?_);refine f8z spec_l2Spans.tab15 spec_l2Spans.bits15 (fun HT_ HW_ => ?_)
            generalize wr.drew = w71 at HO_3 HO_7 HB hx158_0 hx158_1 hx159_0 hx159_1 hHeld ⊢
            refine pure_ (i:=0) (N:=some 66) (v:=?_) (a':=?_) #[true,false,false,false,false,false,false,false,false,false,false,false,false,false,false,false] rfl rfl (c0z HT_.1 (by kernel_rfl)) (fun _ _ _ h => h) (Or.inl ⟨by rfl,?_⟩) ?_ ?_
            rotate_left
            ·intro w'
             go_simp
             with_reducible rfl
            rotate_left
            ·simp only [Act.put,sA_,sZ_,sS_,i64_w,i32_w]
             rfl
            refine pure_ (i:=1) (N:=some 67) (v:=?_) (a':=?_) #[true,true,false,false,false,false,false,false,false,false,false,false,false,false,false,false] rfl rfl (c0z HT_.1 (by kernel_rfl)) (fun _ _ _ h => h) (Or.inl ⟨by rfl,?_⟩) ?_ ?_
            rotate_left
            ·intro w'
             go_simp
             with_reducible rfl
            rotate_left
            ·simp only [Act.put,sA_,sZ_,sS_,i64_w,i32_w]
             rfl
            refine pure_ (i:=2) (N:=some 68) (v:=?_) (a':=?_) #[true,true,true,false,false,false,false,false,false,false,false,false,false,false,false,false] rfl rfl (c0z HT_.1 (by kernel_rfl)) (fun _ _ _ h => h) (Or.inl ⟨by rfl,?_⟩) ?_ ?_
            rotate_left
            ·intro w'
             go_simp
             with_reducible rfl
            rotate_left
            ·simp only [Act.put,sA_,sZ_,sS_,i64_w,i32_w]
             rfl
            refine pure_ (i:=3) (N:=some 69) (v:=?_) (a':=?_) #[true,true,true,true,false,false,false,false,false,false,false,false,false,false,false,false] rfl rfl (c0z HT_.1 (by kernel_rfl)) (fun _ _ _ h => h) (Or.inl ⟨by rfl,?_⟩) ?_ ?_
            rotate_left
            ·intro w'
             go_simp
             with_reducible rfl
            rotate_left
            ·simp only [Act.put,sA_,sZ_,sS_,i64_w,i32_w]
             rfl
            refine pure_ (i:=4) (N:=some 70) (v:=?_) (a':=?_) #[true,true,true,true,true,false,false,false,false,false,false,false,false,false,false,false] rfl rfl (c0z HT_.1 (by kernel_rfl)) (fun _ _ _ h => h) (Or.inl ⟨by rfl,?_⟩) ?_ ?_
            rotate_left
            ·intro w'
             go_simp
             with_reducible rfl
            rotate_left
            ·simp only [Act.put,sA_,sZ_,sS_,i64_w,i32_w]
             rfl
            refine pure_ (i:=5) (N:=some 71) (v:=?_) (a':=?_) #[true,true,true,true,true,true,false,false,false,false,false,false,false,false,false,false] rfl rfl (c0z HT_.1 (by kernel_rfl)) (fun _ _ _ h => h) (Or.inl ⟨by rfl,?_⟩) ?_ ?_
            rotate_left
            ·intro w'
             go_simp
             with_reducible rfl
            rotate_left
            ·simp only [Act.put,sA_,sZ_,sS_,i64_w,i32_w]
             rfl
            refine pure_ (i:=6) (N:=some 72) (v:=?_) (a':=?_) #[true,true,true,true,true,true,true,false,false,false,false,false,false,false,false,false] rfl rfl (c0z HT_.1 (by kernel_rfl)) (fun _ _ _ h => h) (Or.inl ⟨by rfl,?_⟩) ?_ ?_
            rotate_left
            ·intro w'
             go_simp
             with_reducible rfl
            rotate_left
            ·simp only [Act.put,sA_,sZ_,sS_,i64_w,i32_w]
             rfl
            refine pure_ (i:=8) (N:=some 74) (v:=?_) (a':=?_) #[true,true,true,true,true,true,true,false,true,false,false,false,false,false,false,false] rfl rfl (c0z HT_.1 (by kernel_rfl)) (fun _ _ _ h => h) (Or.inl ⟨by rfl,?_⟩) ?_ ?_
            rotate_left
            ·intro w'
             go_simp
             with_reducible rfl
            rotate_left
            ·simp only [Act.put,sA_,sZ_,sS_,i64_w,i32_w]
             rfl
            refine pure_ (i:=9) (N:=some 75) (v:=?_) (a':=?_) #[true,true,true,true,true,true,true,false,true,true,false,false,false,false,false,false] rfl rfl (c0z HT_.1 (by kernel_rfl)) (fun _ _ _ h => h) (Or.inl ⟨by rfl,?_⟩) ?_ ?_
            rotate_left
            ·intro w'
             go_simp
             with_reducible rfl
            rotate_left
            ·simp only [Act.put,sA_,sZ_,sS_,i64_w,i32_w]
             rfl
            refine pure_ (i:=10) (N:=some 76) (v:=?_) (a':=?_) #[true,true,true,true,true,true,true,false,true,true,true,false,false,false,false,false] rfl rfl (c0z HT_.1 (by kernel_rfl)) (fun _ _ _ h => h) (Or.inl ⟨by rfl,?_⟩) ?_ ?_
            rotate_left
            ·intro w'
             go_simp
             with_reducible rfl
            rotate_left
            ·simp only [Act.put,sA_,sZ_,sS_,i64_w,i32_w]
             rfl
            refine pure_ (i:=11) (N:=some 77) (v:=?_) (a':=?_) #[true,true,true,true,true,true,true,false,true,true,true,true,false,false,false,false] rfl rfl (c0z HT_.1 (by kernel_rfl)) (fun _ _ _ h => h) (Or.inl ⟨by rfl,?_⟩) ?_ ?_
            rotate_left
            ·intro w'
             go_simp
             with_reducible rfl
            rotate_left
            ·simp only [Act.put,sA_,sZ_,sS_,i64_w,i32_w]
             rfl
            refine take_ (i:=7) (N:=some 73) (v:=?_) (a':=?_) #[true,true,true,true,true,true,true,true,true,true,true,true,false,false,false,false] rfl rfl (f3z HT_.1 HW_.1 (by kernel_rfl)) (fun _ _ _ h => h) (Or.inl ⟨by rfl,?_⟩) hHeld ?_ ?_
            rotate_left
            ·rintro w' ⟨s0,s1,s2,s3⟩
             go_simp
             with_reducible rfl
            rotate_left
            ·simp only [Act.put,sA_,sZ_,sS_,i64_w,i32_w]
             rfl
            refine take_ (i:=12) (N:=some 78) (v:=?_) (a':=?_) #[true,true,true,true,true,true,true,true,true,true,true,true,true,false,false,false] rfl rfl (f3z HT_.1 HW_.1 (by kernel_rfl)) (fun _ _ _ h => h) (Or.inl ⟨by rfl,?_⟩) hHeld ?_ ?_
            rotate_left
            ·rintro w' ⟨s0,s1,s2,s3⟩
             go_simp
             with_reducible rfl
            rotate_left
            ·simp only [Act.put,sA_,sZ_,sS_,i64_w,i32_w]
             rfl
            refine pure_ (i:=13) (N:=some 79) (v:=?_) (a':=?_) #[true,true,true,true,true,true,true,true,true,true,true,true,true,true,false,false] rfl rfl (c0z HT_.1 (by kernel_rfl)) (fun _ _ _ h => h) (Or.inl ⟨by rfl,?_⟩) ?_ ?_
            rotate_left
            ·intro w'
             go_simp
             with_reducible rfl
            rotate_left
            ·simp only [Act.put,sA_,sZ_,sS_,i64_w,i32_w]
             rfl
            refine pure_ (i:=14) (N:=some 80) (v:=?_) (a':=?_) #[true,true,true,true,true,true,true,true,true,true,true,true,true,true,true,false] rfl rfl (c0z HT_.1 (by kernel_rfl)) (fun _ _ _ h => h) (Or.inl ⟨by rfl,?_⟩) ?_ ?_
            rotate_left
            ·intro w'
             go_simp
             with_reducible rfl
            rotate_left
            ·simp only [Act.put,sA_,sZ_,sS_,i64_w,i32_w]
             rfl
            refine pure_ (i:=15) (N:=some 81) (v:=?_) (a':=?_) #[true,true,true,true,true,true,true,true,true,true,true,true,true,true,true,true] rfl rfl (c0z HT_.1 (by kernel_rfl)) (fun _ _ _ h => h) (Or.inl ⟨by rfl,?_⟩) ?_ ?_
            rotate_left
            ·intro w'
             go_simp
             with_reducible rfl
            rotate_left
            ·simp only [Act.put,sA_,sZ_,sS_,i64_w,i32_w]
             rfl
            refine done_ (g5z HT_.1 (by kernel_rfl)) ?_
            try go_wp2
            go_meet
            case rel => exact ⟨_,(decide (((c6z x3_2 x8_2).f0) ≤ (wrap64 (((c6z x7_2 (ji68)).f1) + 1)))),(by first|rfl|(simp;done)|(simp only [← hji68] <;> (first|rfl|simp))|(simp [*];done)),(by first|exact H'|(rw [hji68];exact H')),⟨by have:=HK1.1;have:=HK2.1;first|omega|exact Nat.le_refl _⟩,⟨by (with_reducible repeat (first|apply Kd.R_alloc|apply Kd.a4z|apply Kd.a5z));exact HO_3.1⟩,⟨by (with_reducible repeat (first|apply Kd.R_alloc|apply Kd.a4z|apply Kd.a5z));exact HO_7.1⟩,⟨by repeat (first|(with_reducible first|exact HB.1|apply a3z|apply a1z|apply a2z)|exact HB.1)⟩⟩
           ·rw [if_neg c70] at H
            exact absurd H (by simp)
          ·rw [if_neg c69] at H
           exact absurd H (by simp)
         ·rw [if_neg c67] at H
          exact absurd H (by simp)
        ·rw [if_neg c66] at H
         have c66b0 : decide (0 ≤ (wrap64 ((x7_2.length : Int) - 1))) = false:=decide_eq_false c66
         clear c66
         (first|rw [c66b0]|(simp only [i64_w,i32_w];rw [c66b0])|skip)
         have H':=a0z.mk H
         clear H
         try go_wp2
         have n0_:=a0z.mk (Kd.a5z HO_3.1)
         have n1_:=a0z.mk (Kd.a5z HO_7.1)
         have n2_:=a0z.mk (a2z HB.1)
         clear HO_3
         clear HO_7
         clear HB
         have HO_3:=n0_
         have HO_7:=n1_
         have HB:=n2_
         clear n0_ n1_ n2_
         refine g9z (n:=16) (S:=fun w' => True) (ds:=[]) #[false,false,false,false,false,false,false,false,false,false,false,false,false,false,false,false] (by kernel_rfl) rfl rfl trivial (fun hHeld => ?_);refine f8z spec_l2Spans.tab15 spec_l2Spans.bits15 (fun HT_ HW_ => ?_)
         generalize wr.drew = w72 at HO_3 HO_7 HB hHeld ⊢
         refine pure_ (i:=0) (N:=some 66) (v:=?_) (a':=?_) #[true,false,false,false,false,false,false,false,false,false,false,false,false,false,false,false] rfl rfl (c0z HT_.1 (by kernel_rfl)) (fun _ _ _ h => h) (Or.inl ⟨by rfl,?_⟩) ?_ ?_
         rotate_left
         ·intro w'
          go_simp
          with_reducible rfl
         rotate_left
         ·simp only [Act.put,sA_,sZ_,sS_,i64_w,i32_w]
          rfl
         refine pure_ (i:=1) (N:=some 67) (v:=?_) (a':=?_) #[true,true,false,false,false,false,false,false,false,false,false,false,false,false,false,false] rfl rfl (c0z HT_.1 (by kernel_rfl)) (fun _ _ _ h => h) (Or.inl ⟨by rfl,?_⟩) ?_ ?_
         rotate_left
         ·intro w'
          go_simp
          with_reducible rfl
         rotate_left
         ·simp only [Act.put,sA_,sZ_,sS_,i64_w,i32_w]
          rfl
         refine pure_ (i:=2) (N:=some 68) (v:=?_) (a':=?_) #[true,true,true,false,false,false,false,false,false,false,false,false,false,false,false,false] rfl rfl (c0z HT_.1 (by kernel_rfl)) (fun _ _ _ h => h) (Or.inl ⟨by rfl,?_⟩) ?_ ?_
         rotate_left
         ·intro w'
          go_simp
          with_reducible rfl
         rotate_left
         ·simp only [Act.put,sA_,sZ_,sS_,i64_w,i32_w]
          rfl
         refine pure_ (i:=3) (N:=some 69) (v:=undef) (a':=?_) #[true,true,true,true,false,false,false,false,false,false,false,false,false,false,false,false] rfl rfl (c0z HT_.1 (by kernel_rfl)) (fun _ _ _ h => h) (Or.inr ⟨by rfl,rfl⟩) ?_ ?_
         rotate_left
         ·simp only [Act.put,sA_,sZ_,sS_,i64_w,i32_w]
          rfl
         refine pure_ (i:=4) (N:=some 70) (v:=undef) (a':=?_) #[true,true,true,true,true,false,false,false,false,false,false,false,false,false,false,false] rfl rfl (c0z HT_.1 (by kernel_rfl)) (fun _ _ _ h => h) (Or.inr ⟨by rfl,rfl⟩) ?_ ?_
         rotate_left
         ·simp only [Act.put,sA_,sZ_,sS_,i64_w,i32_w]
          rfl
         refine pure_ (i:=5) (N:=some 71) (v:=undef) (a':=?_) #[true,true,true,true,true,true,false,false,false,false,false,false,false,false,false,false] rfl rfl (c0z HT_.1 (by kernel_rfl)) (fun _ _ _ h => h) (Or.inr ⟨by rfl,rfl⟩) ?_ ?_
         rotate_left
         ·simp only [Act.put,sA_,sZ_,sS_,i64_w,i32_w]
          rfl
         refine pure_ (i:=6) (N:=some 72) (v:=undef) (a':=?_) #[true,true,true,true,true,true,true,false,false,false,false,false,false,false,false,false] rfl rfl (c0z HT_.1 (by kernel_rfl)) (fun _ _ _ h => h) (Or.inr ⟨by rfl,rfl⟩) ?_ ?_
         rotate_left
         ·simp only [Act.put,sA_,sZ_,sS_,i64_w,i32_w]
          rfl
         refine pure_ (i:=7) (N:=some 73) (v:=undef) (a':=?_) #[true,true,true,true,true,true,true,true,false,false,false,false,false,false,false,false] rfl rfl (c0z HT_.1 (by kernel_rfl)) (fun _ _ _ h => h) (Or.inr ⟨by rfl,rfl⟩) ?_ ?_
         rotate_left
         ·simp only [Act.put,sA_,sZ_,sS_,i64_w,i32_w]
          rfl
         refine pure_ (i:=8) (N:=some 74) (v:=undef) (a':=?_) #[true,true,true,true,true,true,true,true,true,false,false,false,false,false,false,false] rfl rfl (c0z HT_.1 (by kernel_rfl)) (fun _ _ _ h => h) (Or.inr ⟨by rfl,rfl⟩) ?_ ?_
         rotate_left
         ·simp only [Act.put,sA_,sZ_,sS_,i64_w,i32_w]
          rfl
         refine pure_ (i:=9) (N:=some 75) (v:=undef) (a':=?_) #[true,true,true,true,true,true,true,true,true,true,false,false,false,false,false,false] rfl rfl (c0z HT_.1 (by kernel_rfl)) (fun _ _ _ h => h) (Or.inr ⟨by rfl,rfl⟩) ?_ ?_
         rotate_left
         ·simp only [Act.put,sA_,sZ_,sS_,i64_w,i32_w]
          rfl
         refine pure_ (i:=10) (N:=some 76) (v:=undef) (a':=?_) #[true,true,true,true,true,true,true,true,true,true,true,false,false,false,false,false] rfl rfl (c0z HT_.1 (by kernel_rfl)) (fun _ _ _ h => h) (Or.inr ⟨by rfl,rfl⟩) ?_ ?_
         rotate_left
         ·simp only [Act.put,sA_,sZ_,sS_,i64_w,i32_w]
          rfl
         refine pure_ (i:=11) (N:=some 77) (v:=undef) (a':=?_) #[true,true,true,true,true,true,true,true,true,true,true,true,false,false,false,false] rfl rfl (c0z HT_.1 (by kernel_rfl)) (fun _ _ _ h => h) (Or.inr ⟨by rfl,rfl⟩) ?_ ?_
         rotate_left
         ·simp only [Act.put,sA_,sZ_,sS_,i64_w,i32_w]
          rfl
         refine pure_ (i:=12) (N:=some 78) (v:=undef) (a':=?_) #[true,true,true,true,true,true,true,true,true,true,true,true,true,false,false,false] rfl rfl (c0z HT_.1 (by kernel_rfl)) (fun _ _ _ h => h) (Or.inr ⟨by rfl,rfl⟩) ?_ ?_
         rotate_left
         ·simp only [Act.put,sA_,sZ_,sS_,i64_w,i32_w]
          rfl
         refine pure_ (i:=13) (N:=some 79) (v:=undef) (a':=?_) #[true,true,true,true,true,true,true,true,true,true,true,true,true,true,false,false] rfl rfl (c0z HT_.1 (by kernel_rfl)) (fun _ _ _ h => h) (Or.inr ⟨by rfl,rfl⟩) ?_ ?_
         rotate_left
         ·simp only [Act.put,sA_,sZ_,sS_,i64_w,i32_w]
          rfl
         refine pure_ (i:=14) (N:=some 80) (v:=undef) (a':=?_) #[true,true,true,true,true,true,true,true,true,true,true,true,true,true,true,false] rfl rfl (c0z HT_.1 (by kernel_rfl)) (fun _ _ _ h => h) (Or.inr ⟨by rfl,rfl⟩) ?_ ?_
         rotate_left
         ·simp only [Act.put,sA_,sZ_,sS_,i64_w,i32_w]
          rfl
         refine pure_ (i:=15) (N:=some 81) (v:=?_) (a':=?_) #[true,true,true,true,true,true,true,true,true,true,true,true,true,true,true,true] rfl rfl (c0z HT_.1 (by kernel_rfl)) (fun _ _ _ h => h) (Or.inl ⟨by rfl,?_⟩) ?_ ?_
         rotate_left
         ·intro w'
          go_simp
          with_reducible rfl
         rotate_left
         ·simp only [Act.put,sA_,sZ_,sS_,i64_w,i32_w]
          rfl
         refine done_ (g5z HT_.1 (by kernel_rfl)) ?_
         try go_wp2
         go_meet
         case rel => exact ⟨_,(false),(by first|rfl|(simp;done)|(simp [*];done)),H',⟨by have:=HK1.1;have:=HK2.1;first|omega|exact Nat.le_refl _⟩,⟨by (with_reducible repeat (first|apply Kd.R_alloc|apply Kd.a4z|apply Kd.a5z));exact HO_3.1⟩,⟨by (with_reducible repeat (first|apply Kd.R_alloc|apply Kd.a4z|apply Kd.a5z));exact HO_7.1⟩,⟨by repeat (first|(with_reducible first|exact HB.1|apply a3z|apply a1z|apply a2z)|exact HB.1)⟩⟩
       case rest =>
        clear HC63
        try clear c1
        try clear p1
        try clear q1
        try clear hx1
        try clear c2
        try clear p2
        try clear c3
        try clear c4
        try clear c4b0
        try clear q4
        try clear c5
        try clear q5
        try clear c6
        try clear p6
        try clear c7
        try clear p15
        try clear q15
        try clear hx15
        try clear c39
        try clear c40
        try clear c41
        try clear c42
        try clear c45
        try clear q49
        try clear c50
        try clear q50
        try clear c62
        try clear c62b0
        try clear p64
        try clear c66
        try clear c66b0
        try clear c67
        try clear c67b0
        try clear c69
        try clear c69b0
        try clear c70
        try clear c70b0
        try clear hx158_0
        try clear hx158_1
        try clear hx159_0
        try clear hx159_1
        try clear p158
        try clear p159
        try clear p2
        try clear p6
        try clear q050
        try clear q158
        try clear q159
        try clear q4
        try clear q49
        try clear q5
        try clear q50
        obtain ⟨kq,x81_62,rfl,HA,HJ62,HO_3,HO_7,HB⟩:=hcut
        cases kq with
        | zero => exact absurd HA.1 (by simp [spec_l2Spans.j3])
        | succ kj62 =>
         have H:=HA.1
         clear HA
         simp only [spec_l2Spans.j3] at H
         by_cases c73 : x81_62 = true
         ·subst c73
          have H1 : (if 0 ≤ x8_2 then (if x8_2 < (x3_2.length : Int) then (if 0 ≤ (wrap64 ((x7_2.length : Int) - 1)) then (if (wrap64 ((x7_2.length : Int) - 1)) < (x7_2.length : Int) then (if ((c6z x3_2 x8_2).f1) > ((c6z x7_2 (wrap64 ((x7_2.length : Int) - 1))).f1) then (spec_l2Spans.l2 kj62 x3_2 (x7_2.set ((wrap64 ((x7_2.length : Int) - 1)) : Int).toNat (⟨(c6z x7_2 (wrap64 ((x7_2.length : Int) - 1))).f0,(c6z x3_2 x8_2).f1⟩ : S63)) (wrap64 (x8_2 + 1))) else (spec_l2Spans.l2 kj62 x3_2 x7_2 (wrap64 (x8_2 + 1)))) else (none)) else (none)) else (none)) else (none)) = some r:=by rw [if_pos rfl] at H;exact H
          clear H
          have H:=H1
          clear H1
          by_cases c74 : 0 ≤ x8_2
          ·rw [if_pos c74] at H
           have c74b0 : decide (0 ≤ x8_2) = true:=decide_eq_true c74
           clear c74
           by_cases c75 : x8_2 < (x3_2.length : Int)
           ·rw [if_pos c75] at H
            have c75b0 : decide (x8_2 < (x3_2.length : Int)) = true:=decide_eq_true c75
            clear c75
            obtain ⟨ji76,hji76⟩ : ∃ j_ : Int,(wrap64 ((x7_2.length : Int) - 1)) = j_:=⟨_,rfl⟩
            replace H : (if 0 ≤ (ji76) then (if (ji76) < (x7_2.length : Int) then (if ((c6z x3_2 x8_2).f1) > ((c6z x7_2 (ji76)).f1) then (spec_l2Spans.l2 kj62 x3_2 (x7_2.set ((ji76) : Int).toNat (⟨(c6z x7_2 (ji76)).f0,(c6z x3_2 x8_2).f1⟩ : S63)) (wrap64 (x8_2 + 1))) else (spec_l2Spans.l2 kj62 x3_2 x7_2 (wrap64 (x8_2 + 1)))) else (none)) else (none)) = some r:=by first|(rw [hji76] at H;exact H)|(simp only [hji76] at H ⊢;exact H)
            have hji76w : (IntKind.i64.wrap ((x7_2.length : Int) - 1)) = ji76:=(i64_w _).trans hji76
            by_cases c77 : 0 ≤ (ji76)
            ·rw [if_pos c77] at H
             have c77b0 : decide (0 ≤ (ji76)) = true:=decide_eq_true c77
             clear c77
             by_cases c78 : (ji76) < (x7_2.length : Int)
             ·rw [if_pos c78] at H
              have c78b0 : decide ((ji76) < (x7_2.length : Int)) = true:=decide_eq_true c78
              clear c78
              by_cases c79 : ((c6z x3_2 x8_2).f1) > ((c6z x7_2 (ji76)).f1)
              ·rw [if_pos c79] at H
               have c79b0 : decide (((c6z x7_2 (ji76)).f1) < ((c6z x3_2 x8_2).f1)) = true:=decide_eq_true c79
               clear c79
               obtain ⟨y163,hy163⟩ : ∃ y_ : List (S63),y_ = (x7_2.set ((ji76) : Int).toNat (⟨(c6z x7_2 (ji76)).f0,(c6z x3_2 x8_2).f1⟩ : S63)):=⟨_,rfl⟩
               replace H : (spec_l2Spans.l2 kj62 x3_2 y163 (wrap64 (x8_2 + 1))) = some r:=by first|(rw [hy163];with_reducible exact H)|(have H2_:=(Option.bind_some _ _).symm.trans H;rw [hy163];with_reducible exact H2_)|(have H2_:=(Option.bind_some _ _).symm.trans H;with_reducible exact H2_)|with_reducible exact H|(rw [hy163];exact H)|exact H
               have Ny163:=a0z.mk hy163
               clear hy163
               have H':=a0z.mk H
               clear H
               try go_wp2
               have n0_:=a0z.mk (Kd.a5z HO_3.1)
               have n1_:=a0z.mk (Kd.a5z HO_7.1)
               have n2_:=a0z.mk (a2z HB.1)
               clear HO_3
               clear HO_7
               clear HB
               have HO_3:=n0_
               have HO_7:=n1_
               have HB:=n2_
               clear n0_ n1_ n2_
               have p160 : 0 ≤ (x8_2 : Int):=of_decide_eq_true (by first|(with_reducible assumption)|assumption)
               have q160 : x8_2 < (x3_2.length : Int):=of_decide_eq_true (by first|(with_reducible assumption)|assumption)
               obtain ⟨ad160,e160,hx160_0,hx160_1⟩:=h0z (Kd.b4z HO_3.1).2.2 x8_2 p160 q160
               cases e160
               replace p160:=eq_true p160
               replace q160:=eq_true q160
               have p161 : 0 ≤ ((ji76) : Int):=of_decide_eq_true (by first|(with_reducible assumption)|assumption)
               have q161 : (ji76) < (x7_2.length : Int):=of_decide_eq_true (by first|(with_reducible assumption)|assumption)
               obtain ⟨ad161,e161,hx161_0,hx161_1⟩:=h0z (Kd.b4z HO_7.1).2.2 (ji76) p161 q161
               cases e161
               replace p161:=eq_true p161
               replace q161:=eq_true q161
               refine g9z (n:=11) (S:=fun w' => w'.cell? (ad160.add ((x8_2).toNat * 2)) = some (.int .i64 ((c6z x3_2 x8_2).f0)) ∧ w'.cell? ⟨(ad160.add ((x8_2).toNat * 2)).block,(ad160.add ((x8_2).toNat * 2)).off + 1,none⟩ = some (.int .i64 ((c6z x3_2 x8_2).f1)) ∧ w'.cell? (ad161.add (((ji76)).toNat * 2)) = some (.int .i64 ((c6z x7_2 (ji76)).f0)) ∧ w'.cell? ⟨(ad161.add (((ji76)).toNat * 2)).block,(ad161.add (((ji76)).toNat * 2)).off + 1,none⟩ = some (.int .i64 ((c6z x7_2 (ji76)).f1))) (ds:=[]) #[false,false,false,false,false,false,false,false,false,false,false] (by kernel_rfl) rfl rfl ⟨hx160_0,hx160_1,hx161_0,hx161_1⟩ (fun hHeld => ?_);refine f8z spec_l2Spans.tab16 spec_l2Spans.bits16 (fun HT_ HW_ => ?_)
               generalize wc.drew = w81 at HO_3 HO_7 HB hx160_0 hx160_1 hx161_0 hx161_1 hHeld ⊢
               refine pure_ (i:=0) (N:=some 82) (v:=?_) (a':=?_) #[true,false,false,false,false,false,false,false,false,false,false] rfl rfl (c0z HT_.1 (by kernel_rfl)) (fun _ _ _ h => h) (Or.inl ⟨by rfl,?_⟩) ?_ ?_
               rotate_left
               ·intro w'
                go_simp
                with_reducible rfl
               rotate_left
               ·simp only [Act.put,sA_,sZ_,sS_,i64_w,i32_w]
                rfl
               refine pure_ (i:=1) (N:=some 83) (v:=?_) (a':=?_) #[true,true,false,false,false,false,false,false,false,false,false] rfl rfl (c0z HT_.1 (by kernel_rfl)) (fun _ _ _ h => h) (Or.inl ⟨by rfl,?_⟩) ?_ ?_
               rotate_left
               ·intro w'
                go_simp
                with_reducible rfl
               rotate_left
               ·simp only [Act.put,sA_,sZ_,sS_,i64_w,i32_w]
                rfl
               refine pure_ (i:=2) (N:=some 84) (v:=?_) (a':=?_) #[true,true,true,false,false,false,false,false,false,false,false] rfl rfl (c0z HT_.1 (by kernel_rfl)) (fun _ _ _ h => h) (Or.inl ⟨by rfl,?_⟩) ?_ ?_
               rotate_left
               ·intro w'
                go_simp
                with_reducible rfl
               rotate_left
               ·simp only [Act.put,sA_,sZ_,sS_,i64_w,i32_w]
                rfl
               refine pure_ (i:=3) (N:=some 85) (v:=?_) (a':=?_) #[true,true,true,true,false,false,false,false,false,false,false] rfl rfl (c0z HT_.1 (by kernel_rfl)) (fun _ _ _ h => h) (Or.inl ⟨by rfl,?_⟩) ?_ ?_
               rotate_left
               ·intro w'
                go_simp
                with_reducible rfl
               rotate_left
               ·simp only [Act.put,sA_,sZ_,sS_,i64_w,i32_w]
                rfl
               refine pure_ (i:=5) (N:=some 87) (v:=?_) (a':=?_) #[true,true,true,true,false,true,false,false,false,false,false] rfl rfl (c0z HT_.1 (by kernel_rfl)) (fun _ _ _ h => h) (Or.inl ⟨by rfl,?_⟩) ?_ ?_
               rotate_left
               ·intro w'
                go_simp
                with_reducible rfl
               rotate_left
               ·simp only [Act.put,sA_,sZ_,sS_,i64_w,i32_w]
                rfl
               refine pure_ (i:=6) (N:=some 88) (v:=?_) (a':=?_) #[true,true,true,true,false,true,true,false,false,false,false] rfl rfl (c0z HT_.1 (by kernel_rfl)) (fun _ _ _ h => h) (Or.inl ⟨by rfl,?_⟩) ?_ ?_
               rotate_left
               ·intro w'
                go_simp
                with_reducible rfl
               rotate_left
               ·simp only [Act.put,sA_,sZ_,sS_,i64_w,i32_w]
                rfl
               refine pure_ (i:=7) (N:=some 89) (v:=?_) (a':=?_) #[true,true,true,true,false,true,true,true,false,false,false] rfl rfl (c0z HT_.1 (by kernel_rfl)) (fun _ _ _ h => h) (Or.inl ⟨by rfl,?_⟩) ?_ ?_
               rotate_left
               ·intro w'
                go_simp
                with_reducible rfl
               rotate_left
               ·simp only [Act.put,sA_,sZ_,sS_,i64_w,i32_w]
                rfl
               refine pure_ (i:=8) (N:=some 90) (v:=?_) (a':=?_) #[true,true,true,true,false,true,true,true,true,false,false] rfl rfl (c0z HT_.1 (by kernel_rfl)) (fun _ _ _ h => h) (Or.inl ⟨by rfl,?_⟩) ?_ ?_
               rotate_left
               ·intro w'
                go_simp
                with_reducible rfl
               rotate_left
               ·simp only [Act.put,sA_,sZ_,sS_,i64_w,i32_w]
                rfl
               refine take_ (i:=4) (N:=some 86) (v:=?_) (a':=?_) #[true,true,true,true,true,true,true,true,true,false,false] rfl rfl (f3z HT_.1 HW_.1 (by kernel_rfl)) (fun _ _ _ h => h) (Or.inl ⟨by rfl,?_⟩) hHeld ?_ ?_
               rotate_left
               ·rintro w' ⟨s0,s1,s2,s3⟩
                go_simp
                with_reducible rfl
               rotate_left
               ·simp only [Act.put,sA_,sZ_,sS_,i64_w,i32_w]
                rfl
               refine take_ (i:=9) (N:=some 91) (v:=?_) (a':=?_) #[true,true,true,true,true,true,true,true,true,true,false] rfl rfl (f3z HT_.1 HW_.1 (by kernel_rfl)) (fun _ _ _ h => h) (Or.inl ⟨by rfl,?_⟩) hHeld ?_ ?_
               rotate_left
               ·rintro w' ⟨s0,s1,s2,s3⟩
                go_simp
                with_reducible rfl
               rotate_left
               ·simp only [Act.put,sA_,sZ_,sS_,i64_w,i32_w]
                rfl
               refine pure_ (i:=10) (N:=some 92) (v:=?_) (a':=?_) #[true,true,true,true,true,true,true,true,true,true,true] rfl rfl (c0z HT_.1 (by kernel_rfl)) (fun _ _ _ h => h) (Or.inl ⟨by rfl,?_⟩) ?_ ?_
               rotate_left
               ·intro w'
                go_simp
                with_reducible rfl
               rotate_left
               ·simp only [Act.put,sA_,sZ_,sS_,i64_w,i32_w]
                rfl
               refine done_ (g5z HT_.1 (by kernel_rfl)) ?_
               have p162 : 0 ≤ (x8_2 : Int):=of_decide_eq_true (by first|(with_reducible assumption)|assumption)
               have q162 : x8_2 < (x3_2.length : Int):=of_decide_eq_true (by first|(with_reducible assumption)|assumption)
               obtain ⟨ad162,e162,hx162_0,hx162_1⟩:=h0z (Kd.b4z HO_3.1).2.2 x8_2 p162 q162
               obtain rfl : ad160 = ad162:=(by injection e162)
               replace p162:=eq_true p162
               replace q162:=eq_true q162
               have p80 : 0 ≤ ((ji76) : Int):=of_decide_eq_true (by first|(with_reducible assumption)|assumption)
               have q80 : ((ji76) : Int) < ((x7_2.length : Int) : Int):=of_decide_eq_true (by first|(with_reducible assumption)|assumption)
               obtain ⟨go80,co80,eo80,gb80,gl80,cl80,HG80⟩:=Kd.R_form HO_7.1 (by omega)
               (first|cases eo80|(injection eo80 with ea_ en_ ec_;(first|subst ea_|(injection ea_ with ea_;subst ea_));subst ec_;clear en_))
               have GB80:=a0z.mk gb80
               have GG80:=a0z.mk HG80
               clear gb80 gl80 HG80
               (first|simp only [add_plain] at hx161_0|skip)
               (first|simp only [add_plain] at hx161_1|skip)
               obtain ⟨ce80,hcl80,hM80,hcc80,hfr80⟩:=Kd.R_elem HO_7.1 z63 ((ji76) : Int) p80 q80
               obtain rfl:=k63_openM hM80
               have hx80_0 : w81.cell? ⟨go80,((ji76) : Int).toNat * 2,none⟩ = some (.int .i64 ((c6z x7_2 (ji76)).f0)):=hcc80 0 _ rfl
               have hx80_1 : w81.cell? ⟨go80,((ji76) : Int).toNat * 2 + 1,none⟩ = some (.int .i64 ((c6z x7_2 (ji76)).f1)):=hcc80 1 _ rfl
               have hf80_0 : w81.frozen? ⟨go80,((ji76) : Int).toNat * 2,none⟩ = false:=hfr80 0
               have hf80_1 : w81.frozen? ⟨go80,((ji76) : Int).toNat * 2 + 1,none⟩ = false:=hfr80 1
               clear hcl80 hcc80 hfr80 hM80
               replace p80:=eq_true p80
               replace q80:=eq_true q80
               have HX82:=a0z.mk (show Kd.R k63 63 w81 w.heap.size (fun k_ => some k_ ≠ (.slice (some ad160) x3_2.length co64 : Value).ownBlock) (.slice (some ⟨go80,0,none⟩) x7_2.length co65) x7_2 from (by (with_reducible repeat (first|apply Kd.R_alloc|apply Kd.a4z|apply Kd.a5z));exact HO_7.1))
               obtain ⟨ce82,hcl82,hM82,hcc82,hfr82⟩:=Kd.R_elem HX82.1 z63 ((ji76) : Int) (of_decide_eq_true (by first|(with_reducible assumption)|assumption)) (by have h_ : ((ji76) : Int) < ((x7_2.length : Int) : Int):=of_decide_eq_true (by first|(with_reducible assumption)|assumption);first|exact h_|(have e_:=(Kd.b4z HO_7.1).1;omega)|simpa using h_)
               obtain rfl:=k63_openM hM82
               have HP82:=Kd.R_seg HX82.1 ((ji76) : Int) (of_decide_eq_true (by first|(with_reducible assumption)|assumption)) (by have h_ : ((ji76) : Int) < ((x7_2.length : Int) : Int):=of_decide_eq_true (by first|(with_reducible assumption)|assumption);first|exact h_|(have e_:=(Kd.b4z HO_7.1).1;omega)|simpa using h_) (seg:=[.int .i64 ((c6z x3_2 x8_2).f1)]) (j:=1) hcl82 hcc82 (show 2 ≤ 2 from by decide) (x':=(⟨(c6z x7_2 (ji76)).f0,(c6z x3_2 x8_2).f1⟩ : S63)) (h9z _ _ _ (⟨(c6z x7_2 (ji76)).f0,(c6z x3_2 x8_2).f1⟩ : S63) ) (fun _ hk => hk)
               have hx82_1:=hcc82 1 _ rfl
               (try simp only [show (k63).sz = 2 from rfl,Nat.mul_one,Nat.add_zero] at hx82_1)
               have hf82_1:=hfr82 1
               (try simp only [show (k63).sz = 2 from rfl,Nat.mul_one,Nat.add_zero] at hf82_1)
               clear hcl82 hcc82 hfr82 hM82
               try go_wp2_with (first|((with_reducible refine gate_store (t:=3) (p:=101) rfl ?_);refine store_event (t:=3) (p:=101) (v:=?vo_w83) (w1:=(w81.setCell ⟨go80,((ji76) : Int).toNat * 2 + 1,none⟩ (.int .i64 ((c6z x3_2 x8_2).f1)))) ?hg ?ho ?hn ?hr ?_;(case ho => rfl);(case hg => rfl);(case hn => rfl);(case hr => first|(go_simp;done)|(go_simp;rfl));intro w83 hw;have hg : w81.grownBy w83 (some go80):=(by rw [hw];exact HP82.2);have hp_ : Kd.R k63 63 w83 w.heap.size (fun k_ => some k_ ≠ (.slice (some ad160) x3_2.length co64 : Value).ownBlock) (.slice (some ⟨go80,0,none⟩) x7_2.length co65) y163:=(by rw [hw,Ny163.1];exact HP82.1);clear HP82;have n0_:=a0z.mk (Kd.c9z (v:=(.slice (some ⟨go80,0,none⟩) x7_2.length co65)) (v1:=(.slice (some ⟨go80,0,none⟩) x7_2.length co65)) (ok:=(fun _ => True)) (by (with_reducible repeat (first|apply Kd.R_alloc|apply Kd.a4z|apply Kd.a5z));exact Kd.b5z HO_3.1 (fun _ hk => ⟨trivial,hk⟩)) hg (.inl rfl));have n1_:=a0z.mk (hp_);have n2_:=a0z.mk ((by rw [hw];exact a6z (HB.1) GB80.1 : Below w.heap.size w w83));clear HO_3;clear HO_7;clear HB;have HO_3:=n0_;have HO_7:=n1_;have HB:=n2_;clear n0_ n1_ n2_;clear hg hw hp_))
               go_roundg kj62
               case measure => have:=HK1.1;have:=HK2.1;have:=HJ62.1;omega
               case rel => exact ⟨(x3_2),(y163),(wrap64 (x8_2 + 1)),(by first|rfl|(simp;done)|(simp [*];done)),H',⟨by have:=HK1.1;have:=HK2.1;have:=HJ62.1;omega⟩,⟨by (with_reducible repeat (first|apply Kd.R_alloc|apply Kd.a4z|apply Kd.a5z));exact Kd.b5z HO_3.1 (fun _ hk => hk.2)⟩,⟨by (with_reducible repeat (first|apply Kd.R_alloc|apply Kd.a4z|apply Kd.a5z));exact HO_7.1⟩,⟨by repeat (first|(with_reducible first|exact HB.1|apply a3z|apply a1z|apply a2z)|exact HB.1)⟩⟩
              ·rw [if_neg c79] at H
               have c79b0 : decide (((c6z x7_2 (ji76)).f1) < ((c6z x3_2 x8_2).f1)) = false:=decide_eq_false c79
               clear c79
               have H':=a0z.mk H
               clear H
               try go_wp2
               have n0_:=a0z.mk (Kd.a5z HO_3.1)
               have n1_:=a0z.mk (Kd.a5z HO_7.1)
               have n2_:=a0z.mk (a2z HB.1)
               clear HO_3
               clear HO_7
               clear HB
               have HO_3:=n0_
               have HO_7:=n1_
               have HB:=n2_
               clear n0_ n1_ n2_
               have p160 : 0 ≤ (x8_2 : Int):=of_decide_eq_true (by first|(with_reducible assumption)|assumption)
               have q160 : x8_2 < (x3_2.length : Int):=of_decide_eq_true (by first|(with_reducible assumption)|assumption)
               obtain ⟨ad160,e160,hx160_0,hx160_1⟩:=h0z (Kd.b4z HO_3.1).2.2 x8_2 p160 q160
               cases e160
               replace p160:=eq_true p160
               replace q160:=eq_true q160
               have p161 : 0 ≤ ((ji76) : Int):=of_decide_eq_true (by first|(with_reducible assumption)|assumption)
               have q161 : (ji76) < (x7_2.length : Int):=of_decide_eq_true (by first|(with_reducible assumption)|assumption)
               obtain ⟨ad161,e161,hx161_0,hx161_1⟩:=h0z (Kd.b4z HO_7.1).2.2 (ji76) p161 q161
               cases e161
               replace p161:=eq_true p161
               replace q161:=eq_true q161
               refine g9z (n:=11) (S:=fun w' => w'.cell? (ad160.add ((x8_2).toNat * 2)) = some (.int .i64 ((c6z x3_2 x8_2).f0)) ∧ w'.cell? ⟨(ad160.add ((x8_2).toNat * 2)).block,(ad160.add ((x8_2).toNat * 2)).off + 1,none⟩ = some (.int .i64 ((c6z x3_2 x8_2).f1)) ∧ w'.cell? (ad161.add (((ji76)).toNat * 2)) = some (.int .i64 ((c6z x7_2 (ji76)).f0)) ∧ w'.cell? ⟨(ad161.add (((ji76)).toNat * 2)).block,(ad161.add (((ji76)).toNat * 2)).off + 1,none⟩ = some (.int .i64 ((c6z x7_2 (ji76)).f1))) (ds:=[]) #[false,false,false,false,false,false,false,false,false,false,false] (by kernel_rfl) rfl rfl ⟨hx160_0,hx160_1,hx161_0,hx161_1⟩ (fun hHeld => ?_);refine f8z spec_l2Spans.tab16 spec_l2Spans.bits16 (fun HT_ HW_ => ?_)
               generalize wc.drew = w84 at HO_3 HO_7 HB hx160_0 hx160_1 hx161_0 hx161_1 hHeld ⊢
               refine pure_ (i:=0) (N:=some 82) (v:=?_) (a':=?_) #[true,false,false,false,false,false,false,false,false,false,false] rfl rfl (c0z HT_.1 (by kernel_rfl)) (fun _ _ _ h => h) (Or.inl ⟨by rfl,?_⟩) ?_ ?_
               rotate_left
               ·intro w'
                go_simp
                with_reducible rfl
               rotate_left
               ·simp only [Act.put,sA_,sZ_,sS_,i64_w,i32_w]
                rfl
               refine pure_ (i:=1) (N:=some 83) (v:=?_) (a':=?_) #[true,true,false,false,false,false,false,false,false,false,false] rfl rfl (c0z HT_.1 (by kernel_rfl)) (fun _ _ _ h => h) (Or.inl ⟨by rfl,?_⟩) ?_ ?_
               rotate_left
               ·intro w'
                go_simp
                with_reducible rfl
               rotate_left
               ·simp only [Act.put,sA_,sZ_,sS_,i64_w,i32_w]
                rfl
               refine pure_ (i:=2) (N:=some 84) (v:=?_) (a':=?_) #[true,true,true,false,false,false,false,false,false,false,false] rfl rfl (c0z HT_.1 (by kernel_rfl)) (fun _ _ _ h => h) (Or.inl ⟨by rfl,?_⟩) ?_ ?_
               rotate_left
               ·intro w'
                go_simp
                with_reducible rfl
               rotate_left
               ·simp only [Act.put,sA_,sZ_,sS_,i64_w,i32_w]
                rfl
               refine pure_ (i:=3) (N:=some 85) (v:=?_) (a':=?_) #[true,true,true,true,false,false,false,false,false,false,false] rfl rfl (c0z HT_.1 (by kernel_rfl)) (fun _ _ _ h => h) (Or.inl ⟨by rfl,?_⟩) ?_ ?_
               rotate_left
               ·intro w'
                go_simp
                with_reducible rfl
               rotate_left
               ·simp only [Act.put,sA_,sZ_,sS_,i64_w,i32_w]
                rfl
               refine pure_ (i:=5) (N:=some 87) (v:=?_) (a':=?_) #[true,true,true,true,false,true,false,false,false,false,false] rfl rfl (c0z HT_.1 (by kernel_rfl)) (fun _ _ _ h => h) (Or.inl ⟨by rfl,?_⟩) ?_ ?_
               rotate_left
               ·intro w'
                go_simp
                with_reducible rfl
               rotate_left
               ·simp only [Act.put,sA_,sZ_,sS_,i64_w,i32_w]
                rfl
               refine pure_ (i:=6) (N:=some 88) (v:=?_) (a':=?_) #[true,true,true,true,false,true,true,false,false,false,false] rfl rfl (c0z HT_.1 (by kernel_rfl)) (fun _ _ _ h => h) (Or.inl ⟨by rfl,?_⟩) ?_ ?_
               rotate_left
               ·intro w'
                go_simp
                with_reducible rfl
               rotate_left
               ·simp only [Act.put,sA_,sZ_,sS_,i64_w,i32_w]
                rfl
               refine pure_ (i:=7) (N:=some 89) (v:=?_) (a':=?_) #[true,true,true,true,false,true,true,true,false,false,false] rfl rfl (c0z HT_.1 (by kernel_rfl)) (fun _ _ _ h => h) (Or.inl ⟨by rfl,?_⟩) ?_ ?_
               rotate_left
               ·intro w'
                go_simp
                with_reducible rfl
               rotate_left
               ·simp only [Act.put,sA_,sZ_,sS_,i64_w,i32_w]
                rfl
               refine pure_ (i:=8) (N:=some 90) (v:=?_) (a':=?_) #[true,true,true,true,false,true,true,true,true,false,false] rfl rfl (c0z HT_.1 (by kernel_rfl)) (fun _ _ _ h => h) (Or.inl ⟨by rfl,?_⟩) ?_ ?_
               rotate_left
               ·intro w'
                go_simp
                with_reducible rfl
               rotate_left
               ·simp only [Act.put,sA_,sZ_,sS_,i64_w,i32_w]
                rfl
               refine take_ (i:=4) (N:=some 86) (v:=?_) (a':=?_) #[true,true,true,true,true,true,true,true,true,false,false] rfl rfl (f3z HT_.1 HW_.1 (by kernel_rfl)) (fun _ _ _ h => h) (Or.inl ⟨by rfl,?_⟩) hHeld ?_ ?_
               rotate_left
               ·rintro w' ⟨s0,s1,s2,s3⟩
                go_simp
                with_reducible rfl
               rotate_left
               ·simp only [Act.put,sA_,sZ_,sS_,i64_w,i32_w]
                rfl
               refine take_ (i:=9) (N:=some 91) (v:=?_) (a':=?_) #[true,true,true,true,true,true,true,true,true,true,false] rfl rfl (f3z HT_.1 HW_.1 (by kernel_rfl)) (fun _ _ _ h => h) (Or.inl ⟨by rfl,?_⟩) hHeld ?_ ?_
               rotate_left
               ·rintro w' ⟨s0,s1,s2,s3⟩
                go_simp
                with_reducible rfl
               rotate_left
               ·simp only [Act.put,sA_,sZ_,sS_,i64_w,i32_w]
                rfl
               refine pure_ (i:=10) (N:=some 92) (v:=?_) (a':=?_) #[true,true,true,true,true,true,true,true,true,true,true] rfl rfl (c0z HT_.1 (by kernel_rfl)) (fun _ _ _ h => h) (Or.inl ⟨by rfl,?_⟩) ?_ ?_
               rotate_left
               ·intro w'
                go_simp
                with_reducible rfl
               rotate_left
               ·simp only [Act.put,sA_,sZ_,sS_,i64_w,i32_w]
                rfl
               refine done_ (g5z HT_.1 (by kernel_rfl)) ?_
               try go_wp2
               go_roundg kj62
               case measure => have:=HK1.1;have:=HK2.1;have:=HJ62.1;omega
               case rel => exact ⟨(x3_2),(x7_2),(wrap64 (x8_2 + 1)),(by first|rfl|(simp;done)|(simp [*];done)),H',⟨by have:=HK1.1;have:=HK2.1;have:=HJ62.1;omega⟩,⟨by (with_reducible repeat (first|apply Kd.R_alloc|apply Kd.a4z|apply Kd.a5z));exact HO_3.1⟩,⟨by (with_reducible repeat (first|apply Kd.R_alloc|apply Kd.a4z|apply Kd.a5z));exact HO_7.1⟩,⟨by repeat (first|(with_reducible first|exact HB.1|apply a3z|apply a1z|apply a2z)|exact HB.1)⟩⟩
             ·rw [if_neg c78] at H
              exact absurd H (by simp)
            ·rw [if_neg c77] at H
             exact absurd H (by simp)
           ·rw [if_neg c75] at H
            exact absurd H (by simp)
          ·rw [if_neg c74] at H
           exact absurd H (by simp)
         ·replace c73:=Bool.eq_false_iff.mpr c73
          subst c73
          have H1 : (if 0 ≤ x8_2 then (if x8_2 < (x3_2.length : Int) then ((some (([(⟨(c6z x3_2 x8_2).f0,(c6z x3_2 x8_2).f1⟩ : S63)] : List (S63)) : List (S63))).bind fun y165 => (if x7_2.length + y165.length < 8796093022208 then (spec_l2Spans.l2 kj62 x3_2 (x7_2 ++ y165) (wrap64 (x8_2 + 1))) else (none))) else (none)) else (none)) = some r:=by rw [if_neg (show ¬ (false = true) by decide)] at H;exact H
          clear H
          have H:=H1
          clear H1
          by_cases c85 : 0 ≤ x8_2
          ·rw [if_pos c85] at H
           have c85b0 : decide (0 ≤ x8_2) = true:=decide_eq_true c85
           clear c85
           by_cases c86 : x8_2 < (x3_2.length : Int)
           ·rw [if_pos c86] at H
            have c86b0 : decide (x8_2 < (x3_2.length : Int)) = true:=decide_eq_true c86
            clear c86
            obtain ⟨y165,hy165⟩ : ∃ y_ : List (S63),y_ = (([(⟨(c6z x3_2 x8_2).f0,(c6z x3_2 x8_2).f1⟩ : S63)] : List (S63))):=⟨_,rfl⟩
            replace H : (if x7_2.length + y165.length < 8796093022208 then (spec_l2Spans.l2 kj62 x3_2 (x7_2 ++ y165) (wrap64 (x8_2 + 1))) else (none)) = some r:=by first|(rw [hy165];with_reducible exact H)|(have H2_:=(Option.bind_some _ _).symm.trans H;rw [hy165];with_reducible exact H2_)|(have H2_:=(Option.bind_some _ _).symm.trans H;with_reducible exact H2_)|with_reducible exact H|(rw [hy165];exact H)|exact H
            have Ny165:=a0z.mk hy165
            clear hy165
            by_cases c87 : x7_2.length + y165.length < 8796093022208
            ·rw [if_pos c87] at H
             have LMc87:=a0z.mk c87
             clear c87
             obtain ⟨y168,hy168⟩ : ∃ y_ : List (S63),y_ = (x7_2 ++ y165):=⟨_,rfl⟩
             replace H : (spec_l2Spans.l2 kj62 x3_2 y168 (wrap64 (x8_2 + 1))) = some r:=by first|(rw [hy168];with_reducible exact H)|(have H2_:=(Option.bind_some _ _).symm.trans H;rw [hy168];with_reducible exact H2_)|(have H2_:=(Option.bind_some _ _).symm.trans H;with_reducible exact H2_)|with_reducible exact H|(rw [hy168];exact H)|exact H
             have Ny168:=a0z.mk hy168
             clear hy168
             have H':=a0z.mk H
             clear H
             have p164 : 0 ≤ (x8_2 : Int):=of_decide_eq_true (by first|(with_reducible assumption)|assumption)
             have q164 : x8_2 < (x3_2.length : Int):=of_decide_eq_true (by first|(with_reducible assumption)|assumption)
             obtain ⟨ad164,e164,hx164_0,hx164_1⟩:=h0z (Kd.b4z HO_3.1).2.2 x8_2 p164 q164
             cases e164
             replace p164:=eq_true p164
             replace q164:=eq_true q164
             go_wp2_with (first|((with_reducible refine d4z (N:=107) rfl ?_);refine Kd.R_lit k63 _ 63 ?hg (N:=107) ?hd (xs:=([(⟨(c6z x3_2 x8_2).f0,(c6z x3_2 x8_2).f1⟩ : S63)] : List (S63))) (inner:=[.int .i64 ((c6z x3_2 x8_2).f0),.int .i64 ((c6z x3_2 x8_2).f1)]) (ok:=fun _ => True) (okp:=fun _ => True) ?hr ?hp (fun _ hk => hk) trivial (Below.refl _ _) (Nat.le_refl _) (by simp) ?_;(case hd => rfl);(case hg => rfl);(case hr => first|(go_simp;done)|(go_simp;rfl));(case hp => exact (Reps.c2 (show Kd.M k63 _ _ _ (⟨(c6z x3_2 x8_2).f0,(c6z x3_2 x8_2).f1⟩ : S63) [.int .i64 ((c6z x3_2 x8_2).f0),.int .i64 ((c6z x3_2 x8_2).f1)] from (h9z _ _ _ (⟨(c6z x3_2 x8_2).f0,(c6z x3_2 x8_2).f1⟩ : S63) )) (Reps.none _ _)));intro v166 w88 ho89 hb hg_ hnew_;clear hg_ hnew_;(first|rw [← Ny165.1] at ho89|(simp only [Int.reduceToNat] at ho89;rw [← Ny165.1] at ho89));have n0_:=a0z.mk (Kd.c4z (by (with_reducible repeat (first|apply Kd.R_alloc|apply Kd.a4z|apply Kd.a5z));exact HO_3.1) (Kd.d1z ho89) hb);have n1_:=a0z.mk (Kd.c4z (by (with_reducible repeat (first|apply Kd.R_alloc|apply Kd.a4z|apply Kd.a5z));exact HO_7.1) (Kd.d1z ho89) hb);have n2_:=a0z.mk (Kd.d5z (Kd.d0z (Kd.d0z ho89 (Kd.R_lt (by (with_reducible repeat (first|apply Kd.R_alloc|apply Kd.a4z|apply Kd.a5z));exact HO_3.1))) (Kd.R_lt (by (with_reducible repeat (first|apply Kd.R_alloc|apply Kd.a4z|apply Kd.a5z));exact HO_7.1))) (b1z (by repeat (first|(with_reducible first|exact HB.1|apply a3z|apply a1z|apply a2z)|exact HB.1))));have n3_:=a0z.mk (b3z (by repeat (first|(with_reducible first|exact HB.1|apply a3z|apply a1z|apply a2z)|exact HB.1)) hb);clear HO_3;clear HO_7;clear HB;have HO_3:=n0_;have HO_7:=n1_;have HO167:=n2_;have HB:=n3_;clear n0_ n1_ n2_ n3_;clear hb ho89;obtain ⟨Ao91,co91,eo91⟩:=Kd.d3z HO167.1;subst eo91)|((with_reducible refine e5z (b:=.append) (xs:=#[.tmp 102,.tmp 107]) rfl ?_);at_builtin;refine Kd.g1z k63 (w0:=w) w.heap.size rfl (.tmp 102) (.tmp 107) 41 63 (.agg #[(.int .i64 0),(.int .i64 0)]) 16 rfl Try.underlying41 info63 rfl (by decide) (by omega) (.slice Ao65 x7_2.length co65) x7_2 y165 _ _ _ (fun k_ => some k_ ≠ (.slice (some ad164) x3_2.length co64 : Value).ownBlock ∧ some k_ ≠ (.slice Ao91 y165.length co91 : Value).ownBlock) (fun _ => False) rfl rfl ?aO ?aR (fun _ _ h => h) (fun _ h => h.elim) ?aF ?aB ?aS ?aL ?_;(case aR => repeat (first|exact (Kd.b4z HO167.1).2.2|(with_reducible refine Kd.C_alloc ?_ _)|(with_reducible refine Kd.C_drewN ?_ _)|(with_reducible refine Kd.C_drew ?_)));(case aB => exact (by repeat (first|(with_reducible first|exact HB.1|apply a3z|apply a1z|apply a2z)|exact HB.1)));(case aF => exact (fun k_ hk => ⟨Kd.fresh' (Kd.R_lt (by (with_reducible repeat (first|apply Kd.R_alloc|apply Kd.a4z|apply Kd.a5z));exact HO_3.1)) k_ hk,Kd.fresh' (Kd.R_lt (by (with_reducible repeat (first|apply Kd.R_alloc|apply Kd.a4z|apply Kd.a5z));exact HO167.1)) k_ hk⟩));(case aO => exact (by (with_reducible repeat (first|apply Kd.R_alloc|apply Kd.a4z|apply Kd.a5z));exact HO_7.1));(case aS => exact (b1z (by repeat (first|(with_reducible first|exact HB.1|apply a3z|apply a1z|apply a2z)|exact HB.1))));(case aL => have:=LMc87.1;omega);intro v169 w90 ho hb hg hat;rw [← Ny168.1] at ho;have n0_:=a0z.mk (Kd.c9z (ok:=(fun k_ => some k_ ≠ (.slice Ao91 y165.length co91 : Value).ownBlock)) (by (with_reducible repeat (first|apply Kd.R_alloc|apply Kd.a4z|apply Kd.a5z));exact Kd.b5z HO_3.1 (fun _ hk => ⟨hk.2,hk.1⟩)) hg hat);have n1_:=a0z.mk (Kd.c9z (ok:=(fun k_ => some k_ ≠ (.slice (some ad164) x3_2.length co64 : Value).ownBlock)) (by (with_reducible repeat (first|apply Kd.R_alloc|apply Kd.a4z|apply Kd.a5z));exact Kd.b5z HO167.1 (fun _ hk => ⟨hk.1.2,hk.2⟩)) hg hat);have n2_:=a0z.mk (hb);have n3_:=a0z.mk (ho);clear HO_3;clear HO167;clear HB;clear HO_7;have HO_3:=n0_;have HO167:=n1_;have HB:=n2_;have HO170:=n3_;clear n0_ n1_ n2_ n3_;clear ho hb hg hat))
             go_roundg kj62
             case measure => have:=HK1.1;have:=HK2.1;have:=HJ62.1;omega
             case rel => exact ⟨(x3_2),(y168),(wrap64 (x8_2 + 1)),(by first|rfl|(simp;done)|(simp [*];done)),H',⟨by have:=HK1.1;have:=HK2.1;have:=HJ62.1;omega⟩,⟨by (with_reducible repeat (first|apply Kd.R_alloc|apply Kd.a4z|apply Kd.a5z));exact Kd.b5z HO_3.1 (fun _ hk => hk.2)⟩,⟨by (with_reducible repeat (first|apply Kd.R_alloc|apply Kd.a4z|apply Kd.a5z));exact Kd.b5z HO170.1 (fun _ hk => hk.1)⟩,⟨by repeat (first|(with_reducible first|exact HB.1|apply a3z|apply a1z|apply a2z)|exact HB.1)⟩⟩
            ·rw [if_neg c87] at H
             exact absurd H (by simp)
           ·rw [if_neg c86] at H
            exact absurd H (by simp)
          ·rw [if_neg c85] at H
           exact absurd H (by simp)
      ·rw [if_neg c62] at H
       have c62b0 : decide (x8_2 < (x3_2.length : Int)) = false:=decide_eq_false c62
       clear c62
       obtain rfl:=Option.some.inj H
       obtain ⟨Ao92,co92,eo92⟩:=Kd.d3z HO_3.1
       subst eo92
       go_wp2
       go_ret
       exact ⟨_,by first|rfl|(simp [c2z,c1z] <;> rfl)|(simp [*,c2z,c1z] <;> rfl),by (with_reducible repeat (first|apply Kd.R_alloc|apply Kd.a4z|apply Kd.a5z));exact Kd.b5z HO_7.1 (fun _ hk => trivial),by repeat (first|(with_reducible first|exact HB.1|apply a3z|apply a1z|apply a2z)|exact HB.1)⟩
end Go.Proofs.Ytmdhedkgpgoneaa.Q

namespace Go.Proofs.Ytmdhedkgpgoneaa.Q
open Go.RowKit Go.Proofs.YtmdhedkgpgoneaaW.PrintWords Go.Proofs.YtmdhedkgpgoneaaW.PrintLast Go.Proofs.YtmdhedkgpgoneaaW.PrintMore
attribute [local go_sem] e4z e2z e7z e6z d8z d7z e3z e1z
set_option linter.unusedVariables false
set_option linter.unusedSimpArgs false
def spec_l1In.f (a0 : Int) (a1 : Int) (a2 : Int) : Option (Bool):=if a0 ≥ a1 then (some (decide (a0 ≤ a2))) else (some false)
set_option maxHeartbeats 8000000 in
set_option maxRecDepth 100000 in
theorem spec_l1In.calls (a0 : Int) (a1 : Int) (a2 : Int) (r : Bool) (w : World) (h : spec_l1In.f a0 a1 a2 = some r) :
  Calls Try.prog 69 #[.int .i64 a0,.int .i64 a1,.int .i64 a2] w fun e w' => e = .returned (.bool r) ∧ Drawn0 w w':=by
 have H : (if a0 ≥ a1 then (some (decide (a0 ≤ a2))) else (some false)) = some r:=h
 clear h
 by_cases c4 : a0 ≥ a1
 ·rw [if_pos c4] at H
  have c4b0 : decide (a1 ≤ a0) = true:=decide_eq_true c4
  clear c4
  obtain rfl:=Option.some.inj H
  go_enter Try.func69,Try.ntmps69
  go_wp2
  go_ret
  exact ⟨by first|rfl|(simp;done)|(simp [*];done),by repeat (first|exact Drawn0.refl _|apply Drawn0.step)⟩
 ·rw [if_neg c4] at H
  have c4b0 : decide (a1 ≤ a0) = false:=decide_eq_false c4
  clear c4
  obtain rfl:=Option.some.inj H
  go_enter Try.func69,Try.ntmps69
  go_wp2
  go_ret
  exact ⟨by first|rfl|(simp;done)|(simp [*];done),by repeat (first|exact Drawn0.refl _|apply Drawn0.step)⟩
end Go.Proofs.Ytmdhedkgpgoneaa.Q

namespace Go.Proofs.Ytmdhedkgpgoneaa.Q
open Go.RowKit Go.Proofs.YtmdhedkgpgoneaaW.PrintWords Go.Proofs.YtmdhedkgpgoneaaW.PrintLast Go.Proofs.YtmdhedkgpgoneaaW.PrintMore
attribute [local go_sem] e4z e2z e7z e6z d8z d7z e3z e1z
set_option linter.unusedVariables false
set_option linter.unusedSimpArgs false
def spec_l1Addr.f (a0 : Int) : Option (Bool):=(spec_l1In.f a0 0 4294967295).bind fun t101 => (some t101)
set_option maxHeartbeats 8000000 in
set_option maxRecDepth 100000 in
theorem spec_l1Addr.calls (a0 : Int) (r : Bool) (w : World) (h : spec_l1Addr.f a0 = some r) :
  Calls Try.prog 68 #[.int .i64 a0] w fun e w' => e = .returned (.bool r) ∧ Drawn0 w w':=by
 have H : ((spec_l1In.f a0 0 4294967295).bind fun t101 => (some t101)) = some r:=h
 clear h
 replace H:=Option.bind_eq_some_iff.mp H
 obtain ⟨t101,A20,H⟩:=H
 replace H : (some t101) = some r:=H
 have A2:=a0z.mk A20
 clear A20
 obtain rfl:=Option.some.inj H
 go_enter Try.func68,Try.ntmps68
 go_wp2_with (first|((with_reducible refine b8z (f:=69) rfl ?_);refine d2z (some 4) rfl rfl Try.func69 (by kernel_rfl) rfl #[.int .i64 a0,.int .i64 0,.int .i64 4294967295] rfl (by (try simp only [List.map_toArray,List.map_cons,List.map_nil]);first|done|rfl|(simp only [List.length_drop,List.length_take];rfl)) ?_;(with_reducible refine (spec_l1In.calls a0 0 4294967295 t101 _ A2.1).mono ?_);rintro e w' ⟨rfl,⟨nd,rfl⟩⟩;refine ⟨_,rfl,?_⟩))
 go_ret
 exact ⟨by first|rfl|(simp;done)|(simp [*];done),by repeat (first|exact Drawn0.refl _|apply Drawn0.step)⟩
end Go.Proofs.Ytmdhedkgpgoneaa.Q

namespace Go.Proofs.Ytmdhedkgpgoneaa.Q
open Go.RowKit Go.Proofs.YtmdhedkgpgoneaaW.PrintWords Go.Proofs.YtmdhedkgpgoneaaW.PrintLast Go.Proofs.YtmdhedkgpgoneaaW.PrintMore
attribute [local go_sem] e4z e2z e7z e6z d8z d7z e3z e1z
set_option linter.unusedVariables false
set_option linter.unusedSimpArgs false
def spec_BlockOk.f (k : Nat) (a0_0 : Int) (a0_1 : Int) : Option (Bool):=(spec_l1Addr.f a0_0).bind fun t102 => (if t102 = true then ((spec_l1In.f a0_1 0 32).bind fun t103 => (if t103 = true then ((spec_l1Size.f k a0_1).bind fun t104 => (if t104 = 0 then (none) else (some ((Int.tmod a0_0 t104) == 0)))) else (some false))) else (some false))
set_option maxHeartbeats 8000000 in
set_option maxRecDepth 100000 in
theorem spec_BlockOk.calls (k : Nat) (a0_0 : Int) (a0_1 : Int) (r : Bool) (w : World) (h : spec_BlockOk.f k a0_0 a0_1 = some r) :
  Calls Try.prog 51 #[.agg #[.int .i64 a0_0,.int .i64 a0_1]] w fun e w' => e = .returned (.bool r) ∧ Below w.heap.size w w':=by
 have hu44:=Try.underlying44
 have HB:=a0z.mk (Below.refl w.heap.size w)
 have H : ((spec_l1Addr.f a0_0).bind fun t102 => (if t102 = true then ((spec_l1In.f a0_1 0 32).bind fun t103 => (if t103 = true then ((spec_l1Size.f k a0_1).bind fun t104 => (if t104 = 0 then (none) else (some ((Int.tmod a0_0 t104) == 0)))) else (some false))) else (some false))) = some r:=h
 clear h
 replace H:=Option.bind_eq_some_iff.mp H
 obtain ⟨t102,A20,H⟩:=H
 replace H : (if t102 = true then ((spec_l1In.f a0_1 0 32).bind fun t103 => (if t103 = true then ((spec_l1Size.f k a0_1).bind fun t104 => (if t104 = 0 then (none) else (some ((Int.tmod a0_0 t104) == 0)))) else (some false))) else (some false)) = some r:=H
 have A2:=a0z.mk A20
 clear A20
 by_cases c3 : t102 = true
 ·subst c3
  have H1 : ((spec_l1In.f a0_1 0 32).bind fun t103 => (if t103 = true then ((spec_l1Size.f k a0_1).bind fun t104 => (if t104 = 0 then (none) else (some ((Int.tmod a0_0 t104) == 0)))) else (some false))) = some r:=by rw [if_pos rfl] at H;exact H
  clear H
  have H:=H1
  clear H1
  replace H:=Option.bind_eq_some_iff.mp H
  obtain ⟨t103,A40,H⟩:=H
  replace H : (if t103 = true then ((spec_l1Size.f k a0_1).bind fun t104 => (if t104 = 0 then (none) else (some ((Int.tmod a0_0 t104) == 0)))) else (some false)) = some r:=H
  have A4:=a0z.mk A40
  clear A40
  by_cases c5 : t103 = true
  ·subst c5
   have H1 : ((spec_l1Size.f k a0_1).bind fun t104 => (if t104 = 0 then (none) else (some ((Int.tmod a0_0 t104) == 0)))) = some r:=by rw [if_pos rfl] at H;exact H
   clear H
   have H:=H1
   clear H1
   replace H:=Option.bind_eq_some_iff.mp H
   obtain ⟨t104,A60,H⟩:=H
   replace H : (if t104 = 0 then (none) else (some ((Int.tmod a0_0 t104) == 0))) = some r:=H
   have A6:=a0z.mk A60
   clear A60
   by_cases c7 : t104 = 0
   ·rw [if_pos c7] at H
    exact absurd H (by simp)
   ·rw [if_neg c7] at H
    have c7b0 : (t104 == 0) = false:=beq_eq_false_iff_ne.mpr c7
    have c7b1 : (t104 != 0) = true:=bne_iff_ne.mpr c7
    obtain rfl:=Option.some.inj H
    go_enter Try.func51,Try.ntmps51
    go_wp2_with (first|((with_reducible refine d4z (N:=1) rfl ?_);refine e0z ?hg (N:=1) ?hd (cs:=#[.int .i64 a0_0,.int .i64 a0_1]) (t:=44) ?hr ?_;(case hd => rfl);(case hg => rfl);(case hr => first|(go_simp;done)|(go_simp;rfl));intro gb101 hg w8 hbox hb;have n0_:=a0z.mk (b3z (by repeat (first|(with_reducible first|exact HB.1|apply a3z|apply a1z|apply a2z)|exact HB.1)) hb);have n1_:=a0z.mk (hbox);have n2_:=a0z.mk ((by rw [hg];exact (b1z (by repeat (first|(with_reducible first|exact HB.1|apply a3z|apply a1z|apply a2z)|exact HB.1))) : w.heap.size ≤ gb101));have n3_:=a0z.mk ((by rw [hg];exact (b1z (by repeat (first|(with_reducible first|exact HB.1|apply a3z|apply a1z|apply a2z)|exact HB.1))) : w.heap.size ≤ gb101));clear HB;have HB:=n0_;have BK101:=n1_;have GW101:=n2_;have GE101:=n3_;clear n0_ n1_ n2_ n3_;clear hb hbox hg;have hcz9_0 : w8.cell? ⟨gb101,0,none⟩ = some (.int .i64 a0_0):=(b2z BK101.1 0).trans rfl;have hcz9_1 : w8.cell? ⟨gb101,1,none⟩ = some (.int .i64 a0_1):=(b2z BK101.1 1).trans rfl;have hfz9_0:=b7z BK101.1 0;have hfz9_1:=b7z BK101.1 1)|(go_at_call 68;(with_reducible refine (spec_l1Addr.calls a0_0 true _ A2.1).mono ?_);rintro e w' ⟨rfl,⟨nd,rfl⟩⟩;(try first|exact ⟨rfl,_,World.drewN_drewN _ _ _⟩|exact ⟨rfl,_,Eq.trans (World.drewN_drewN _ _ _) (congrArg (World.drewN _) (Nat.add_assoc _ _ _))⟩))|(go_at_call 69;(with_reducible refine (spec_l1In.calls a0_1 0 32 true _ A4.1).mono ?_);rintro e w' ⟨rfl,⟨nd,rfl⟩⟩;(try first|exact ⟨rfl,_,World.drewN_drewN _ _ _⟩|exact ⟨rfl,_,Eq.trans (World.drewN_drewN _ _ _) (congrArg (World.drewN _) (Nat.add_assoc _ _ _))⟩))|(go_at_call 44;(with_reducible refine (spec_l1Size.calls k a0_1 t104 _ A6.1).mono ?_);rintro e w' ⟨rfl,⟨nd,rfl⟩⟩;(try first|exact ⟨rfl,_,World.drewN_drewN _ _ _⟩|exact ⟨rfl,_,Eq.trans (World.drewN_drewN _ _ _) (congrArg (World.drewN _) (Nat.add_assoc _ _ _))⟩)))
    repeat (go_quiet (first|((with_reducible refine d4z (N:=1) rfl ?_);refine e0z ?hg (N:=1) ?hd (cs:=#[.int .i64 a0_0,.int .i64 a0_1]) (t:=44) ?hr ?_;(case hd => rfl);(case hg => rfl);(case hr => first|(go_simp;done)|(go_simp;rfl));intro gb101 hg w8 hbox hb;have n0_:=a0z.mk (b3z (by repeat (first|(with_reducible first|exact HB.1|apply a3z|apply a1z|apply a2z)|exact HB.1)) hb);have n1_:=a0z.mk (hbox);have n2_:=a0z.mk ((by rw [hg];exact (b1z (by repeat (first|(with_reducible first|exact HB.1|apply a3z|apply a1z|apply a2z)|exact HB.1))) : w.heap.size ≤ gb101));have n3_:=a0z.mk ((by rw [hg];exact (b1z (by repeat (first|(with_reducible first|exact HB.1|apply a3z|apply a1z|apply a2z)|exact HB.1))) : w.heap.size ≤ gb101));clear HB;have HB:=n0_;have BK101:=n1_;have GW101:=n2_;have GE101:=n3_;clear n0_ n1_ n2_ n3_;clear hb hbox hg;have hcz9_0 : w8.cell? ⟨gb101,0,none⟩ = some (.int .i64 a0_0):=(b2z BK101.1 0).trans rfl;have hcz9_1 : w8.cell? ⟨gb101,1,none⟩ = some (.int .i64 a0_1):=(b2z BK101.1 1).trans rfl;have hfz9_0:=b7z BK101.1 0;have hfz9_1:=b7z BK101.1 1)|(go_at_call 68;(with_reducible refine (spec_l1Addr.calls a0_0 true _ A2.1).mono ?_);rintro e w' ⟨rfl,⟨nd,rfl⟩⟩;(try first|exact ⟨rfl,_,World.drewN_drewN _ _ _⟩|exact ⟨rfl,_,Eq.trans (World.drewN_drewN _ _ _) (congrArg (World.drewN _) (Nat.add_assoc _ _ _))⟩))|(go_at_call 69;(with_reducible refine (spec_l1In.calls a0_1 0 32 true _ A4.1).mono ?_);rintro e w' ⟨rfl,⟨nd,rfl⟩⟩;(try first|exact ⟨rfl,_,World.drewN_drewN _ _ _⟩|exact ⟨rfl,_,Eq.trans (World.drewN_drewN _ _ _) (congrArg (World.drewN _) (Nat.add_assoc _ _ _))⟩))|(go_at_call 44;(with_reducible refine (spec_l1Size.calls k a0_1 t104 _ A6.1).mono ?_);rintro e w' ⟨rfl,⟨nd,rfl⟩⟩;(try first|exact ⟨rfl,_,World.drewN_drewN _ _ _⟩|exact ⟨rfl,_,Eq.trans (World.drewN_drewN _ _ _) (congrArg (World.drewN _) (Nat.add_assoc _ _ _))⟩)));try go_wp2_with (first|((with_reducible refine d4z (N:=1) rfl ?_);refine e0z ?hg (N:=1) ?hd (cs:=#[.int .i64 a0_0,.int .i64 a0_1]) (t:=44) ?hr ?_;(case hd => rfl);(case hg => rfl);(case hr => first|(go_simp;done)|(go_simp;rfl));intro gb101 hg w8 hbox hb;have n0_:=a0z.mk (b3z (by repeat (first|(with_reducible first|exact HB.1|apply a3z|apply a1z|apply a2z)|exact HB.1)) hb);have n1_:=a0z.mk (hbox);have n2_:=a0z.mk ((by rw [hg];exact (b1z (by repeat (first|(with_reducible first|exact HB.1|apply a3z|apply a1z|apply a2z)|exact HB.1))) : w.heap.size ≤ gb101));have n3_:=a0z.mk ((by rw [hg];exact (b1z (by repeat (first|(with_reducible first|exact HB.1|apply a3z|apply a1z|apply a2z)|exact HB.1))) : w.heap.size ≤ gb101));clear HB;have HB:=n0_;have BK101:=n1_;have GW101:=n2_;have GE101:=n3_;clear n0_ n1_ n2_ n3_;clear hb hbox hg;have hcz9_0 : w8.cell? ⟨gb101,0,none⟩ = some (.int .i64 a0_0):=(b2z BK101.1 0).trans rfl;have hcz9_1 : w8.cell? ⟨gb101,1,none⟩ = some (.int .i64 a0_1):=(b2z BK101.1 1).trans rfl;have hfz9_0:=b7z BK101.1 0;have hfz9_1:=b7z BK101.1 1)|(go_at_call 68;(with_reducible refine (spec_l1Addr.calls a0_0 true _ A2.1).mono ?_);rintro e w' ⟨rfl,⟨nd,rfl⟩⟩;(try first|exact ⟨rfl,_,World.drewN_drewN _ _ _⟩|exact ⟨rfl,_,Eq.trans (World.drewN_drewN _ _ _) (congrArg (World.drewN _) (Nat.add_assoc _ _ _))⟩))|(go_at_call 69;(with_reducible refine (spec_l1In.calls a0_1 0 32 true _ A4.1).mono ?_);rintro e w' ⟨rfl,⟨nd,rfl⟩⟩;(try first|exact ⟨rfl,_,World.drewN_drewN _ _ _⟩|exact ⟨rfl,_,Eq.trans (World.drewN_drewN _ _ _) (congrArg (World.drewN _) (Nat.add_assoc _ _ _))⟩))|(go_at_call 44;(with_reducible refine (spec_l1Size.calls k a0_1 t104 _ A6.1).mono ?_);rintro e w' ⟨rfl,⟨nd,rfl⟩⟩;(try first|exact ⟨rfl,_,World.drewN_drewN _ _ _⟩|exact ⟨rfl,_,Eq.trans (World.drewN_drewN _ _ _) (congrArg (World.drewN _) (Nat.add_assoc _ _ _))⟩))))
    go_ret
    exact ⟨by first|rfl|(simp [c2z,c1z] <;> rfl)|(simp [*,c2z,c1z] <;> rfl),by repeat (first|(with_reducible first|exact HB.1|apply a3z|apply a1z|apply a2z|refine a6z ?_ GE101.1)|exact HB.1)⟩
  ·replace c5:=Bool.eq_false_iff.mpr c5
   subst c5
   have H1 : (some false) = some r:=by rw [if_neg (show ¬ (false = true) by decide)] at H;exact H
   clear H
   have H:=H1
   clear H1
   obtain rfl:=Option.some.inj H
   go_enter Try.func51,Try.ntmps51
   go_wp2_with (first|((with_reducible refine d4z (N:=1) rfl ?_);refine e0z ?hg (N:=1) ?hd (cs:=#[.int .i64 a0_0,.int .i64 a0_1]) (t:=44) ?hr ?_;(case hd => rfl);(case hg => rfl);(case hr => first|(go_simp;done)|(go_simp;rfl));intro gb101 hg w10 hbox hb;have n0_:=a0z.mk (b3z (by repeat (first|(with_reducible first|exact HB.1|apply a3z|apply a1z|apply a2z)|exact HB.1)) hb);have n1_:=a0z.mk (hbox);have n2_:=a0z.mk ((by rw [hg];exact (b1z (by repeat (first|(with_reducible first|exact HB.1|apply a3z|apply a1z|apply a2z)|exact HB.1))) : w.heap.size ≤ gb101));have n3_:=a0z.mk ((by rw [hg];exact (b1z (by repeat (first|(with_reducible first|exact HB.1|apply a3z|apply a1z|apply a2z)|exact HB.1))) : w.heap.size ≤ gb101));clear HB;have HB:=n0_;have BK101:=n1_;have GW101:=n2_;have GE101:=n3_;clear n0_ n1_ n2_ n3_;clear hb hbox hg;have hcz11_0 : w10.cell? ⟨gb101,0,none⟩ = some (.int .i64 a0_0):=(b2z BK101.1 0).trans rfl;have hcz11_1 : w10.cell? ⟨gb101,1,none⟩ = some (.int .i64 a0_1):=(b2z BK101.1 1).trans rfl;have hfz11_0:=b7z BK101.1 0;have hfz11_1:=b7z BK101.1 1)|(go_at_call 68;(with_reducible refine (spec_l1Addr.calls a0_0 true _ A2.1).mono ?_);rintro e w' ⟨rfl,⟨nd,rfl⟩⟩;(try first|exact ⟨rfl,_,World.drewN_drewN _ _ _⟩|exact ⟨rfl,_,Eq.trans (World.drewN_drewN _ _ _) (congrArg (World.drewN _) (Nat.add_assoc _ _ _))⟩))|(go_at_call 69;(with_reducible refine (spec_l1In.calls a0_1 0 32 false _ A4.1).mono ?_);rintro e w' ⟨rfl,⟨nd,rfl⟩⟩;(try first|exact ⟨rfl,_,World.drewN_drewN _ _ _⟩|exact ⟨rfl,_,Eq.trans (World.drewN_drewN _ _ _) (congrArg (World.drewN _) (Nat.add_assoc _ _ _))⟩)))
   repeat (go_quiet (first|((with_reducible refine d4z (N:=1) rfl ?_);refine e0z ?hg (N:=1) ?hd (cs:=#[.int .i64 a0_0,.int .i64 a0_1]) (t:=44) ?hr ?_;(case hd => rfl);(case hg => rfl);(case hr => first|(go_simp;done)|(go_simp;rfl));intro gb101 hg w10 hbox hb;have n0_:=a0z.mk (b3z (by repeat (first|(with_reducible first|exact HB.1|apply a3z|apply a1z|apply a2z)|exact HB.1)) hb);have n1_:=a0z.mk (hbox);have n2_:=a0z.mk ((by rw [hg];exact (b1z (by repeat (first|(with_reducible first|exact HB.1|apply a3z|apply a1z|apply a2z)|exact HB.1))) : w.heap.size ≤ gb101));have n3_:=a0z.mk ((by rw [hg];exact (b1z (by repeat (first|(with_reducible first|exact HB.1|apply a3z|apply a1z|apply a2z)|exact HB.1))) : w.heap.size ≤ gb101));clear HB;have HB:=n0_;have BK101:=n1_;have GW101:=n2_;have GE101:=n3_;clear n0_ n1_ n2_ n3_;clear hb hbox hg;have hcz11_0 : w10.cell? ⟨gb101,0,none⟩ = some (.int .i64 a0_0):=(b2z BK101.1 0).trans rfl;have hcz11_1 : w10.cell? ⟨gb101,1,none⟩ = some (.int .i64 a0_1):=(b2z BK101.1 1).trans rfl;have hfz11_0:=b7z BK101.1 0;have hfz11_1:=b7z BK101.1 1)|(go_at_call 68;(with_reducible refine (spec_l1Addr.calls a0_0 true _ A2.1).mono ?_);rintro e w' ⟨rfl,⟨nd,rfl⟩⟩;(try first|exact ⟨rfl,_,World.drewN_drewN _ _ _⟩|exact ⟨rfl,_,Eq.trans (World.drewN_drewN _ _ _) (congrArg (World.drewN _) (Nat.add_assoc _ _ _))⟩))|(go_at_call 69;(with_reducible refine (spec_l1In.calls a0_1 0 32 false _ A4.1).mono ?_);rintro e w' ⟨rfl,⟨nd,rfl⟩⟩;(try first|exact ⟨rfl,_,World.drewN_drewN _ _ _⟩|exact ⟨rfl,_,Eq.trans (World.drewN_drewN _ _ _) (congrArg (World.drewN _) (Nat.add_assoc _ _ _))⟩)));try go_wp2_with (first|((with_reducible refine d4z (N:=1) rfl ?_);refine e0z ?hg (N:=1) ?hd (cs:=#[.int .i64 a0_0,.int .i64 a0_1]) (t:=44) ?hr ?_;(case hd => rfl);(case hg => rfl);(case hr => first|(go_simp;done)|(go_simp;rfl));intro gb101 hg w10 hbox hb;have n0_:=a0z.mk (b3z (by repeat (first|(with_reducible first|exact HB.1|apply a3z|apply a1z|apply a2z)|exact HB.1)) hb);have n1_:=a0z.mk (hbox);have n2_:=a0z.mk ((by rw [hg];exact (b1z (by repeat (first|(with_reducible first|exact HB.1|apply a3z|apply a1z|apply a2z)|exact HB.1))) : w.heap.size ≤ gb101));have n3_:=a0z.mk ((by rw [hg];exact (b1z (by repeat (first|(with_reducible first|exact HB.1|apply a3z|apply a1z|apply a2z)|exact HB.1))) : w.heap.size ≤ gb101));clear HB;have HB:=n0_;have BK101:=n1_;have GW101:=n2_;have GE101:=n3_;clear n0_ n1_ n2_ n3_;clear hb hbox hg;have hcz11_0 : w10.cell? ⟨gb101,0,none⟩ = some (.int .i64 a0_0):=(b2z BK101.1 0).trans rfl;have hcz11_1 : w10.cell? ⟨gb101,1,none⟩ = some (.int .i64 a0_1):=(b2z BK101.1 1).trans rfl;have hfz11_0:=b7z BK101.1 0;have hfz11_1:=b7z BK101.1 1)|(go_at_call 68;(with_reducible refine (spec_l1Addr.calls a0_0 true _ A2.1).mono ?_);rintro e w' ⟨rfl,⟨nd,rfl⟩⟩;(try first|exact ⟨rfl,_,World.drewN_drewN _ _ _⟩|exact ⟨rfl,_,Eq.trans (World.drewN_drewN _ _ _) (congrArg (World.drewN _) (Nat.add_assoc _ _ _))⟩))|(go_at_call 69;(with_reducible refine (spec_l1In.calls a0_1 0 32 false _ A4.1).mono ?_);rintro e w' ⟨rfl,⟨nd,rfl⟩⟩;(try first|exact ⟨rfl,_,World.drewN_drewN _ _ _⟩|exact ⟨rfl,_,Eq.trans (World.drewN_drewN _ _ _) (congrArg (World.drewN _) (Nat.add_assoc _ _ _))⟩))))
   go_ret
   exact ⟨by first|rfl|(simp [c2z,c1z] <;> rfl)|(simp [*,c2z,c1z] <;> rfl),by repeat (first|(with_reducible first|exact HB.1|apply a3z|apply a1z|apply a2z|refine a6z ?_ GE101.1)|exact HB.1)⟩
 ·replace c3:=Bool.eq_false_iff.mpr c3
  subst c3
  have H1 : (some false) = some r:=by rw [if_neg (show ¬ (false = true) by decide)] at H;exact H
  clear H
  have H:=H1
  clear H1
  obtain rfl:=Option.some.inj H
  go_enter Try.func51,Try.ntmps51
  go_wp2_with (first|((with_reducible refine d4z (N:=1) rfl ?_);refine e0z ?hg (N:=1) ?hd (cs:=#[.int .i64 a0_0,.int .i64 a0_1]) (t:=44) ?hr ?_;(case hd => rfl);(case hg => rfl);(case hr => first|(go_simp;done)|(go_simp;rfl));intro gb101 hg w12 hbox hb;have n0_:=a0z.mk (b3z (by repeat (first|(with_reducible first|exact HB.1|apply a3z|apply a1z|apply a2z)|exact HB.1)) hb);have n1_:=a0z.mk (hbox);have n2_:=a0z.mk ((by rw [hg];exact (b1z (by repeat (first|(with_reducible first|exact HB.1|apply a3z|apply a1z|apply a2z)|exact HB.1))) : w.heap.size ≤ gb101));have n3_:=a0z.mk ((by rw [hg];exact (b1z (by repeat (first|(with_reducible first|exact HB.1|apply a3z|apply a1z|apply a2z)|exact HB.1))) : w.heap.size ≤ gb101));clear HB;have HB:=n0_;have BK101:=n1_;have GW101:=n2_;have GE101:=n3_;clear n0_ n1_ n2_ n3_;clear hb hbox hg;have hcz13_0 : w12.cell? ⟨gb101,0,none⟩ = some (.int .i64 a0_0):=(b2z BK101.1 0).trans rfl;have hcz13_1 : w12.cell? ⟨gb101,1,none⟩ = some (.int .i64 a0_1):=(b2z BK101.1 1).trans rfl;have hfz13_0:=b7z BK101.1 0;have hfz13_1:=b7z BK101.1 1)|(go_at_call 68;(with_reducible refine (spec_l1Addr.calls a0_0 false _ A2.1).mono ?_);rintro e w' ⟨rfl,⟨nd,rfl⟩⟩;(try first|exact ⟨rfl,_,World.drewN_drewN _ _ _⟩|exact ⟨rfl,_,Eq.trans (World.drewN_drewN _ _ _) (congrArg (World.drewN _) (Nat.add_assoc _ _ _))⟩)))
  repeat (go_quiet (first|((with_reducible refine d4z (N:=1) rfl ?_);refine e0z ?hg (N:=1) ?hd (cs:=#[.int .i64 a0_0,.int .i64 a0_1]) (t:=44) ?hr ?_;(case hd => rfl);(case hg => rfl);(case hr => first|(go_simp;done)|(go_simp;rfl));intro gb101 hg w12 hbox hb;have n0_:=a0z.mk (b3z (by repeat (first|(with_reducible first|exact HB.1|apply a3z|apply a1z|apply a2z)|exact HB.1)) hb);have n1_:=a0z.mk (hbox);have n2_:=a0z.mk ((by rw [hg];exact (b1z (by repeat (first|(with_reducible first|exact HB.1|apply a3z|apply a1z|apply a2z)|exact HB.1))) : w.heap.size ≤ gb101));have n3_:=a0z.mk ((by rw [hg];exact (b1z (by repeat (first|(with_reducible first|exact HB.1|apply a3z|apply a1z|apply a2z)|exact HB.1))) : w.heap.size ≤ gb101));clear HB;have HB:=n0_;have BK101:=n1_;have GW101:=n2_;have GE101:=n3_;clear n0_ n1_ n2_ n3_;clear hb hbox hg;have hcz13_0 : w12.cell? ⟨gb101,0,none⟩ = some (.int .i64 a0_0):=(b2z BK101.1 0).trans rfl;have hcz13_1 : w12.cell? ⟨gb101,1,none⟩ = some (.int .i64 a0_1):=(b2z BK101.1 1).trans rfl;have hfz13_0:=b7z BK101.1 0;have hfz13_1:=b7z BK101.1 1)|(go_at_call 68;(with_reducible refine (spec_l1Addr.calls a0_0 false _ A2.1).mono ?_);rintro e w' ⟨rfl,⟨nd,rfl⟩⟩;(try first|exact ⟨rfl,_,World.drewN_drewN _ _ _⟩|exact ⟨rfl,_,Eq.trans (World.drewN_drewN _ _ _) (congrArg (World.drewN _) (Nat.add_assoc _ _ _))⟩)));try go_wp2_with (first|((with_reducible refine d4z (N:=1) rfl ?_);refine e0z ?hg (N:=1) ?hd (cs:=#[.int .i64 a0_0,.int .i64 a0_1]) (t:=44) ?hr ?_;(case hd => rfl);(case hg => rfl);(case hr => first|(go_simp;done)|(go_simp;rfl));intro gb101 hg w12 hbox hb;have n0_:=a0z.mk (b3z (by repeat (first|(with_reducible first|exact HB.1|apply a3z|apply a1z|apply a2z)|exact HB.1)) hb);have n1_:=a0z.mk (hbox);have n2_:=a0z.mk ((by rw [hg];exact (b1z (by repeat (first|(with_reducible first|exact HB.1|apply a3z|apply a1z|apply a2z)|exact HB.1))) : w.heap.size ≤ gb101));have n3_:=a0z.mk ((by rw [hg];exact (b1z (by repeat (first|(with_reducible first|exact HB.1|apply a3z|apply a1z|apply a2z)|exact HB.1))) : w.heap.size ≤ gb101));clear HB;have HB:=n0_;have BK101:=n1_;have GW101:=n2_;have GE101:=n3_;clear n0_ n1_ n2_ n3_;clear hb hbox hg;have hcz13_0 : w12.cell? ⟨gb101,0,none⟩ = some (.int .i64 a0_0):=(b2z BK101.1 0).trans rfl;have hcz13_1 : w12.cell? ⟨gb101,1,none⟩ = some (.int .i64 a0_1):=(b2z BK101.1 1).trans rfl;have hfz13_0:=b7z BK101.1 0;have hfz13_1:=b7z BK101.1 1)|(go_at_call 68;(with_reducible refine (spec_l1Addr.calls a0_0 false _ A2.1).mono ?_);rintro e w' ⟨rfl,⟨nd,rfl⟩⟩;(try first|exact ⟨rfl,_,World.drewN_drewN _ _ _⟩|exact ⟨rfl,_,Eq.trans (World.drewN_drewN _ _ _) (congrArg (World.drewN _) (Nat.add_assoc _ _ _))⟩))))
  go_ret
  exact ⟨by first|rfl|(simp [c2z,c1z] <;> rfl)|(simp [*,c2z,c1z] <;> rfl),by repeat (first|(with_reducible first|exact HB.1|apply a3z|apply a1z|apply a2z|refine a6z ?_ GE101.1)|exact HB.1)⟩
end Go.Proofs.Ytmdhedkgpgoneaa.Q

namespace Go.Proofs.Ytmdhedkgpgoneaa.Q
open Go.RowKit Go.Proofs.YtmdhedkgpgoneaaW.PrintWords Go.Proofs.YtmdhedkgpgoneaaW.PrintLast Go.Proofs.YtmdhedkgpgoneaaW.PrintMore
attribute [local go_sem] e4z e2z e7z e6z d8z d7z e3z e1z
set_option linter.unusedVariables false
set_option linter.unusedSimpArgs false
def spec_l2Blocks.l0 : Nat → List (S44) → Int → Option (Bool)
 | 0,_,_ => none
 | k + 1,x0,x3 => if x3 < (x0.length : Int) then (if 0 ≤ x3 then ((spec_BlockOk.f k ((b6z x0 x3).f0) ((b6z x0 x3).f1)).bind fun t102 => (if t102 = true then (spec_l2Blocks.l0 k x0 (wrap64 (x3 + 1))) else (some false))) else (none)) else (some (decide ((x0.length : Int) ≤ 64)))
def spec_l2Blocks.f (k : Nat) (l0 : List (S44)) : Option (Bool):=spec_l2Blocks.l0 k l0 0
set_option maxHeartbeats 8000000 in
set_option maxRecDepth 100000 in
theorem spec_l2Blocks.calls (k : Nat) (A0 : Option Addr) (c0 : Nat) (l0 : List (S44)) (r : Bool) (w : World) (hr0 : Kd.C k44 w A0 l0.length l0) (hc0 : l0.length ≤ c0) (h : spec_l2Blocks.f k l0 = some r) :
  Calls Try.prog 32 #[.slice A0 l0.length c0] w fun e w' => e = .returned (.bool r) ∧ Below w.heap.size w w':=by
 have hu44:=Try.underlying44
 have HR0:=a0z.mk hr0
 have HC0:=a0z.mk hc0
 clear hr0 hc0
 have HB:=a0z.mk (Below.refl w.heap.size w)
 have H : (spec_l2Blocks.l0 k l0 0) = some r:=h
 clear h
 have H':=a0z.mk H
 clear H
 go_enter Try.func32,Try.ntmps32
 go_wp2
 go_loopg [3] k (fun kq v3 w' => ∃ (x3_1 : Int),v3 = .int .i64 x3_1 ∧ a0z (spec_l2Blocks.l0 kq l0 x3_1 = some r) ∧ a0z (kq ≤ k) ∧ a0z (Below w.heap.size w w'))
 case atStart => exact ⟨(0),(by first|rfl|(simp;done)|(simp [*];done)),H',⟨Nat.le_refl _⟩,⟨by repeat (first|(with_reducible first|exact HB.1|apply a3z|apply a1z|apply a2z)|exact HB.1)⟩⟩
 case round =>
  clear H'
  obtain ⟨x3_1,rfl,HA,HK1,HB⟩:=hrel
  cases gk with
  | zero => exact absurd HA.1 (by simp [spec_l2Blocks.l0])
  | succ k1 =>
   have H:=HA.1
   clear HA
   simp only [spec_l2Blocks.l0] at H
   by_cases c2 : x3_1 < (l0.length : Int)
   ·rw [if_pos c2] at H
    have c2b0 : decide (x3_1 < (l0.length : Int)) = true:=decide_eq_true c2
    clear c2
    by_cases c3 : 0 ≤ x3_1
    ·rw [if_pos c3] at H
     have c3b0 : decide (0 ≤ x3_1) = true:=decide_eq_true c3
     clear c3
     replace H:=Option.bind_eq_some_iff.mp H
     obtain ⟨t102,A40,H⟩:=H
     replace H : (if t102 = true then (spec_l2Blocks.l0 k1 l0 (wrap64 (x3_1 + 1))) else (some false)) = some r:=H
     have A4:=a0z.mk A40
     clear A40
     by_cases c5 : t102 = true
     ·subst c5
      have H1 : (spec_l2Blocks.l0 k1 l0 (wrap64 (x3_1 + 1))) = some r:=by rw [if_pos rfl] at H;exact H
      clear H
      have H:=H1
      clear H1
      have H':=a0z.mk H
      clear H
      have p101 : 0 ≤ (x3_1 : Int):=of_decide_eq_true (by first|(with_reducible assumption)|assumption)
      have q101 : x3_1 < (l0.length : Int):=of_decide_eq_true (by first|(with_reducible assumption)|assumption)
      obtain ⟨ad101,e101,hx101_0,hx101_1⟩:=h2z HR0.1 x3_1 p101 q101
      cases e101
      replace hx101_0:=(HB.1.cell (World.block_lt_of_cell? w _ hx101_0)).trans hx101_0
      replace hx101_1:=(HB.1.cell (World.block_lt_of_cell? w _ hx101_1)).trans hx101_1
      replace p101:=eq_true p101
      replace q101:=eq_true q101
      go_wp2_with (first|((with_reducible refine b8z (f:=51) rfl ?_);refine d2z (some 14) rfl rfl Try.func51 (by kernel_rfl) rfl #[.agg #[.int .i64 ((b6z l0 x3_1).f0),.int .i64 ((b6z l0 x3_1).f1)]] rfl (by (try simp only [List.map_toArray,List.map_cons,List.map_nil]);first|done|rfl|(simp only [List.length_drop,List.length_take];rfl)) ?_;(with_reducible refine (spec_BlockOk.calls k1 ((b6z l0 x3_1).f0) ((b6z l0 x3_1).f1) true _ A4.1).mono ?_);rintro e w6 ⟨rfl,hb⟩;refine ⟨_,rfl,?_⟩;have n0_:=a0z.mk (b3z (by repeat (first|(with_reducible first|exact HB.1|apply a3z|apply a1z|apply a2z)|exact HB.1)) hb);clear HB;have HB:=n0_;clear n0_;(try clear hb);(try clear hb2);(try clear hk);(try clear hi)))
      go_roundg k1
      case measure => have:=HK1.1;omega
      case rel => exact ⟨(wrap64 (x3_1 + 1)),(by first|rfl|(simp;done)|(simp [*];done)),H',⟨by have:=HK1.1;omega⟩,⟨by repeat (first|(with_reducible first|exact HB.1|apply a3z|apply a1z|apply a2z)|exact HB.1)⟩⟩
     ·replace c5:=Bool.eq_false_iff.mpr c5
      subst c5
      have H1 : (some false) = some r:=by rw [if_neg (show ¬ (false = true) by decide)] at H;exact H
      clear H
      have H:=H1
      clear H1
      obtain rfl:=Option.some.inj H
      have p101 : 0 ≤ (x3_1 : Int):=of_decide_eq_true (by first|(with_reducible assumption)|assumption)
      have q101 : x3_1 < (l0.length : Int):=of_decide_eq_true (by first|(with_reducible assumption)|assumption)
      obtain ⟨ad101,e101,hx101_0,hx101_1⟩:=h2z HR0.1 x3_1 p101 q101
      cases e101
      replace hx101_0:=(HB.1.cell (World.block_lt_of_cell? w _ hx101_0)).trans hx101_0
      replace hx101_1:=(HB.1.cell (World.block_lt_of_cell? w _ hx101_1)).trans hx101_1
      replace p101:=eq_true p101
      replace q101:=eq_true q101
      go_wp2_with (first|((with_reducible refine b8z (f:=51) rfl ?_);refine d2z (some 14) rfl rfl Try.func51 (by kernel_rfl) rfl #[.agg #[.int .i64 ((b6z l0 x3_1).f0),.int .i64 ((b6z l0 x3_1).f1)]] rfl (by (try simp only [List.map_toArray,List.map_cons,List.map_nil]);first|done|rfl|(simp only [List.length_drop,List.length_take];rfl)) ?_;(with_reducible refine (spec_BlockOk.calls k1 ((b6z l0 x3_1).f0) ((b6z l0 x3_1).f1) false _ A4.1).mono ?_);rintro e w7 ⟨rfl,hb⟩;refine ⟨_,rfl,?_⟩;have n0_:=a0z.mk (b3z (by repeat (first|(with_reducible first|exact HB.1|apply a3z|apply a1z|apply a2z)|exact HB.1)) hb);clear HB;have HB:=n0_;clear n0_;(try clear hb);(try clear hb2);(try clear hk);(try clear hi)))
      go_ret
      exact ⟨by first|rfl|(simp [c2z,c1z] <;> rfl)|(simp [*,c2z,c1z] <;> rfl),by repeat (first|(with_reducible first|exact HB.1|apply a3z|apply a1z|apply a2z)|exact HB.1)⟩
    ·rw [if_neg c3] at H
     exact absurd H (by simp)
   ·rw [if_neg c2] at H
    have c2b0 : decide (x3_1 < (l0.length : Int)) = false:=decide_eq_false c2
    clear c2
    obtain rfl:=Option.some.inj H
    go_wp2
    go_ret
    exact ⟨by first|rfl|(simp [c2z,c1z] <;> rfl)|(simp [*,c2z,c1z] <;> rfl),by repeat (first|(with_reducible first|exact HB.1|apply a3z|apply a1z|apply a2z)|exact HB.1)⟩
end Go.Proofs.Ytmdhedkgpgoneaa.Q

namespace Go.Proofs.Ytmdhedkgpgoneaa.Q
open Go.RowKit Go.Proofs.YtmdhedkgpgoneaaW.PrintWords Go.Proofs.YtmdhedkgpgoneaaW.PrintLast Go.Proofs.YtmdhedkgpgoneaaW.PrintMore
attribute [local go_sem] e4z e2z e7z e6z d8z d7z e3z e1z
set_option linter.unusedVariables false
set_option linter.unusedSimpArgs false
attribute [local go_sem high] eqA44
def spec_l2Same.l0 : Nat → List (S44) → List (S44) → Int → Option (Bool)
 | 0,_,_,_ => none
 | k + 1,x0,x1,x5 => if x5 < (x0.length : Int) then (if 0 ≤ x5 then (if x5 < (x1.length : Int) then (if (!(((b6z x0 x5).f0) == ((b6z x1 x5).f0)) || (!(((b6z x0 x5).f1) == ((b6z x1 x5).f1)))) = true then (some false) else (spec_l2Same.l0 k x0 x1 (wrap64 (x5 + 1)))) else (none)) else (none)) else (some true)
def spec_l2Same.f (k : Nat) (l0 : List (S44)) (l1 : List (S44)) : Option (Bool):=if (l0.length : Int) = (l1.length : Int) then (spec_l2Same.l0 k l0 l1 0) else (some false)
set_option maxHeartbeats 8000000 in
set_option maxRecDepth 100000 in
theorem spec_l2Same.calls (k : Nat) (A0 : Option Addr) (c0 : Nat) (l0 : List (S44)) (A1 : Option Addr) (c1 : Nat) (l1 : List (S44)) (r : Bool) (w : World) (hr0 : Kd.C k44 w A0 l0.length l0) (hc0 : l0.length ≤ c0) (hr1 : Kd.C k44 w A1 l1.length l1) (hc1 : l1.length ≤ c1) (h : spec_l2Same.f k l0 l1 = some r) :
  Calls Try.prog 33 #[.slice A0 l0.length c0,.slice A1 l1.length c1] w fun e w' => e = .returned (.bool r) ∧ Drawn0 w w':=by
 have hu44:=Try.underlying44
 have HR0:=a0z.mk hr0
 have HC0:=a0z.mk hc0
 clear hr0 hc0
 have HR1:=a0z.mk hr1
 have HC1:=a0z.mk hc1
 clear hr1 hc1
 have H : (if (l0.length : Int) = (l1.length : Int) then (spec_l2Same.l0 k l0 l1 0) else (some false)) = some r:=h
 clear h
 by_cases c3 : (l0.length : Int) = (l1.length : Int)
 ·rw [if_pos c3] at H
  have c3b0 : ((l0.length : Int) == (l1.length : Int)) = true:=beq_iff_eq.mpr c3
  have c3b1 : ((l0.length : Int) != (l1.length : Int)) = false:=bne_eq_false_iff_eq.mpr c3
  have c3b2 : (l0.length == l1.length) = true:=by first|simpa using c3|(simp at c3 ⊢;omega)
  clear c3
  have H':=a0z.mk H
  clear H
  go_enter Try.func33,Try.ntmps33
  go_wp2
  repeat (go_quiet (fail);try go_wp2)
  go_loopg [5] k (fun kq v5 w' => ∃ (x5_1 : Int),v5 = .int .i64 x5_1 ∧ a0z (spec_l2Same.l0 kq l0 l1 x5_1 = some r) ∧ a0z (kq ≤ k) ∧ Drawn0 w w')
  case atStart => exact ⟨(0),(by first|rfl|(simp;done)|(simp [*];done)),H',⟨Nat.le_refl _⟩,by repeat (first|exact Drawn0.refl _|apply Drawn0.step)⟩
  case round =>
   clear H'
   try clear c1
   try clear p2
   try clear c3
   try clear c3b0
   try clear c3b1
   try clear c3b2
   obtain ⟨x5_1,rfl,HA,HK1,⟨m1,rfl⟩⟩:=hrel
   cases gk with
   | zero => exact absurd HA.1 (by simp [spec_l2Same.l0])
   | succ k1 =>
    have H:=HA.1
    clear HA
    simp only [spec_l2Same.l0] at H
    by_cases c4 : x5_1 < (l0.length : Int)
    ·rw [if_pos c4] at H
     have c4b0 : decide (x5_1 < (l0.length : Int)) = true:=decide_eq_true c4
     clear c4
     by_cases c5 : 0 ≤ x5_1
     ·rw [if_pos c5] at H
      have c5b0 : decide (0 ≤ x5_1) = true:=decide_eq_true c5
      clear c5
      by_cases c6 : x5_1 < (l1.length : Int)
      ·rw [if_pos c6] at H
       have c6b0 : decide (x5_1 < (l1.length : Int)) = true:=decide_eq_true c6
       clear c6
       by_cases c7 : (!(((b6z l0 x5_1).f0) == ((b6z l1 x5_1).f0)) || (!(((b6z l0 x5_1).f1) == ((b6z l1 x5_1).f1)))) = true
       ·rw [if_pos c7] at H
        have c7b0 : (!(((b6z l0 x5_1).f0) == ((b6z l1 x5_1).f0)) || (!(((b6z l0 x5_1).f1) == ((b6z l1 x5_1).f1)))) = true:=c7
        clear c7
        obtain rfl:=Option.some.inj H
        have p101 : 0 ≤ (x5_1 : Int):=of_decide_eq_true (by first|(with_reducible assumption)|assumption)
        have q101 : x5_1 < (l0.length : Int):=of_decide_eq_true (by first|(with_reducible assumption)|assumption)
        obtain ⟨ad101,e101,hx101_0,hx101_1⟩:=h2z HR0.1 x5_1 p101 q101
        cases e101
        replace p101:=eq_true p101
        replace q101:=eq_true q101
        have p102 : 0 ≤ (x5_1 : Int):=of_decide_eq_true (by first|(with_reducible assumption)|assumption)
        have q102 : x5_1 < (l1.length : Int):=of_decide_eq_true (by first|(with_reducible assumption)|assumption)
        obtain ⟨ad102,e102,hx102_0,hx102_1⟩:=h2z HR1.1 x5_1 p102 q102
        cases e102
        replace p102:=eq_true p102
        replace q102:=eq_true q102
        go_wp2
        repeat (go_quiet (fail);try go_wp2)
        go_ret
        exact ⟨by first|rfl|(simp;done)|(simp [*];done),by repeat (first|exact Drawn0.refl _|apply Drawn0.step)⟩
       ·rw [if_neg c7] at H
        have c7b0 : (!(((b6z l0 x5_1).f0) == ((b6z l1 x5_1).f0)) || (!(((b6z l0 x5_1).f1) == ((b6z l1 x5_1).f1)))) = false:=by simpa using c7
        clear c7
        have H':=a0z.mk H
        clear H
        have p101 : 0 ≤ (x5_1 : Int):=of_decide_eq_true (by first|(with_reducible assumption)|assumption)
        have q101 : x5_1 < (l0.length : Int):=of_decide_eq_true (by first|(with_reducible assumption)|assumption)
        obtain ⟨ad101,e101,hx101_0,hx101_1⟩:=h2z HR0.1 x5_1 p101 q101
        cases e101
        replace p101:=eq_true p101
        replace q101:=eq_true q101
        have p102 : 0 ≤ (x5_1 : Int):=of_decide_eq_true (by first|(with_reducible assumption)|assumption)
        have q102 : x5_1 < (l1.length : Int):=of_decide_eq_true (by first|(with_reducible assumption)|assumption)
        obtain ⟨ad102,e102,hx102_0,hx102_1⟩:=h2z HR1.1 x5_1 p102 q102
        cases e102
        replace p102:=eq_true p102
        replace q102:=eq_true q102
        go_wp2
        repeat (go_quiet (fail);try go_wp2)
        go_roundg k1
        case measure => have:=HK1.1;omega
        case rel => exact ⟨(wrap64 (x5_1 + 1)),(by first|rfl|(simp;done)|(simp [*];done)),H',⟨by have:=HK1.1;omega⟩,by repeat (first|exact Drawn0.refl _|apply Drawn0.step)⟩
      ·rw [if_neg c6] at H
       exact absurd H (by simp)
     ·rw [if_neg c5] at H
      exact absurd H (by simp)
    ·rw [if_neg c4] at H
     have c4b0 : decide (x5_1 < (l0.length : Int)) = false:=decide_eq_false c4
     clear c4
     obtain rfl:=Option.some.inj H
     go_wp2
     repeat (go_quiet (fail);try go_wp2)
     go_ret
     exact ⟨by first|rfl|(simp;done)|(simp [*];done),by repeat (first|exact Drawn0.refl _|apply Drawn0.step)⟩
 ·rw [if_neg c3] at H
  have c3b0 : ((l0.length : Int) == (l1.length : Int)) = false:=beq_eq_false_iff_ne.mpr c3
  have c3b1 : ((l0.length : Int) != (l1.length : Int)) = true:=bne_iff_ne.mpr c3
  have c3b2 : (l0.length == l1.length) = false:=by first|simpa using c3|(simp at c3 ⊢;omega)
  obtain rfl:=Option.some.inj H
  go_enter Try.func33,Try.ntmps33
  go_wp2
  repeat (go_quiet (fail);try go_wp2)
  go_ret
  exact ⟨by first|rfl|(simp;done)|(simp [*];done),by repeat (first|exact Drawn0.refl _|apply Drawn0.step)⟩
end Go.Proofs.Ytmdhedkgpgoneaa.Q

namespace Go.Proofs.Ytmdhedkgpgoneaa.Q
open Go.RowKit Go.Proofs.YtmdhedkgpgoneaaW.PrintWords Go.Proofs.YtmdhedkgpgoneaaW.PrintLast Go.Proofs.YtmdhedkgpgoneaaW.PrintMore
attribute [local go_sem] e4z e2z e7z e6z d8z d7z e3z e1z
set_option linter.unusedVariables false
set_option linter.unusedSimpArgs false
def spec_SetOk.f (k : Nat) (l0 : List (S44)) : Option (Bool):=(spec_l2Blocks.f k l0).bind fun t101 => (if t101 = true then ((spec_l2Spans.f k l0).bind fun t102 => ((spec_l2Cover.f k t102).bind fun t105 => ((spec_l2Same.f k l0 t105).bind fun t108 => (some t108)))) else (some false))
set_option maxHeartbeats 8000000 in
set_option maxRecDepth 100000 in
theorem spec_SetOk.calls (k : Nat) (A0 : Option Addr) (c0 : Nat) (l0 : List (S44)) (r : Bool) (w : World) (hr0 : Kd.C k44 w A0 l0.length l0) (hc0 : l0.length ≤ c0) (h : spec_SetOk.f k l0 = some r) :
  Calls Try.prog 14 #[.slice A0 l0.length c0] w fun e w' => e = .returned (.bool r) ∧ Below w.heap.size w w':=by
 have HR0:=a0z.mk hr0
 have HC0:=a0z.mk hc0
 clear hr0 hc0
 have HB:=a0z.mk (Below.refl w.heap.size w)
 have H : ((spec_l2Blocks.f k l0).bind fun t101 => (if t101 = true then ((spec_l2Spans.f k l0).bind fun t102 => ((spec_l2Cover.f k t102).bind fun t105 => ((spec_l2Same.f k l0 t105).bind fun t108 => (some t108)))) else (some false))) = some r:=h
 clear h
 replace H:=Option.bind_eq_some_iff.mp H
 obtain ⟨t101,A20,H⟩:=H
 replace H : (if t101 = true then ((spec_l2Spans.f k l0).bind fun t102 => ((spec_l2Cover.f k t102).bind fun t105 => ((spec_l2Same.f k l0 t105).bind fun t108 => (some t108)))) else (some false)) = some r:=H
 have A2:=a0z.mk A20
 clear A20
 by_cases c3 : t101 = true
 ·subst c3
  have H1 : ((spec_l2Spans.f k l0).bind fun t102 => ((spec_l2Cover.f k t102).bind fun t105 => ((spec_l2Same.f k l0 t105).bind fun t108 => (some t108)))) = some r:=by rw [if_pos rfl] at H;exact H
  clear H
  have H:=H1
  clear H1
  replace H:=Option.bind_eq_some_iff.mp H
  obtain ⟨t102,A40,H⟩:=H
  replace H : ((spec_l2Cover.f k t102).bind fun t105 => ((spec_l2Same.f k l0 t105).bind fun t108 => (some t108))) = some r:=H
  have A4:=a0z.mk A40
  clear A40
  replace H:=Option.bind_eq_some_iff.mp H
  obtain ⟨t105,A50,H⟩:=H
  replace H : ((spec_l2Same.f k l0 t105).bind fun t108 => (some t108)) = some r:=H
  have A5:=a0z.mk A50
  clear A50
  replace H:=Option.bind_eq_some_iff.mp H
  obtain ⟨t108,A60,H⟩:=H
  replace H : (some t108) = some r:=H
  have A6:=a0z.mk A60
  clear A60
  obtain rfl:=Option.some.inj H
  go_enter Try.func14,Try.ntmps14
  go_wp2_with (first|((with_reducible refine b8z (f:=32) rfl ?_);refine d2z (some 4) rfl rfl Try.func32 (by kernel_rfl) rfl #[.slice A0 l0.length c0] rfl (by (try simp only [List.map_toArray,List.map_cons,List.map_nil]);first|done|rfl|(simp only [List.length_drop,List.length_take];rfl)) ?_;(with_reducible refine (spec_l2Blocks.calls k _ _ l0 true _ ?side1 ?side2 A2.1).mono ?_);(case side1 => repeat (first|exact HR0.1|(with_reducible refine Kd.C_alloc ?_ _)|(with_reducible refine Kd.C_drewN ?_ _)|(with_reducible refine Kd.C_drew ?_)));(case side2 => exact HC0.1);rintro e w7 ⟨rfl,hb⟩;refine ⟨_,rfl,?_⟩;have n0_:=a0z.mk (b3z (by repeat (first|(with_reducible first|exact HB.1|apply a3z|apply a1z|apply a2z)|exact HB.1)) hb);clear HB;have HB:=n0_;clear n0_;(try clear hb);(try clear hb2);(try clear hk);(try clear hi))|(go_at_call 35;(with_reducible refine (spec_l2Spans.calls k _ _ l0 t102 _ ?side1 ?side2 A4.1).mono ?_);(case side1 => repeat (first|exact (Kd.f2z HR0.1 HB.1)|(with_reducible refine Kd.C_alloc ?_ _)|(with_reducible refine Kd.C_drewN ?_ _)|(with_reducible refine Kd.C_drew ?_)));(case side2 => exact HC0.1);rintro e w8 ⟨v103,rfl,ho0,hb⟩;have n0_:=a0z.mk (Kd.d5z ho0 (b1z (by repeat (first|(with_reducible first|exact HB.1|apply a3z|apply a1z|apply a2z)|exact HB.1))));have n1_:=a0z.mk (b3z (by repeat (first|(with_reducible first|exact HB.1|apply a3z|apply a1z|apply a2z)|exact HB.1)) hb);clear HB;have HO104:=n0_;have HB:=n1_;clear n0_ n1_;(try clear hb);(try clear hb2);(try clear hk);(try clear hi);(try clear ho0);obtain ⟨Ao9,co9,eo9⟩:=Kd.d3z HO104.1;subst eo9)|(go_at_call 34;(with_reducible refine (spec_l2Cover.calls k _ _ t102 t105 _ ?side1 ?side2 A5.1).mono ?_);(case side1 => repeat (first|exact (Kd.b4z HO104.1).2.2|(with_reducible refine Kd.C_alloc ?_ _)|(with_reducible refine Kd.C_drewN ?_ _)|(with_reducible refine Kd.C_drew ?_)));(case side2 => exact (Kd.b4z HO104.1).2.1);rintro e w10 ⟨v106,rfl,ho0,hb⟩;have n0_:=a0z.mk (Kd.c3z (by (with_reducible repeat (first|apply Kd.R_alloc|apply Kd.a4z|apply Kd.a5z));exact HO104.1) hb);have n1_:=a0z.mk (Kd.d5z ho0 (b1z (by repeat (first|(with_reducible first|exact HB.1|apply a3z|apply a1z|apply a2z)|exact HB.1))));have n2_:=a0z.mk (b3z (by repeat (first|(with_reducible first|exact HB.1|apply a3z|apply a1z|apply a2z)|exact HB.1)) hb);clear HO104;clear HB;have HO104:=n0_;have HO107:=n1_;have HB:=n2_;clear n0_ n1_ n2_;(try clear hb);(try clear hb2);(try clear hk);(try clear hi);(try clear ho0);obtain ⟨Ao11,co11,eo11⟩:=Kd.d3z HO107.1;subst eo11)|(go_at_call 33;(with_reducible refine (spec_l2Same.calls k _ _ l0 _ _ t105 t108 _ ?side1 ?side2 ?side3 ?side4 A6.1).mono ?_);(case side1 => repeat (first|exact (Kd.f2z HR0.1 HB.1)|(with_reducible refine Kd.C_alloc ?_ _)|(with_reducible refine Kd.C_drewN ?_ _)|(with_reducible refine Kd.C_drew ?_)));(case side2 => exact HC0.1);(case side3 => repeat (first|exact (Kd.b4z HO107.1).2.2|(with_reducible refine Kd.C_alloc ?_ _)|(with_reducible refine Kd.C_drewN ?_ _)|(with_reducible refine Kd.C_drew ?_)));(case side4 => exact (Kd.b4z HO107.1).2.1);rintro e w' ⟨rfl,⟨nd,rfl⟩⟩))
  go_ret
  exact ⟨by first|rfl|(simp [c2z,c1z] <;> rfl)|(simp [*,c2z,c1z] <;> rfl),by repeat (first|(with_reducible first|exact HB.1|apply a3z|apply a1z|apply a2z)|exact HB.1)⟩
 ·replace c3:=Bool.eq_false_iff.mpr c3
  subst c3
  have H1 : (some false) = some r:=by rw [if_neg (show ¬ (false = true) by decide)] at H;exact H
  clear H
  have H:=H1
  clear H1
  obtain rfl:=Option.some.inj H
  go_enter Try.func14,Try.ntmps14
  go_wp2_with (first|((with_reducible refine b8z (f:=32) rfl ?_);refine d2z (some 4) rfl rfl Try.func32 (by kernel_rfl) rfl #[.slice A0 l0.length c0] rfl (by (try simp only [List.map_toArray,List.map_cons,List.map_nil]);first|done|rfl|(simp only [List.length_drop,List.length_take];rfl)) ?_;(with_reducible refine (spec_l2Blocks.calls k _ _ l0 false _ ?side1 ?side2 A2.1).mono ?_);(case side1 => repeat (first|exact HR0.1|(with_reducible refine Kd.C_alloc ?_ _)|(with_reducible refine Kd.C_drewN ?_ _)|(with_reducible refine Kd.C_drew ?_)));(case side2 => exact HC0.1);rintro e w12 ⟨rfl,hb⟩;refine ⟨_,rfl,?_⟩;have n0_:=a0z.mk (b3z (by repeat (first|(with_reducible first|exact HB.1|apply a3z|apply a1z|apply a2z)|exact HB.1)) hb);clear HB;have HB:=n0_;clear n0_;(try clear hb);(try clear hb2);(try clear hk);(try clear hi)))
  go_ret
  exact ⟨by first|rfl|(simp [c2z,c1z] <;> rfl)|(simp [*,c2z,c1z] <;> rfl),by repeat (first|(with_reducible first|exact HB.1|apply a3z|apply a1z|apply a2z)|exact HB.1)⟩
end Go.Proofs.Ytmdhedkgpgoneaa.Q

namespace Go.Proofs.Ytmdhedkgpgoneaa.Q
open Go.RowKit Go.Proofs.YtmdhedkgpgoneaaW.PrintWords Go.Proofs.YtmdhedkgpgoneaaW.PrintLast Go.Proofs.YtmdhedkgpgoneaaW.PrintMore
attribute [local go_sem] e4z e2z e7z e6z d8z d7z e3z e1z
set_option linter.unusedVariables false
set_option linter.unusedSimpArgs false
def spec_l2Room.f (l0 : List (S44)) : Option ((List (S44)) × Bool):=if (l0.length : Int) > 64 then (some ((([] : List (S44))),false)) else (some (l0,true))
set_option maxHeartbeats 8000000 in
set_option maxRecDepth 100000 in
theorem spec_l2Room.calls (P0_ : Nat → Prop) (u9000_ : Value) (l0 : List (S44)) (r1 : List (S44)) (r2 : Bool) (w0 w : World) (hB : Below w0.heap.size w0 w) (ho0 : Kd.R k44 44 w w0.heap.size P0_ u9000_ l0) (h : spec_l2Room.f l0 = some (r1,r2)) :
  Calls Try.prog 42 #[u9000_] w fun e w' => ∃ v0_ : Value,e = .returned (.tuple #[v0_,.bool r2]) ∧ Kd.R k44 44 w' w0.heap.size (fun k_ => (P0_ k_ ∨ w.heap.size ≤ k_)) v0_ r1 ∧ Below w0.heap.size w0 w' ∧ Kept w w' (fun k_ => P0_ k_):=by
 have HO0:=a0z.mk (show Kd.R k44 44 w w0.heap.size (fun k_ => (P0_ k_ ∨ w.heap.size ≤ k_)) u9000_ l0 from Kd.b5z ho0 (fun k_ hk => (.inl hk)))
 have HK:=a0z.mk (Kept.refl w (fun k_ => P0_ k_))
 have HW0:=a0z.mk hB.size
 have HB:=a0z.mk hB
 clear hB
 have H : (if (l0.length : Int) > 64 then (some ((([] : List (S44))),false)) else (some (l0,true))) = some (r1,r2):=h
 clear h
 by_cases c2 : (l0.length : Int) > 64
 ·rw [if_pos c2] at H
  have c2b0 : decide (64 < (l0.length : Int)) = true:=decide_eq_true c2
  have c2b1 : decide (64 < l0.length) = true:=decide_eq_true (by omega)
  clear c2
  obtain ⟨y101,hy101⟩ : ∃ y_ : List (S44),y_ = (([] : List (S44))):=⟨_,rfl⟩
  replace H : (some (y101,false)) = some (r1,r2):=by first|(rw [hy101];with_reducible exact H)|(have H2_:=(Option.bind_some _ _).symm.trans H;rw [hy101];with_reducible exact H2_)|(have H2_:=(Option.bind_some _ _).symm.trans H;with_reducible exact H2_)|with_reducible exact H|(rw [hy101];exact H)|exact H
  have Ny101:=a0z.mk hy101
  clear hy101
  simp only [Option.some.injEq,Prod.mk.injEq] at H
  obtain ⟨rfl,rfl⟩:=H
  obtain ⟨Ao3,co3,eo3⟩:=Kd.d3z HO0.1
  subst eo3
  go_enter Try.func42,Try.ntmps42
  go_wp2_with (first|((with_reducible refine d4z (N:=7) rfl ?_);refine Kd.R_lit k44 _ 44 ?hg (N:=7) ?hd (xs:=([] : List (S44))) (inner:=[]) (ok:=fun _ => True) (okp:=fun _ => True) ?hr ?hp (fun _ hk => hk) trivial (Below.refl _ _) (Nat.le_refl _) (by simp) ?_;(case hd => rfl);(case hg => rfl);(case hr => first|(go_simp;done)|(go_simp;rfl));(case hp => exact (Reps.none _ _));intro v102 w4 ho5 hb hg_ hnew_;clear hg_ hnew_;(first|rw [← Ny101.1] at ho5|(simp only [Int.reduceToNat] at ho5;rw [← Ny101.1] at ho5));have n0_:=a0z.mk (Kd.c4z (by (with_reducible repeat (first|apply Kd.R_alloc|apply Kd.a4z|apply Kd.a5z));exact HO0.1) (Kd.d1z ho5) hb);have n1_:=a0z.mk (Kd.d5z (Kd.d0z (Kd.R_newM (M:=fun k_ => (P0_ k_ ∨ w.heap.size ≤ k_)) ho5 (by first|exact HK.1.1|exact (show Kept w _ (fun k_ => P0_ k_) from by repeat (first|(with_reducible first|exact HK.1|apply Kept.alloc|apply Kept.drewN|apply Kept.drew)|exact HK.1)).1) (fun k_ h_ => .inr h_)) (Kd.R_lt (by (with_reducible repeat (first|apply Kd.R_alloc|apply Kd.a4z|apply Kd.a5z));exact HO0.1))) (b1z (by repeat (first|(with_reducible first|exact HB.1|apply a3z|apply a1z|apply a2z)|exact HB.1))));have n2_:=a0z.mk (Kept.below (S:=(fun k_ => P0_ k_)) (by repeat (first|(with_reducible first|exact HK.1|apply Kept.alloc|apply Kept.drewN|apply Kept.drew)|exact HK.1)) hb);have n3_:=a0z.mk (b3z (by repeat (first|(with_reducible first|exact HB.1|apply a3z|apply a1z|apply a2z)|exact HB.1)) hb);clear HO0;clear HK;clear HB;have HO0:=n0_;have HO103:=n1_;have HK:=n2_;have HB:=n3_;clear n0_ n1_ n2_ n3_;clear hb ho5))
  go_ret2
  exact ⟨_,by first|rfl|(simp [c2z,c1z] <;> rfl)|(simp [*,c2z,c1z] <;> rfl),by (with_reducible repeat (first|apply Kd.R_alloc|apply Kd.a4z|apply Kd.a5z));exact Kd.b5z HO103.1 (fun _ hk => hk.1.1),by repeat (first|(with_reducible first|exact HB.1|apply a3z|apply a1z|apply a2z)|exact HB.1),by repeat (first|(with_reducible first|exact HK.1|apply Kept.alloc|apply Kept.drewN|apply Kept.drew)|exact HK.1)⟩
 ·rw [if_neg c2] at H
  have c2b0 : decide (64 < (l0.length : Int)) = false:=decide_eq_false c2
  have c2b1 : decide (64 < l0.length) = false:=decide_eq_false (by omega)
  clear c2
  simp only [Option.some.injEq,Prod.mk.injEq] at H
  obtain ⟨rfl,rfl⟩:=H
  obtain ⟨Ao6,co6,eo6⟩:=Kd.d3z HO0.1
  subst eo6
  go_enter Try.func42,Try.ntmps42
  go_wp2
  go_ret2
  exact ⟨_,by first|rfl|(simp [c2z,c1z] <;> rfl)|(simp [*,c2z,c1z] <;> rfl),by (with_reducible repeat (first|apply Kd.R_alloc|apply Kd.a4z|apply Kd.a5z));exact HO0.1,by repeat (first|(with_reducible first|exact HB.1|apply a3z|apply a1z|apply a2z)|exact HB.1),by repeat (first|(with_reducible first|exact HK.1|apply Kept.alloc|apply Kept.drewN|apply Kept.drew)|exact HK.1)⟩
end Go.Proofs.Ytmdhedkgpgoneaa.Q
