/- The law FnCellsMeet (part 4 of 7): for every input the call answers true and its arguments read afterwards as before. No condition beyond the row's own. -/
import Derived.Test.YtbhgkpfbggkgdaaCFnCellsMeet3
namespace Go.Proofs.Ytbhgkpfbggkgdaa.Q
open Go.RowKit Go.Proofs.YtbhgkpfbggkgdaaW.PrintWords Go.Proofs.YtbhgkpfbggkgdaaW.PrintLast Go.Proofs.YtbhgkpfbggkgdaaW.PrintMore
attribute [local go_sem] e8z e6z f5z f4z e1z e0z e7z e5z
set_option linter.unusedVariables false
set_option linter.unusedSimpArgs false
def spec_l5Join.f (l0 : List (S67)) (a1_0 : Int) (a1_1 : Int) (a1_2 : Int) (a1_3 : Int) (a1_4 : Int) (a1_5 : Int) (a1_6 : Int) : Option ((List (S67))) := if (wrap64 ((l0.length : Int) - 1)) ≥ 0 then (if 0 ≤ (wrap64 ((l0.length : Int) - 1)) then (if (wrap64 ((l0.length : Int) - 1)) < (l0.length : Int) then (if ((b6z l0 (wrap64 ((l0.length : Int) - 1))).f6) = a1_6 then (if ((b6z l0 (wrap64 ((l0.length : Int) - 1))).f0) = a1_0 then (if ((b6z l0 (wrap64 ((l0.length : Int) - 1))).f2) = a1_2 then (if (wrap64 (((b6z l0 (wrap64 ((l0.length : Int) - 1))).f5) + 1)) = a1_4 then (some (l0.set ((wrap64 ((l0.length : Int) - 1)) : Int).toNat (⟨(b6z l0 (wrap64 ((l0.length : Int) - 1))).f0, (b6z l0 (wrap64 ((l0.length : Int) - 1))).f1, (b6z l0 (wrap64 ((l0.length : Int) - 1))).f2, (b6z l0 (wrap64 ((l0.length : Int) - 1))).f3, (b6z l0 (wrap64 ((l0.length : Int) - 1))).f4, a1_5, (b6z l0 (wrap64 ((l0.length : Int) - 1))).f6⟩ : S67))) else (if l0.length < 2513169434916 then (some (l0 ++ [(⟨a1_0, a1_1, a1_2, a1_3, a1_4, a1_5, a1_6⟩ : S67)])) else (none))) else (if l0.length < 2513169434916 then (some (l0 ++ [(⟨a1_0, a1_1, a1_2, a1_3, a1_4, a1_5, a1_6⟩ : S67)])) else (none))) else (if l0.length < 2513169434916 then (some (l0 ++ [(⟨a1_0, a1_1, a1_2, a1_3, a1_4, a1_5, a1_6⟩ : S67)])) else (none))) else (if l0.length < 2513169434916 then (some (l0 ++ [(⟨a1_0, a1_1, a1_2, a1_3, a1_4, a1_5, a1_6⟩ : S67)])) else (none))) else (none)) else (none)) else (if l0.length < 2513169434916 then (some (l0 ++ [(⟨a1_0, a1_1, a1_2, a1_3, a1_4, a1_5, a1_6⟩ : S67)])) else (none))
set_option maxHeartbeats 8000000 in
set_option maxRecDepth 100000 in
theorem spec_l5Join.calls (P0_ : Nat → Prop) (u9000_ : Value) (l0 : List (S67)) (a1_0 : Int) (a1_1 : Int) (a1_2 : Int) (a1_3 : Int) (a1_4 : Int) (a1_5 : Int) (a1_6 : Int) (r : List (S67)) (w0 w : World) (hB : Below w0.heap.size w0 w) (ho0 : Kd.R k67 67 w w0.heap.size P0_ u9000_ l0) (h : spec_l5Join.f l0 a1_0 a1_1 a1_2 a1_3 a1_4 a1_5 a1_6 = some r) :
  Calls Try.prog 122 #[u9000_, .agg #[.int .i64 a1_0, .int .i64 a1_1, .int .i64 a1_2, .int .i64 a1_3, .int .i64 a1_4, .int .i64 a1_5, .int .i64 a1_6]] w fun e w' => ∃ v0_ : Value, e = .returned (v0_) ∧ Kd.R k67 67 w' w0.heap.size (fun k_ => (P0_ k_ ∨ w.heap.size ≤ k_)) v0_ r ∧ Below w0.heap.size w0 w' ∧ Kept w w' (fun k_ => P0_ k_) := by
 have hu67 := Try.underlying67
 have HO0 := a1z.mk (show Kd.R k67 67 w w0.heap.size (fun k_ => (P0_ k_ ∨ w.heap.size ≤ k_)) u9000_ l0 from Kd.c6z ho0 (fun k_ hk => (.inl hk)))
 have HK := a1z.mk (Kept.refl w (fun k_ => P0_ k_))
 have HW0 := a1z.mk hB.size
 have HB := a1z.mk hB
 clear hB
 have H : (if (wrap64 ((l0.length : Int) - 1)) ≥ 0 then (if 0 ≤ (wrap64 ((l0.length : Int) - 1)) then (if (wrap64 ((l0.length : Int) - 1)) < (l0.length : Int) then (if ((b6z l0 (wrap64 ((l0.length : Int) - 1))).f6) = a1_6 then (if ((b6z l0 (wrap64 ((l0.length : Int) - 1))).f0) = a1_0 then (if ((b6z l0 (wrap64 ((l0.length : Int) - 1))).f2) = a1_2 then (if (wrap64 (((b6z l0 (wrap64 ((l0.length : Int) - 1))).f5) + 1)) = a1_4 then (some (l0.set ((wrap64 ((l0.length : Int) - 1)) : Int).toNat (⟨(b6z l0 (wrap64 ((l0.length : Int) - 1))).f0, (b6z l0 (wrap64 ((l0.length : Int) - 1))).f1, (b6z l0 (wrap64 ((l0.length : Int) - 1))).f2, (b6z l0 (wrap64 ((l0.length : Int) - 1))).f3, (b6z l0 (wrap64 ((l0.length : Int) - 1))).f4, a1_5, (b6z l0 (wrap64 ((l0.length : Int) - 1))).f6⟩ : S67))) else (if l0.length < 2513169434916 then (some (l0 ++ [(⟨a1_0, a1_1, a1_2, a1_3, a1_4, a1_5, a1_6⟩ : S67)])) else (none))) else (if l0.length < 2513169434916 then (some (l0 ++ [(⟨a1_0, a1_1, a1_2, a1_3, a1_4, a1_5, a1_6⟩ : S67)])) else (none))) else (if l0.length < 2513169434916 then (some (l0 ++ [(⟨a1_0, a1_1, a1_2, a1_3, a1_4, a1_5, a1_6⟩ : S67)])) else (none))) else (if l0.length < 2513169434916 then (some (l0 ++ [(⟨a1_0, a1_1, a1_2, a1_3, a1_4, a1_5, a1_6⟩ : S67)])) else (none))) else (none)) else (none)) else (if l0.length < 2513169434916 then (some (l0 ++ [(⟨a1_0, a1_1, a1_2, a1_3, a1_4, a1_5, a1_6⟩ : S67)])) else (none))) = some r := h
 clear h
 by_cases c3 : (wrap64 ((l0.length : Int) - 1)) ≥ 0
 ·rw [if_pos c3] at H
  have c3b0 : decide (0 ≤ (wrap64 ((l0.length : Int) - 1))) = true := decide_eq_true c3
  clear c3
  obtain ⟨ji4, hji4⟩ : ∃ j_ : Int, (wrap64 ((l0.length : Int) - 1)) = j_ := ⟨_, rfl⟩
  replace H : (if 0 ≤ (ji4) then (if (ji4) < (l0.length : Int) then (if ((b6z l0 (ji4)).f6) = a1_6 then (if ((b6z l0 (ji4)).f0) = a1_0 then (if ((b6z l0 (ji4)).f2) = a1_2 then (if (wrap64 (((b6z l0 (ji4)).f5) + 1)) = a1_4 then (some (l0.set ((ji4) : Int).toNat (⟨(b6z l0 (ji4)).f0, (b6z l0 (ji4)).f1, (b6z l0 (ji4)).f2, (b6z l0 (ji4)).f3, (b6z l0 (ji4)).f4, a1_5, (b6z l0 (ji4)).f6⟩ : S67))) else (if l0.length < 2513169434916 then (some (l0 ++ [(⟨a1_0, a1_1, a1_2, a1_3, a1_4, a1_5, a1_6⟩ : S67)])) else (none))) else (if l0.length < 2513169434916 then (some (l0 ++ [(⟨a1_0, a1_1, a1_2, a1_3, a1_4, a1_5, a1_6⟩ : S67)])) else (none))) else (if l0.length < 2513169434916 then (some (l0 ++ [(⟨a1_0, a1_1, a1_2, a1_3, a1_4, a1_5, a1_6⟩ : S67)])) else (none))) else (if l0.length < 2513169434916 then (some (l0 ++ [(⟨a1_0, a1_1, a1_2, a1_3, a1_4, a1_5, a1_6⟩ : S67)])) else (none))) else (none)) else (none)) = some r := by first | (rw [hji4] at H; exact H) | (simp only [hji4] at H ⊢; exact H)
  (try rw [hji4] at c3b0)
  have hji4w : (IntKind.i64.wrap ((l0.length : Int) - 1)) = ji4 := (i64_w _).trans hji4
  by_cases c5 : 0 ≤ (ji4)
  ·rw [if_pos c5] at H
   have c5b0 : decide (0 ≤ (ji4)) = true := decide_eq_true c5
   clear c5
   by_cases c6 : (ji4) < (l0.length : Int)
   ·rw [if_pos c6] at H
    have c6b0 : decide ((ji4) < (l0.length : Int)) = true := decide_eq_true c6
    clear c6
    by_cases c7 : ((b6z l0 (ji4)).f6) = a1_6
    ·rw [if_pos c7] at H
     have c7b0 : (((b6z l0 (ji4)).f6) == a1_6) = true := beq_iff_eq.mpr c7
     have c7b1 : (((b6z l0 (ji4)).f6) != a1_6) = false := bne_eq_false_iff_eq.mpr c7
     clear c7
     by_cases c8 : ((b6z l0 (ji4)).f0) = a1_0
     ·rw [if_pos c8] at H
      have c8b0 : (((b6z l0 (ji4)).f0) == a1_0) = true := beq_iff_eq.mpr c8
      have c8b1 : (((b6z l0 (ji4)).f0) != a1_0) = false := bne_eq_false_iff_eq.mpr c8
      clear c8
      by_cases c9 : ((b6z l0 (ji4)).f2) = a1_2
      ·rw [if_pos c9] at H
       have c9b0 : (((b6z l0 (ji4)).f2) == a1_2) = true := beq_iff_eq.mpr c9
       have c9b1 : (((b6z l0 (ji4)).f2) != a1_2) = false := bne_eq_false_iff_eq.mpr c9
       clear c9
       by_cases c10 : (wrap64 (((b6z l0 (ji4)).f5) + 1)) = a1_4
       ·rw [if_pos c10] at H
        have c10b0 : ((wrap64 (((b6z l0 (ji4)).f5) + 1)) == a1_4) = true := beq_iff_eq.mpr c10
        have c10b1 : ((wrap64 (((b6z l0 (ji4)).f5) + 1)) != a1_4) = false := bne_eq_false_iff_eq.mpr c10
        clear c10
        obtain ⟨y106, hy106⟩ : ∃ y_ : List (S67), y_ = (l0.set ((ji4) : Int).toNat (⟨(b6z l0 (ji4)).f0, (b6z l0 (ji4)).f1, (b6z l0 (ji4)).f2, (b6z l0 (ji4)).f3, (b6z l0 (ji4)).f4, a1_5, (b6z l0 (ji4)).f6⟩ : S67)) := ⟨_, rfl⟩
        replace H : (some y106) = some r := by first | (rw [hy106]; with_reducible exact H) | (have H2_ := (Option.bind_some _ _).symm.trans H; rw [hy106]; with_reducible exact H2_) | (have H2_ := (Option.bind_some _ _).symm.trans H; with_reducible exact H2_) | with_reducible exact H | (rw [hy106]; exact H) | exact H
        have Ny106 := a1z.mk hy106
        clear hy106
        obtain rfl := Option.some.inj H
        go_enter Try.func122, Try.ntmps122
        go_wp2_with (first | ((with_reducible refine d1z (N := 3) rfl ?_); refine d3z ?hg (N := 3) ?hd (cs := #[.int .i64 a1_0, .int .i64 a1_1, .int .i64 a1_2, .int .i64 a1_3, .int .i64 a1_4, .int .i64 a1_5, .int .i64 a1_6]) (t := 67) ?hr ?_; (case hd => rfl); (case hg => rfl); (case hr => first | (go_simp; done) | (go_simp; rfl)); intro gb101 hg w12 hbox hb; have n0_ := a1z.mk (Kd.d7z (Kd.g3z (by (with_reducible repeat (first | apply Kd.R_alloc | apply Kd.b1z | apply Kd.b3z)); exact HO0.1) gb101 (Nat.le_of_eq hg.symm)) hb); have n1_ := a1z.mk (Kept.below (S := (fun k_ => P0_ k_)) (by repeat (first | (with_reducible first | exact HK.1 | apply Kept.alloc | apply Kept.drewN | apply Kept.drew) | exact HK.1)) hb); have n2_ := a1z.mk (b7z (by repeat (first | (with_reducible first | exact HB.1 | apply a5z | apply a2z | apply a4z) | exact HB.1)) hb); have n3_ := a1z.mk (hbox); have n4_ := a1z.mk ((by rw [hg]; exact (by first | exact HK.1.1 | exact (show Kept w _ (fun k_ => P0_ k_) from by repeat (first | (with_reducible first | exact HK.1 | apply Kept.alloc | apply Kept.drewN | apply Kept.drew) | exact HK.1)).1) : w.heap.size ≤ gb101)); have n5_ := a1z.mk ((by rw [hg]; exact (b5z (by repeat (first | (with_reducible first | exact HB.1 | apply a5z | apply a2z | apply a4z) | exact HB.1))) : w0.heap.size ≤ gb101)); clear HO0; clear HK; clear HB; have HO0 := n0_; have HK := n1_; have HB := n2_; have BK101 := n3_; have GW101 := n4_; have GE101 := n5_; clear n0_ n1_ n2_ n3_ n4_ n5_; clear hb hbox hg; obtain ⟨Ao13, co13, eo13⟩ := Kd.d6z HO0.1; subst eo13; have p102 : 0 ≤ ((ji4) : Int) := of_decide_eq_true (by first | (with_reducible assumption) | assumption); have q102 : (ji4) < (l0.length : Int) := of_decide_eq_true (by first | (with_reducible assumption) | assumption); obtain ⟨ad102, e102, hx102_0, hx102_1, hx102_2, hx102_3, hx102_4, hx102_5, hx102_6⟩ := f3z (Kd.b9z HO0.1).2.2 (ji4) p102 q102; cases e102; replace p102 := eq_true p102; replace q102 := eq_true q102; have hcz14_0 : w12.cell? ⟨gb101, 0, none⟩ = some (.int .i64 a1_0) := (a0z BK101.1 0).trans rfl; have hcz14_1 : w12.cell? ⟨gb101, 1, none⟩ = some (.int .i64 a1_1) := (a0z BK101.1 1).trans rfl; have hcz14_2 : w12.cell? ⟨gb101, 2, none⟩ = some (.int .i64 a1_2) := (a0z BK101.1 2).trans rfl; have hcz14_3 : w12.cell? ⟨gb101, 3, none⟩ = some (.int .i64 a1_3) := (a0z BK101.1 3).trans rfl; have hcz14_4 : w12.cell? ⟨gb101, 4, none⟩ = some (.int .i64 a1_4) := (a0z BK101.1 4).trans rfl; have hcz14_5 : w12.cell? ⟨gb101, 5, none⟩ = some (.int .i64 a1_5) := (a0z BK101.1 5).trans rfl; have hcz14_6 : w12.cell? ⟨gb101, 6, none⟩ = some (.int .i64 a1_6) := (a0z BK101.1 6).trans rfl; have hfz14_0 := a3z BK101.1 0; have hfz14_1 := a3z BK101.1 1; have hfz14_2 := a3z BK101.1 2; have hfz14_3 := a3z BK101.1 3; have hfz14_4 := a3z BK101.1 4; have hfz14_5 := a3z BK101.1 5; have hfz14_6 := a3z BK101.1 6; have p103 : 0 ≤ ((ji4) : Int) := of_decide_eq_true (by first | (with_reducible assumption) | assumption); have q103 : (ji4) < (l0.length : Int) := of_decide_eq_true (by first | (with_reducible assumption) | assumption); obtain ⟨ad103, e103, hx103_0, hx103_1, hx103_2, hx103_3, hx103_4, hx103_5, hx103_6⟩ := f3z (Kd.b9z HO0.1).2.2 (ji4) p103 q103; obtain rfl : ad102 = ad103 := (by injection e103); replace p103 := eq_true p103; replace q103 := eq_true q103; have p104 : 0 ≤ ((ji4) : Int) := of_decide_eq_true (by first | (with_reducible assumption) | assumption); have q104 : (ji4) < (l0.length : Int) := of_decide_eq_true (by first | (with_reducible assumption) | assumption); obtain ⟨ad104, e104, hx104_0, hx104_1, hx104_2, hx104_3, hx104_4, hx104_5, hx104_6⟩ := f3z (Kd.b9z HO0.1).2.2 (ji4) p104 q104; obtain rfl : ad102 = ad104 := (by injection e104); replace p104 := eq_true p104; replace q104 := eq_true q104; have p105 : 0 ≤ ((ji4) : Int) := of_decide_eq_true (by first | (with_reducible assumption) | assumption); have q105 : (ji4) < (l0.length : Int) := of_decide_eq_true (by first | (with_reducible assumption) | assumption); obtain ⟨ad105, e105, hx105_0, hx105_1, hx105_2, hx105_3, hx105_4, hx105_5, hx105_6⟩ := f3z (Kd.b9z HO0.1).2.2 (ji4) p105 q105; obtain rfl : ad102 = ad105 := (by injection e105); replace p105 := eq_true p105; replace q105 := eq_true q105; have p11 : 0 ≤ ((ji4) : Int) := of_decide_eq_true (by first | (with_reducible assumption) | assumption); have q11 : ((ji4) : Int) < ((l0.length : Int) : Int) := of_decide_eq_true (by first | (with_reducible assumption) | assumption); obtain ⟨go11, co11, eo11, gb11, gl11, cl11, HG11⟩ := Kd.R_form HO0.1 (by omega); (first | cases eo11 | (injection eo11 with ea_ en_ ec_; (first | subst ea_ | (injection ea_ with ea_; subst ea_)); subst ec_; clear en_)); have GB11 := a1z.mk gb11; have GG11 := a1z.mk HG11; clear gb11 gl11 HG11; have HMgo11 := a1z.mk (show (P0_ go11 ∨ w.heap.size ≤ go11) from (HO0.1.1 _ rfl).1); (first | simp only [d2z] at hx102_0 | skip); (first | simp only [d2z] at hx102_1 | skip); (first | simp only [d2z] at hx102_2 | skip); (first | simp only [d2z] at hx102_3 | skip); (first | simp only [d2z] at hx102_4 | skip); (first | simp only [d2z] at hx102_5 | skip); (first | simp only [d2z] at hx102_6 | skip); (first | simp only [d2z] at hx103_0 | skip); (first | simp only [d2z] at hx103_1 | skip); (first | simp only [d2z] at hx103_2 | skip); (first | simp only [d2z] at hx103_3 | skip); (first | simp only [d2z] at hx103_4 | skip); (first | simp only [d2z] at hx103_5 | skip); (first | simp only [d2z] at hx103_6 | skip); (first | simp only [d2z] at hx104_0 | skip); (first | simp only [d2z] at hx104_1 | skip); (first | simp only [d2z] at hx104_2 | skip); (first | simp only [d2z] at hx104_3 | skip); (first | simp only [d2z] at hx104_4 | skip); (first | simp only [d2z] at hx104_5 | skip); (first | simp only [d2z] at hx104_6 | skip); (first | simp only [d2z] at hx105_0 | skip); (first | simp only [d2z] at hx105_1 | skip); (first | simp only [d2z] at hx105_2 | skip); (first | simp only [d2z] at hx105_3 | skip); (first | simp only [d2z] at hx105_4 | skip); (first | simp only [d2z] at hx105_5 | skip); (first | simp only [d2z] at hx105_6 | skip); obtain ⟨ce11, hcl11, hM11, hcc11, hfr11⟩ := Kd.R_elem HO0.1 z67 ((ji4) : Int) p11 q11; obtain rfl := h3z hM11; have hx11_0 : w12.cell? ⟨go11, ((ji4) : Int).toNat * 7, none⟩ = some (.int .i64 ((b6z l0 (ji4)).f0)) := hcc11 0 _ rfl; have hx11_1 : w12.cell? ⟨go11, ((ji4) : Int).toNat * 7 + 1, none⟩ = some (.int .i64 ((b6z l0 (ji4)).f1)) := hcc11 1 _ rfl; have hx11_2 : w12.cell? ⟨go11, ((ji4) : Int).toNat * 7 + 2, none⟩ = some (.int .i64 ((b6z l0 (ji4)).f2)) := hcc11 2 _ rfl; have hx11_3 : w12.cell? ⟨go11, ((ji4) : Int).toNat * 7 + 3, none⟩ = some (.int .i64 ((b6z l0 (ji4)).f3)) := hcc11 3 _ rfl; have hx11_4 : w12.cell? ⟨go11, ((ji4) : Int).toNat * 7 + 4, none⟩ = some (.int .i64 ((b6z l0 (ji4)).f4)) := hcc11 4 _ rfl; have hx11_5 : w12.cell? ⟨go11, ((ji4) : Int).toNat * 7 + 5, none⟩ = some (.int .i64 ((b6z l0 (ji4)).f5)) := hcc11 5 _ rfl; have hx11_6 : w12.cell? ⟨go11, ((ji4) : Int).toNat * 7 + 6, none⟩ = some (.int .i64 ((b6z l0 (ji4)).f6)) := hcc11 6 _ rfl; have hf11_0 : w12.frozen? ⟨go11, ((ji4) : Int).toNat * 7, none⟩ = false := hfr11 0; have hf11_1 : w12.frozen? ⟨go11, ((ji4) : Int).toNat * 7 + 1, none⟩ = false := hfr11 1; have hf11_2 : w12.frozen? ⟨go11, ((ji4) : Int).toNat * 7 + 2, none⟩ = false := hfr11 2; have hf11_3 : w12.frozen? ⟨go11, ((ji4) : Int).toNat * 7 + 3, none⟩ = false := hfr11 3; have hf11_4 : w12.frozen? ⟨go11, ((ji4) : Int).toNat * 7 + 4, none⟩ = false := hfr11 4; have hf11_5 : w12.frozen? ⟨go11, ((ji4) : Int).toNat * 7 + 5, none⟩ = false := hfr11 5; have hf11_6 : w12.frozen? ⟨go11, ((ji4) : Int).toNat * 7 + 6, none⟩ = false := hfr11 6; clear hcl11 hcc11 hfr11 hM11; replace p11 := eq_true p11; replace q11 := eq_true q11; have HX15 := a1z.mk (show Kd.R k67 67 w12 w0.heap.size (fun k_ => (P0_ k_ ∨ w.heap.size ≤ k_) ∧ k_ ≠ gb101) (.slice (some ⟨go11, 0, none⟩) l0.length co13) l0 from (by (with_reducible repeat (first | apply Kd.R_alloc | apply Kd.b1z | apply Kd.b3z)); exact HO0.1)); obtain ⟨ce15, hcl15, hM15, hcc15, hfr15⟩ := Kd.R_elem HX15.1 z67 ((ji4) : Int) (of_decide_eq_true (by first | (with_reducible assumption) | assumption)) (by have h_ : ((ji4) : Int) < ((l0.length : Int) : Int) := of_decide_eq_true (by first | (with_reducible assumption) | assumption); first | exact h_ | (have e_ := (Kd.b9z HO0.1).1; omega) | simpa using h_); obtain rfl := h3z hM15; have HP15 := Kd.R_seg HX15.1 ((ji4) : Int) (of_decide_eq_true (by first | (with_reducible assumption) | assumption)) (by have h_ : ((ji4) : Int) < ((l0.length : Int) : Int) := of_decide_eq_true (by first | (with_reducible assumption) | assumption); first | exact h_ | (have e_ := (Kd.b9z HO0.1).1; omega) | simpa using h_) (seg := [.int .i64 a1_5]) (j := 5) hcl15 hcc15 (show 6 ≤ 7 from by decide) (x' := (⟨(b6z l0 (ji4)).f0, (b6z l0 (ji4)).f1, (b6z l0 (ji4)).f2, (b6z l0 (ji4)).f3, (b6z l0 (ji4)).f4, a1_5, (b6z l0 (ji4)).f6⟩ : S67)) (g2z _ _ _ (⟨(b6z l0 (ji4)).f0, (b6z l0 (ji4)).f1, (b6z l0 (ji4)).f2, (b6z l0 (ji4)).f3, (b6z l0 (ji4)).f4, a1_5, (b6z l0 (ji4)).f6⟩ : S67) ) (fun _ hk => hk); have hx15_5 := hcc15 5 _ rfl; (try simp only [show (k67).sz = 7 from rfl, Nat.mul_one, Nat.add_zero] at hx15_5); have hf15_5 := hfr15 5; (try simp only [show (k67).sz = 7 from rfl, Nat.mul_one, Nat.add_zero] at hf15_5); clear hcl15 hcc15 hfr15 hM15) | ((with_reducible refine gate_store (t := 3) (p := 57) rfl ?_); (try (rw [drewN_self w12]; generalize hq_ : World.drewN w12 _ = w12; have n0_ := a1z.mk (Kd.R_at hq_ HO0.1); have n1_ := a1z.mk (blk_at hq_ BK101.1); have n2_ := a1z.mk (kept_at hq_ HK.1); have n3_ := a1z.mk (below_at hq_ HB.1); clear hq_ HO0 BK101 HK HB; have HO0 := n0_; have BK101 := n1_; have HK := n2_; have HB := n3_; clear n0_ n1_ n2_ n3_; (try (have HX15 := a1z.mk (show Kd.R k67 67 w12 w0.heap.size (fun k_ => (P0_ k_ ∨ w.heap.size ≤ k_) ∧ k_ ≠ gb101) (.slice (some ⟨go11, 0, none⟩) l0.length co13) l0 from (by (with_reducible repeat (first | apply Kd.R_alloc | apply Kd.b1z | apply Kd.b3z)); exact HO0.1)))); (try (obtain ⟨ce15, hcl15, hM15, hcc15, hfr15⟩ := Kd.R_elem HX15.1 z67 ((ji4) : Int) (of_decide_eq_true (by first | (with_reducible assumption) | assumption)) (by have h_ : ((ji4) : Int) < ((l0.length : Int) : Int) := of_decide_eq_true (by first | (with_reducible assumption) | assumption); first | exact h_ | (have e_ := (Kd.b9z HO0.1).1; omega) | simpa using h_))); (try (obtain rfl := h3z hM15)); (try (have HP15 := Kd.R_seg HX15.1 ((ji4) : Int) (of_decide_eq_true (by first | (with_reducible assumption) | assumption)) (by have h_ : ((ji4) : Int) < ((l0.length : Int) : Int) := of_decide_eq_true (by first | (with_reducible assumption) | assumption); first | exact h_ | (have e_ := (Kd.b9z HO0.1).1; omega) | simpa using h_) (seg := [.int .i64 a1_5]) (j := 5) hcl15 hcc15 (show 6 ≤ 7 from by decide) (x' := (⟨(b6z l0 (ji4)).f0, (b6z l0 (ji4)).f1, (b6z l0 (ji4)).f2, (b6z l0 (ji4)).f3, (b6z l0 (ji4)).f4, a1_5, (b6z l0 (ji4)).f6⟩ : S67)) (g2z _ _ _ (⟨(b6z l0 (ji4)).f0, (b6z l0 (ji4)).f1, (b6z l0 (ji4)).f2, (b6z l0 (ji4)).f3, (b6z l0 (ji4)).f4, a1_5, (b6z l0 (ji4)).f6⟩ : S67) ) (fun _ hk => hk))); (try (have hx15_5 := hcc15 5 _ rfl)); (try (try simp only [show (k67).sz = 7 from rfl, Nat.mul_one, Nat.add_zero] at hx15_5)); (try (have hf15_5 := hfr15 5)); (try (try simp only [show (k67).sz = 7 from rfl, Nat.mul_one, Nat.add_zero] at hf15_5)); (try (clear hcl15 hcc15 hfr15 hM15)))); refine store_event (t := 3) (p := 57) (v := ?vo_w16) (w1 := (w12.setCell ⟨go11, ((ji4) : Int).toNat * 7 + 5, none⟩ (.int .i64 a1_5))) ?hg ?ho ?hn ?hr ?_; (case ho => rfl); (case hg => rfl); (case hn => rfl); (case hr => first | (go_simp; done) | (go_simp; rfl)); intro w16 hw; have hg : w12.grownBy w16 (some go11) := (by rw [hw]; exact HP15.2); have hp_ : Kd.R k67 67 w16 w0.heap.size (fun k_ => (P0_ k_ ∨ w.heap.size ≤ k_) ∧ k_ ≠ gb101) (.slice (some ⟨go11, 0, none⟩) l0.length co13) y106 := (by rw [hw, Ny106.1]; exact HP15.1); clear HP15; have n0_ := a1z.mk (hp_); have n1_ := a1z.mk (g0z (g := gb101) (o := .cells #[.int .i64 a1_0, .int .i64 a1_1, .int .i64 a1_2, .int .i64 a1_3, .int .i64 a1_4, .int .i64 a1_5, .int .i64 a1_6] 67 (0, 0)) (by (with_reducible repeat (first | refine a7z ?_ _ | refine a8z ?_ | refine blk_alloc ?_ _)); exact BK101.1) hg (Kd.c3z HO0.1 (fun _ hk => hk.2))); have n2_ := a1z.mk ((by rw [hw]; exact a9z (HB.1) GB11.1 : Below w0.heap.size w0 w16)); have n3_ := a1z.mk (Kept.of_grown (S := (fun k_ => P0_ k_)) hg (by repeat (first | (with_reducible first | exact HK.1 | apply Kept.alloc | apply Kept.drewN | apply Kept.drew | refine Kept.setCell ?_ (.inr GW101.1) _) | exact HK.1)) (fun k_ e_ => (HO0.1.1 k_ e_).1)); clear HO0; clear BK101; clear HB; clear HK; have HO0 := n0_; have BK101 := n1_; have HB := n2_; have HK := n3_; clear n0_ n1_ n2_ n3_; clear hg hw hp_))
        repeat (go_quiet (first | ((with_reducible refine d1z (N := 3) rfl ?_); refine d3z ?hg (N := 3) ?hd (cs := #[.int .i64 a1_0, .int .i64 a1_1, .int .i64 a1_2, .int .i64 a1_3, .int .i64 a1_4, .int .i64 a1_5, .int .i64 a1_6]) (t := 67) ?hr ?_; (case hd => rfl); (case hg => rfl); (case hr => first | (go_simp; done) | (go_simp; rfl)); intro gb101 hg w12 hbox hb; have n0_ := a1z.mk (Kd.d7z (Kd.g3z (by (with_reducible repeat (first | apply Kd.R_alloc | apply Kd.b1z | apply Kd.b3z)); exact HO0.1) gb101 (Nat.le_of_eq hg.symm)) hb); have n1_ := a1z.mk (Kept.below (S := (fun k_ => P0_ k_)) (by repeat (first | (with_reducible first | exact HK.1 | apply Kept.alloc | apply Kept.drewN | apply Kept.drew) | exact HK.1)) hb); have n2_ := a1z.mk (b7z (by repeat (first | (with_reducible first | exact HB.1 | apply a5z | apply a2z | apply a4z) | exact HB.1)) hb); have n3_ := a1z.mk (hbox); have n4_ := a1z.mk ((by rw [hg]; exact (by first | exact HK.1.1 | exact (show Kept w _ (fun k_ => P0_ k_) from by repeat (first | (with_reducible first | exact HK.1 | apply Kept.alloc | apply Kept.drewN | apply Kept.drew) | exact HK.1)).1) : w.heap.size ≤ gb101)); have n5_ := a1z.mk ((by rw [hg]; exact (b5z (by repeat (first | (with_reducible first | exact HB.1 | apply a5z | apply a2z | apply a4z) | exact HB.1))) : w0.heap.size ≤ gb101)); clear HO0; clear HK; clear HB; have HO0 := n0_; have HK := n1_; have HB := n2_; have BK101 := n3_; have GW101 := n4_; have GE101 := n5_; clear n0_ n1_ n2_ n3_ n4_ n5_; clear hb hbox hg; obtain ⟨Ao13, co13, eo13⟩ := Kd.d6z HO0.1; subst eo13; have p102 : 0 ≤ ((ji4) : Int) := of_decide_eq_true (by first | (with_reducible assumption) | assumption); have q102 : (ji4) < (l0.length : Int) := of_decide_eq_true (by first | (with_reducible assumption) | assumption); obtain ⟨ad102, e102, hx102_0, hx102_1, hx102_2, hx102_3, hx102_4, hx102_5, hx102_6⟩ := f3z (Kd.b9z HO0.1).2.2 (ji4) p102 q102; cases e102; replace p102 := eq_true p102; replace q102 := eq_true q102; have hcz14_0 : w12.cell? ⟨gb101, 0, none⟩ = some (.int .i64 a1_0) := (a0z BK101.1 0).trans rfl; have hcz14_1 : w12.cell? ⟨gb101, 1, none⟩ = some (.int .i64 a1_1) := (a0z BK101.1 1).trans rfl; have hcz14_2 : w12.cell? ⟨gb101, 2, none⟩ = some (.int .i64 a1_2) := (a0z BK101.1 2).trans rfl; have hcz14_3 : w12.cell? ⟨gb101, 3, none⟩ = some (.int .i64 a1_3) := (a0z BK101.1 3).trans rfl; have hcz14_4 : w12.cell? ⟨gb101, 4, none⟩ = some (.int .i64 a1_4) := (a0z BK101.1 4).trans rfl; have hcz14_5 : w12.cell? ⟨gb101, 5, none⟩ = some (.int .i64 a1_5) := (a0z BK101.1 5).trans rfl; have hcz14_6 : w12.cell? ⟨gb101, 6, none⟩ = some (.int .i64 a1_6) := (a0z BK101.1 6).trans rfl; have hfz14_0 := a3z BK101.1 0; have hfz14_1 := a3z BK101.1 1; have hfz14_2 := a3z BK101.1 2; have hfz14_3 := a3z BK101.1 3; have hfz14_4 := a3z BK101.1 4; have hfz14_5 := a3z BK101.1 5; have hfz14_6 := a3z BK101.1 6; have p103 : 0 ≤ ((ji4) : Int) := of_decide_eq_true (by first | (with_reducible assumption) | assumption); have q103 : (ji4) < (l0.length : Int) := of_decide_eq_true (by first | (with_reducible assumption) | assumption); obtain ⟨ad103, e103, hx103_0, hx103_1, hx103_2, hx103_3, hx103_4, hx103_5, hx103_6⟩ := f3z (Kd.b9z HO0.1).2.2 (ji4) p103 q103; obtain rfl : ad102 = ad103 := (by injection e103); replace p103 := eq_true p103; replace q103 := eq_true q103; have p104 : 0 ≤ ((ji4) : Int) := of_decide_eq_true (by first | (with_reducible assumption) | assumption); have q104 : (ji4) < (l0.length : Int) := of_decide_eq_true (by first | (with_reducible assumption) | assumption); obtain ⟨ad104, e104, hx104_0, hx104_1, hx104_2, hx104_3, hx104_4, hx104_5, hx104_6⟩ := f3z (Kd.b9z HO0.1).2.2 (ji4) p104 q104; obtain rfl : ad102 = ad104 := (by injection e104); replace p104 := eq_true p104; replace q104 := eq_true q104; have p105 : 0 ≤ ((ji4) : Int) := of_decide_eq_true (by first | (with_reducible assumption) | assumption); have q105 : (ji4) < (l0.length : Int) := of_decide_eq_true (by first | (with_reducible assumption) | assumption); obtain ⟨ad105, e105, hx105_0, hx105_1, hx105_2, hx105_3, hx105_4, hx105_5, hx105_6⟩ := f3z (Kd.b9z HO0.1).2.2 (ji4) p105 q105; obtain rfl : ad102 = ad105 := (by injection e105); replace p105 := eq_true p105; replace q105 := eq_true q105; have p11 : 0 ≤ ((ji4) : Int) := of_decide_eq_true (by first | (with_reducible assumption) | assumption); have q11 : ((ji4) : Int) < ((l0.length : Int) : Int) := of_decide_eq_true (by first | (with_reducible assumption) | assumption); obtain ⟨go11, co11, eo11, gb11, gl11, cl11, HG11⟩ := Kd.R_form HO0.1 (by omega); (first | cases eo11 | (injection eo11 with ea_ en_ ec_; (first | subst ea_ | (injection ea_ with ea_; subst ea_)); subst ec_; clear en_)); have GB11 := a1z.mk gb11; have GG11 := a1z.mk HG11; clear gb11 gl11 HG11; have HMgo11 := a1z.mk (show (P0_ go11 ∨ w.heap.size ≤ go11) from (HO0.1.1 _ rfl).1); (first | simp only [d2z] at hx102_0 | skip); (first | simp only [d2z] at hx102_1 | skip); (first | simp only [d2z] at hx102_2 | skip); (first | simp only [d2z] at hx102_3 | skip); (first | simp only [d2z] at hx102_4 | skip); (first | simp only [d2z] at hx102_5 | skip); (first | simp only [d2z] at hx102_6 | skip); (first | simp only [d2z] at hx103_0 | skip); (first | simp only [d2z] at hx103_1 | skip); (first | simp only [d2z] at hx103_2 | skip); (first | simp only [d2z] at hx103_3 | skip); (first | simp only [d2z] at hx103_4 | skip); (first | simp only [d2z] at hx103_5 | skip); (first | simp only [d2z] at hx103_6 | skip); (first | simp only [d2z] at hx104_0 | skip); (first | simp only [d2z] at hx104_1 | skip); (first | simp only [d2z] at hx104_2 | skip); (first | simp only [d2z] at hx104_3 | skip); (first | simp only [d2z] at hx104_4 | skip); (first | simp only [d2z] at hx104_5 | skip); (first | simp only [d2z] at hx104_6 | skip); (first | simp only [d2z] at hx105_0 | skip); (first | simp only [d2z] at hx105_1 | skip); (first | simp only [d2z] at hx105_2 | skip); (first | simp only [d2z] at hx105_3 | skip); (first | simp only [d2z] at hx105_4 | skip); (first | simp only [d2z] at hx105_5 | skip); (first | simp only [d2z] at hx105_6 | skip); obtain ⟨ce11, hcl11, hM11, hcc11, hfr11⟩ := Kd.R_elem HO0.1 z67 ((ji4) : Int) p11 q11; obtain rfl := h3z hM11; have hx11_0 : w12.cell? ⟨go11, ((ji4) : Int).toNat * 7, none⟩ = some (.int .i64 ((b6z l0 (ji4)).f0)) := hcc11 0 _ rfl; have hx11_1 : w12.cell? ⟨go11, ((ji4) : Int).toNat * 7 + 1, none⟩ = some (.int .i64 ((b6z l0 (ji4)).f1)) := hcc11 1 _ rfl; have hx11_2 : w12.cell? ⟨go11, ((ji4) : Int).toNat * 7 + 2, none⟩ = some (.int .i64 ((b6z l0 (ji4)).f2)) := hcc11 2 _ rfl; have hx11_3 : w12.cell? ⟨go11, ((ji4) : Int).toNat * 7 + 3, none⟩ = some (.int .i64 ((b6z l0 (ji4)).f3)) := hcc11 3 _ rfl; have hx11_4 : w12.cell? ⟨go11, ((ji4) : Int).toNat * 7 + 4, none⟩ = some (.int .i64 ((b6z l0 (ji4)).f4)) := hcc11 4 _ rfl; have hx11_5 : w12.cell? ⟨go11, ((ji4) : Int).toNat * 7 + 5, none⟩ = some (.int .i64 ((b6z l0 (ji4)).f5)) := hcc11 5 _ rfl; have hx11_6 : w12.cell? ⟨go11, ((ji4) : Int).toNat * 7 + 6, none⟩ = some (.int .i64 ((b6z l0 (ji4)).f6)) := hcc11 6 _ rfl; have hf11_0 : w12.frozen? ⟨go11, ((ji4) : Int).toNat * 7, none⟩ = false := hfr11 0; have hf11_1 : w12.frozen? ⟨go11, ((ji4) : Int).toNat * 7 + 1, none⟩ = false := hfr11 1; have hf11_2 : w12.frozen? ⟨go11, ((ji4) : Int).toNat * 7 + 2, none⟩ = false := hfr11 2; have hf11_3 : w12.frozen? ⟨go11, ((ji4) : Int).toNat * 7 + 3, none⟩ = false := hfr11 3; have hf11_4 : w12.frozen? ⟨go11, ((ji4) : Int).toNat * 7 + 4, none⟩ = false := hfr11 4; have hf11_5 : w12.frozen? ⟨go11, ((ji4) : Int).toNat * 7 + 5, none⟩ = false := hfr11 5; have hf11_6 : w12.frozen? ⟨go11, ((ji4) : Int).toNat * 7 + 6, none⟩ = false := hfr11 6; clear hcl11 hcc11 hfr11 hM11; replace p11 := eq_true p11; replace q11 := eq_true q11; have HX15 := a1z.mk (show Kd.R k67 67 w12 w0.heap.size (fun k_ => (P0_ k_ ∨ w.heap.size ≤ k_) ∧ k_ ≠ gb101) (.slice (some ⟨go11, 0, none⟩) l0.length co13) l0 from (by (with_reducible repeat (first | apply Kd.R_alloc | apply Kd.b1z | apply Kd.b3z)); exact HO0.1)); obtain ⟨ce15, hcl15, hM15, hcc15, hfr15⟩ := Kd.R_elem HX15.1 z67 ((ji4) : Int) (of_decide_eq_true (by first | (with_reducible assumption) | assumption)) (by have h_ : ((ji4) : Int) < ((l0.length : Int) : Int) := of_decide_eq_true (by first | (with_reducible assumption) | assumption); first | exact h_ | (have e_ := (Kd.b9z HO0.1).1; omega) | simpa using h_); obtain rfl := h3z hM15; have HP15 := Kd.R_seg HX15.1 ((ji4) : Int) (of_decide_eq_true (by first | (with_reducible assumption) | assumption)) (by have h_ : ((ji4) : Int) < ((l0.length : Int) : Int) := of_decide_eq_true (by first | (with_reducible assumption) | assumption); first | exact h_ | (have e_ := (Kd.b9z HO0.1).1; omega) | simpa using h_) (seg := [.int .i64 a1_5]) (j := 5) hcl15 hcc15 (show 6 ≤ 7 from by decide) (x' := (⟨(b6z l0 (ji4)).f0, (b6z l0 (ji4)).f1, (b6z l0 (ji4)).f2, (b6z l0 (ji4)).f3, (b6z l0 (ji4)).f4, a1_5, (b6z l0 (ji4)).f6⟩ : S67)) (g2z _ _ _ (⟨(b6z l0 (ji4)).f0, (b6z l0 (ji4)).f1, (b6z l0 (ji4)).f2, (b6z l0 (ji4)).f3, (b6z l0 (ji4)).f4, a1_5, (b6z l0 (ji4)).f6⟩ : S67) ) (fun _ hk => hk); have hx15_5 := hcc15 5 _ rfl; (try simp only [show (k67).sz = 7 from rfl, Nat.mul_one, Nat.add_zero] at hx15_5); have hf15_5 := hfr15 5; (try simp only [show (k67).sz = 7 from rfl, Nat.mul_one, Nat.add_zero] at hf15_5); clear hcl15 hcc15 hfr15 hM15) | ((with_reducible refine gate_store (t := 3) (p := 57) rfl ?_); (try (rw [drewN_self w12]; generalize hq_ : World.drewN w12 _ = w12; have n0_ := a1z.mk (Kd.R_at hq_ HO0.1); have n1_ := a1z.mk (blk_at hq_ BK101.1); have n2_ := a1z.mk (kept_at hq_ HK.1); have n3_ := a1z.mk (below_at hq_ HB.1); clear hq_ HO0 BK101 HK HB; have HO0 := n0_; have BK101 := n1_; have HK := n2_; have HB := n3_; clear n0_ n1_ n2_ n3_; (try (have HX15 := a1z.mk (show Kd.R k67 67 w12 w0.heap.size (fun k_ => (P0_ k_ ∨ w.heap.size ≤ k_) ∧ k_ ≠ gb101) (.slice (some ⟨go11, 0, none⟩) l0.length co13) l0 from (by (with_reducible repeat (first | apply Kd.R_alloc | apply Kd.b1z | apply Kd.b3z)); exact HO0.1)))); (try (obtain ⟨ce15, hcl15, hM15, hcc15, hfr15⟩ := Kd.R_elem HX15.1 z67 ((ji4) : Int) (of_decide_eq_true (by first | (with_reducible assumption) | assumption)) (by have h_ : ((ji4) : Int) < ((l0.length : Int) : Int) := of_decide_eq_true (by first | (with_reducible assumption) | assumption); first | exact h_ | (have e_ := (Kd.b9z HO0.1).1; omega) | simpa using h_))); (try (obtain rfl := h3z hM15)); (try (have HP15 := Kd.R_seg HX15.1 ((ji4) : Int) (of_decide_eq_true (by first | (with_reducible assumption) | assumption)) (by have h_ : ((ji4) : Int) < ((l0.length : Int) : Int) := of_decide_eq_true (by first | (with_reducible assumption) | assumption); first | exact h_ | (have e_ := (Kd.b9z HO0.1).1; omega) | simpa using h_) (seg := [.int .i64 a1_5]) (j := 5) hcl15 hcc15 (show 6 ≤ 7 from by decide) (x' := (⟨(b6z l0 (ji4)).f0, (b6z l0 (ji4)).f1, (b6z l0 (ji4)).f2, (b6z l0 (ji4)).f3, (b6z l0 (ji4)).f4, a1_5, (b6z l0 (ji4)).f6⟩ : S67)) (g2z _ _ _ (⟨(b6z l0 (ji4)).f0, (b6z l0 (ji4)).f1, (b6z l0 (ji4)).f2, (b6z l0 (ji4)).f3, (b6z l0 (ji4)).f4, a1_5, (b6z l0 (ji4)).f6⟩ : S67) ) (fun _ hk => hk))); (try (have hx15_5 := hcc15 5 _ rfl)); (try (try simp only [show (k67).sz = 7 from rfl, Nat.mul_one, Nat.add_zero] at hx15_5)); (try (have hf15_5 := hfr15 5)); (try (try simp only [show (k67).sz = 7 from rfl, Nat.mul_one, Nat.add_zero] at hf15_5)); (try (clear hcl15 hcc15 hfr15 hM15)))); refine store_event (t := 3) (p := 57) (v := ?vo_w16) (w1 := (w12.setCell ⟨go11, ((ji4) : Int).toNat * 7 + 5, none⟩ (.int .i64 a1_5))) ?hg ?ho ?hn ?hr ?_; (case ho => rfl); (case hg => rfl); (case hn => rfl); (case hr => first | (go_simp; done) | (go_simp; rfl)); intro w16 hw; have hg : w12.grownBy w16 (some go11) := (by rw [hw]; exact HP15.2); have hp_ : Kd.R k67 67 w16 w0.heap.size (fun k_ => (P0_ k_ ∨ w.heap.size ≤ k_) ∧ k_ ≠ gb101) (.slice (some ⟨go11, 0, none⟩) l0.length co13) y106 := (by rw [hw, Ny106.1]; exact HP15.1); clear HP15; have n0_ := a1z.mk (hp_); have n1_ := a1z.mk (g0z (g := gb101) (o := .cells #[.int .i64 a1_0, .int .i64 a1_1, .int .i64 a1_2, .int .i64 a1_3, .int .i64 a1_4, .int .i64 a1_5, .int .i64 a1_6] 67 (0, 0)) (by (with_reducible repeat (first | refine a7z ?_ _ | refine a8z ?_ | refine blk_alloc ?_ _)); exact BK101.1) hg (Kd.c3z HO0.1 (fun _ hk => hk.2))); have n2_ := a1z.mk ((by rw [hw]; exact a9z (HB.1) GB11.1 : Below w0.heap.size w0 w16)); have n3_ := a1z.mk (Kept.of_grown (S := (fun k_ => P0_ k_)) hg (by repeat (first | (with_reducible first | exact HK.1 | apply Kept.alloc | apply Kept.drewN | apply Kept.drew | refine Kept.setCell ?_ (.inr GW101.1) _) | exact HK.1)) (fun k_ e_ => (HO0.1.1 k_ e_).1)); clear HO0; clear BK101; clear HB; clear HK; have HO0 := n0_; have BK101 := n1_; have HB := n2_; have HK := n3_; clear n0_ n1_ n2_ n3_; clear hg hw hp_)); try go_wp2_with (first | ((with_reducible refine d1z (N := 3) rfl ?_); refine d3z ?hg (N := 3) ?hd (cs := #[.int .i64 a1_0, .int .i64 a1_1, .int .i64 a1_2, .int .i64 a1_3, .int .i64 a1_4, .int .i64 a1_5, .int .i64 a1_6]) (t := 67) ?hr ?_; (case hd => rfl); (case hg => rfl); (case hr => first | (go_simp; done) | (go_simp; rfl)); intro gb101 hg w12 hbox hb; have n0_ := a1z.mk (Kd.d7z (Kd.g3z (by (with_reducible repeat (first | apply Kd.R_alloc | apply Kd.b1z | apply Kd.b3z)); exact HO0.1) gb101 (Nat.le_of_eq hg.symm)) hb); have n1_ := a1z.mk (Kept.below (S := (fun k_ => P0_ k_)) (by repeat (first | (with_reducible first | exact HK.1 | apply Kept.alloc | apply Kept.drewN | apply Kept.drew) | exact HK.1)) hb); have n2_ := a1z.mk (b7z (by repeat (first | (with_reducible first | exact HB.1 | apply a5z | apply a2z | apply a4z) | exact HB.1)) hb); have n3_ := a1z.mk (hbox); have n4_ := a1z.mk ((by rw [hg]; exact (by first | exact HK.1.1 | exact (show Kept w _ (fun k_ => P0_ k_) from by repeat (first | (with_reducible first | exact HK.1 | apply Kept.alloc | apply Kept.drewN | apply Kept.drew) | exact HK.1)).1) : w.heap.size ≤ gb101)); have n5_ := a1z.mk ((by rw [hg]; exact (b5z (by repeat (first | (with_reducible first | exact HB.1 | apply a5z | apply a2z | apply a4z) | exact HB.1))) : w0.heap.size ≤ gb101)); clear HO0; clear HK; clear HB; have HO0 := n0_; have HK := n1_; have HB := n2_; have BK101 := n3_; have GW101 := n4_; have GE101 := n5_; clear n0_ n1_ n2_ n3_ n4_ n5_; clear hb hbox hg; obtain ⟨Ao13, co13, eo13⟩ := Kd.d6z HO0.1; subst eo13; have p102 : 0 ≤ ((ji4) : Int) := of_decide_eq_true (by first | (with_reducible assumption) | assumption); have q102 : (ji4) < (l0.length : Int) := of_decide_eq_true (by first | (with_reducible assumption) | assumption); obtain ⟨ad102, e102, hx102_0, hx102_1, hx102_2, hx102_3, hx102_4, hx102_5, hx102_6⟩ := f3z (Kd.b9z HO0.1).2.2 (ji4) p102 q102; cases e102; replace p102 := eq_true p102; replace q102 := eq_true q102; have hcz14_0 : w12.cell? ⟨gb101, 0, none⟩ = some (.int .i64 a1_0) := (a0z BK101.1 0).trans rfl; have hcz14_1 : w12.cell? ⟨gb101, 1, none⟩ = some (.int .i64 a1_1) := (a0z BK101.1 1).trans rfl; have hcz14_2 : w12.cell? ⟨gb101, 2, none⟩ = some (.int .i64 a1_2) := (a0z BK101.1 2).trans rfl; have hcz14_3 : w12.cell? ⟨gb101, 3, none⟩ = some (.int .i64 a1_3) := (a0z BK101.1 3).trans rfl; have hcz14_4 : w12.cell? ⟨gb101, 4, none⟩ = some (.int .i64 a1_4) := (a0z BK101.1 4).trans rfl; have hcz14_5 : w12.cell? ⟨gb101, 5, none⟩ = some (.int .i64 a1_5) := (a0z BK101.1 5).trans rfl; have hcz14_6 : w12.cell? ⟨gb101, 6, none⟩ = some (.int .i64 a1_6) := (a0z BK101.1 6).trans rfl; have hfz14_0 := a3z BK101.1 0; have hfz14_1 := a3z BK101.1 1; have hfz14_2 := a3z BK101.1 2; have hfz14_3 := a3z BK101.1 3; have hfz14_4 := a3z BK101.1 4; have hfz14_5 := a3z BK101.1 5; have hfz14_6 := a3z BK101.1 6; have p103 : 0 ≤ ((ji4) : Int) := of_decide_eq_true (by first | (with_reducible assumption) | assumption); have q103 : (ji4) < (l0.length : Int) := of_decide_eq_true (by first | (with_reducible assumption) | assumption); obtain ⟨ad103, e103, hx103_0, hx103_1, hx103_2, hx103_3, hx103_4, hx103_5, hx103_6⟩ := f3z (Kd.b9z HO0.1).2.2 (ji4) p103 q103; obtain rfl : ad102 = ad103 := (by injection e103); replace p103 := eq_true p103; replace q103 := eq_true q103; have p104 : 0 ≤ ((ji4) : Int) := of_decide_eq_true (by first | (with_reducible assumption) | assumption); have q104 : (ji4) < (l0.length : Int) := of_decide_eq_true (by first | (with_reducible assumption) | assumption); obtain ⟨ad104, e104, hx104_0, hx104_1, hx104_2, hx104_3, hx104_4, hx104_5, hx104_6⟩ := f3z (Kd.b9z HO0.1).2.2 (ji4) p104 q104; obtain rfl : ad102 = ad104 := (by injection e104); replace p104 := eq_true p104; replace q104 := eq_true q104; have p105 : 0 ≤ ((ji4) : Int) := of_decide_eq_true (by first | (with_reducible assumption) | assumption); have q105 : (ji4) < (l0.length : Int) := of_decide_eq_true (by first | (with_reducible assumption) | assumption); obtain ⟨ad105, e105, hx105_0, hx105_1, hx105_2, hx105_3, hx105_4, hx105_5, hx105_6⟩ := f3z (Kd.b9z HO0.1).2.2 (ji4) p105 q105; obtain rfl : ad102 = ad105 := (by injection e105); replace p105 := eq_true p105; replace q105 := eq_true q105; have p11 : 0 ≤ ((ji4) : Int) := of_decide_eq_true (by first | (with_reducible assumption) | assumption); have q11 : ((ji4) : Int) < ((l0.length : Int) : Int) := of_decide_eq_true (by first | (with_reducible assumption) | assumption); obtain ⟨go11, co11, eo11, gb11, gl11, cl11, HG11⟩ := Kd.R_form HO0.1 (by omega); (first | cases eo11 | (injection eo11 with ea_ en_ ec_; (first | subst ea_ | (injection ea_ with ea_; subst ea_)); subst ec_; clear en_)); have GB11 := a1z.mk gb11; have GG11 := a1z.mk HG11; clear gb11 gl11 HG11; have HMgo11 := a1z.mk (show (P0_ go11 ∨ w.heap.size ≤ go11) from (HO0.1.1 _ rfl).1); (first | simp only [d2z] at hx102_0 | skip); (first | simp only [d2z] at hx102_1 | skip); (first | simp only [d2z] at hx102_2 | skip); (first | simp only [d2z] at hx102_3 | skip); (first | simp only [d2z] at hx102_4 | skip); (first | simp only [d2z] at hx102_5 | skip); (first | simp only [d2z] at hx102_6 | skip); (first | simp only [d2z] at hx103_0 | skip); (first | simp only [d2z] at hx103_1 | skip); (first | simp only [d2z] at hx103_2 | skip); (first | simp only [d2z] at hx103_3 | skip); (first | simp only [d2z] at hx103_4 | skip); (first | simp only [d2z] at hx103_5 | skip); (first | simp only [d2z] at hx103_6 | skip); (first | simp only [d2z] at hx104_0 | skip); (first | simp only [d2z] at hx104_1 | skip); (first | simp only [d2z] at hx104_2 | skip); (first | simp only [d2z] at hx104_3 | skip); (first | simp only [d2z] at hx104_4 | skip); (first | simp only [d2z] at hx104_5 | skip); (first | simp only [d2z] at hx104_6 | skip); (first | simp only [d2z] at hx105_0 | skip); (first | simp only [d2z] at hx105_1 | skip); (first | simp only [d2z] at hx105_2 | skip); (first | simp only [d2z] at hx105_3 | skip); (first | simp only [d2z] at hx105_4 | skip); (first | simp only [d2z] at hx105_5 | skip); (first | simp only [d2z] at hx105_6 | skip); obtain ⟨ce11, hcl11, hM11, hcc11, hfr11⟩ := Kd.R_elem HO0.1 z67 ((ji4) : Int) p11 q11; obtain rfl := h3z hM11; have hx11_0 : w12.cell? ⟨go11, ((ji4) : Int).toNat * 7, none⟩ = some (.int .i64 ((b6z l0 (ji4)).f0)) := hcc11 0 _ rfl; have hx11_1 : w12.cell? ⟨go11, ((ji4) : Int).toNat * 7 + 1, none⟩ = some (.int .i64 ((b6z l0 (ji4)).f1)) := hcc11 1 _ rfl; have hx11_2 : w12.cell? ⟨go11, ((ji4) : Int).toNat * 7 + 2, none⟩ = some (.int .i64 ((b6z l0 (ji4)).f2)) := hcc11 2 _ rfl; have hx11_3 : w12.cell? ⟨go11, ((ji4) : Int).toNat * 7 + 3, none⟩ = some (.int .i64 ((b6z l0 (ji4)).f3)) := hcc11 3 _ rfl; have hx11_4 : w12.cell? ⟨go11, ((ji4) : Int).toNat * 7 + 4, none⟩ = some (.int .i64 ((b6z l0 (ji4)).f4)) := hcc11 4 _ rfl; have hx11_5 : w12.cell? ⟨go11, ((ji4) : Int).toNat * 7 + 5, none⟩ = some (.int .i64 ((b6z l0 (ji4)).f5)) := hcc11 5 _ rfl; have hx11_6 : w12.cell? ⟨go11, ((ji4) : Int).toNat * 7 + 6, none⟩ = some (.int .i64 ((b6z l0 (ji4)).f6)) := hcc11 6 _ rfl; have hf11_0 : w12.frozen? ⟨go11, ((ji4) : Int).toNat * 7, none⟩ = false := hfr11 0; have hf11_1 : w12.frozen? ⟨go11, ((ji4) : Int).toNat * 7 + 1, none⟩ = false := hfr11 1; have hf11_2 : w12.frozen? ⟨go11, ((ji4) : Int).toNat * 7 + 2, none⟩ = false := hfr11 2; have hf11_3 : w12.frozen? ⟨go11, ((ji4) : Int).toNat * 7 + 3, none⟩ = false := hfr11 3; have hf11_4 : w12.frozen? ⟨go11, ((ji4) : Int).toNat * 7 + 4, none⟩ = false := hfr11 4; have hf11_5 : w12.frozen? ⟨go11, ((ji4) : Int).toNat * 7 + 5, none⟩ = false := hfr11 5; have hf11_6 : w12.frozen? ⟨go11, ((ji4) : Int).toNat * 7 + 6, none⟩ = false := hfr11 6; clear hcl11 hcc11 hfr11 hM11; replace p11 := eq_true p11; replace q11 := eq_true q11; have HX15 := a1z.mk (show Kd.R k67 67 w12 w0.heap.size (fun k_ => (P0_ k_ ∨ w.heap.size ≤ k_) ∧ k_ ≠ gb101) (.slice (some ⟨go11, 0, none⟩) l0.length co13) l0 from (by (with_reducible repeat (first | apply Kd.R_alloc | apply Kd.b1z | apply Kd.b3z)); exact HO0.1)); obtain ⟨ce15, hcl15, hM15, hcc15, hfr15⟩ := Kd.R_elem HX15.1 z67 ((ji4) : Int) (of_decide_eq_true (by first | (with_reducible assumption) | assumption)) (by have h_ : ((ji4) : Int) < ((l0.length : Int) : Int) := of_decide_eq_true (by first | (with_reducible assumption) | assumption); first | exact h_ | (have e_ := (Kd.b9z HO0.1).1; omega) | simpa using h_); obtain rfl := h3z hM15; have HP15 := Kd.R_seg HX15.1 ((ji4) : Int) (of_decide_eq_true (by first | (with_reducible assumption) | assumption)) (by have h_ : ((ji4) : Int) < ((l0.length : Int) : Int) := of_decide_eq_true (by first | (with_reducible assumption) | assumption); first | exact h_ | (have e_ := (Kd.b9z HO0.1).1; omega) | simpa using h_) (seg := [.int .i64 a1_5]) (j := 5) hcl15 hcc15 (show 6 ≤ 7 from by decide) (x' := (⟨(b6z l0 (ji4)).f0, (b6z l0 (ji4)).f1, (b6z l0 (ji4)).f2, (b6z l0 (ji4)).f3, (b6z l0 (ji4)).f4, a1_5, (b6z l0 (ji4)).f6⟩ : S67)) (g2z _ _ _ (⟨(b6z l0 (ji4)).f0, (b6z l0 (ji4)).f1, (b6z l0 (ji4)).f2, (b6z l0 (ji4)).f3, (b6z l0 (ji4)).f4, a1_5, (b6z l0 (ji4)).f6⟩ : S67) ) (fun _ hk => hk); have hx15_5 := hcc15 5 _ rfl; (try simp only [show (k67).sz = 7 from rfl, Nat.mul_one, Nat.add_zero] at hx15_5); have hf15_5 := hfr15 5; (try simp only [show (k67).sz = 7 from rfl, Nat.mul_one, Nat.add_zero] at hf15_5); clear hcl15 hcc15 hfr15 hM15) | ((with_reducible refine gate_store (t := 3) (p := 57) rfl ?_); (try (rw [drewN_self w12]; generalize hq_ : World.drewN w12 _ = w12; have n0_ := a1z.mk (Kd.R_at hq_ HO0.1); have n1_ := a1z.mk (blk_at hq_ BK101.1); have n2_ := a1z.mk (kept_at hq_ HK.1); have n3_ := a1z.mk (below_at hq_ HB.1); clear hq_ HO0 BK101 HK HB; have HO0 := n0_; have BK101 := n1_; have HK := n2_; have HB := n3_; clear n0_ n1_ n2_ n3_; (try (have HX15 := a1z.mk (show Kd.R k67 67 w12 w0.heap.size (fun k_ => (P0_ k_ ∨ w.heap.size ≤ k_) ∧ k_ ≠ gb101) (.slice (some ⟨go11, 0, none⟩) l0.length co13) l0 from (by (with_reducible repeat (first | apply Kd.R_alloc | apply Kd.b1z | apply Kd.b3z)); exact HO0.1)))); (try (obtain ⟨ce15, hcl15, hM15, hcc15, hfr15⟩ := Kd.R_elem HX15.1 z67 ((ji4) : Int) (of_decide_eq_true (by first | (with_reducible assumption) | assumption)) (by have h_ : ((ji4) : Int) < ((l0.length : Int) : Int) := of_decide_eq_true (by first | (with_reducible assumption) | assumption); first | exact h_ | (have e_ := (Kd.b9z HO0.1).1; omega) | simpa using h_))); (try (obtain rfl := h3z hM15)); (try (have HP15 := Kd.R_seg HX15.1 ((ji4) : Int) (of_decide_eq_true (by first | (with_reducible assumption) | assumption)) (by have h_ : ((ji4) : Int) < ((l0.length : Int) : Int) := of_decide_eq_true (by first | (with_reducible assumption) | assumption); first | exact h_ | (have e_ := (Kd.b9z HO0.1).1; omega) | simpa using h_) (seg := [.int .i64 a1_5]) (j := 5) hcl15 hcc15 (show 6 ≤ 7 from by decide) (x' := (⟨(b6z l0 (ji4)).f0, (b6z l0 (ji4)).f1, (b6z l0 (ji4)).f2, (b6z l0 (ji4)).f3, (b6z l0 (ji4)).f4, a1_5, (b6z l0 (ji4)).f6⟩ : S67)) (g2z _ _ _ (⟨(b6z l0 (ji4)).f0, (b6z l0 (ji4)).f1, (b6z l0 (ji4)).f2, (b6z l0 (ji4)).f3, (b6z l0 (ji4)).f4, a1_5, (b6z l0 (ji4)).f6⟩ : S67) ) (fun _ hk => hk))); (try (have hx15_5 := hcc15 5 _ rfl)); (try (try simp only [show (k67).sz = 7 from rfl, Nat.mul_one, Nat.add_zero] at hx15_5)); (try (have hf15_5 := hfr15 5)); (try (try simp only [show (k67).sz = 7 from rfl, Nat.mul_one, Nat.add_zero] at hf15_5)); (try (clear hcl15 hcc15 hfr15 hM15)))); refine store_event (t := 3) (p := 57) (v := ?vo_w16) (w1 := (w12.setCell ⟨go11, ((ji4) : Int).toNat * 7 + 5, none⟩ (.int .i64 a1_5))) ?hg ?ho ?hn ?hr ?_; (case ho => rfl); (case hg => rfl); (case hn => rfl); (case hr => first | (go_simp; done) | (go_simp; rfl)); intro w16 hw; have hg : w12.grownBy w16 (some go11) := (by rw [hw]; exact HP15.2); have hp_ : Kd.R k67 67 w16 w0.heap.size (fun k_ => (P0_ k_ ∨ w.heap.size ≤ k_) ∧ k_ ≠ gb101) (.slice (some ⟨go11, 0, none⟩) l0.length co13) y106 := (by rw [hw, Ny106.1]; exact HP15.1); clear HP15; have n0_ := a1z.mk (hp_); have n1_ := a1z.mk (g0z (g := gb101) (o := .cells #[.int .i64 a1_0, .int .i64 a1_1, .int .i64 a1_2, .int .i64 a1_3, .int .i64 a1_4, .int .i64 a1_5, .int .i64 a1_6] 67 (0, 0)) (by (with_reducible repeat (first | refine a7z ?_ _ | refine a8z ?_ | refine blk_alloc ?_ _)); exact BK101.1) hg (Kd.c3z HO0.1 (fun _ hk => hk.2))); have n2_ := a1z.mk ((by rw [hw]; exact a9z (HB.1) GB11.1 : Below w0.heap.size w0 w16)); have n3_ := a1z.mk (Kept.of_grown (S := (fun k_ => P0_ k_)) hg (by repeat (first | (with_reducible first | exact HK.1 | apply Kept.alloc | apply Kept.drewN | apply Kept.drew | refine Kept.setCell ?_ (.inr GW101.1) _) | exact HK.1)) (fun k_ e_ => (HO0.1.1 k_ e_).1)); clear HO0; clear BK101; clear HB; clear HK; have HO0 := n0_; have BK101 := n1_; have HB := n2_; have HK := n3_; clear n0_ n1_ n2_ n3_; clear hg hw hp_)))
        go_ret
        exact ⟨_, by first | rfl | (simp [c2z, c1z] <;> rfl) | (simp only [← hji4]; first | rfl | (simp [c2z, c1z] <;> rfl)) | (simp [*, c2z, c1z] <;> rfl), by (with_reducible repeat (first | apply Kd.R_alloc | apply Kd.b1z | apply Kd.b3z)); exact Kd.c6z HO0.1 (fun _ hk => hk.1), by repeat (first | (with_reducible first | exact HB.1 | apply a5z | apply a2z | apply a4z | refine a9z ?_ GE101.1) | exact HB.1), by repeat (first | (with_reducible first | exact HK.1 | apply Kept.alloc | apply Kept.drewN | apply Kept.drew | refine Kept.setCell ?_ (.inr GW101.1) _) | exact HK.1)⟩
       ·rw [if_neg c10] at H
        have c10b0 : ((wrap64 (((b6z l0 (ji4)).f5) + 1)) == a1_4) = false := beq_eq_false_iff_ne.mpr c10
        have c10b1 : ((wrap64 (((b6z l0 (ji4)).f5) + 1)) != a1_4) = true := bne_iff_ne.mpr c10
        by_cases c17 : l0.length < 2513169434916
        ·rw [if_pos c17] at H
         have LMc17 := a1z.mk c17
         clear c17
         obtain ⟨y107, hy107⟩ : ∃ y_ : List (S67), y_ = (l0 ++ [(⟨a1_0, a1_1, a1_2, a1_3, a1_4, a1_5, a1_6⟩ : S67)]) := ⟨_, rfl⟩
         replace H : (some y107) = some r := by first | (rw [hy107]; with_reducible exact H) | (have H2_ := (Option.bind_some _ _).symm.trans H; rw [hy107]; with_reducible exact H2_) | (have H2_ := (Option.bind_some _ _).symm.trans H; with_reducible exact H2_) | with_reducible exact H | (rw [hy107]; exact H) | exact H
         have Ny107 := a1z.mk hy107
         clear hy107
         obtain rfl := Option.some.inj H
         go_enter Try.func122, Try.ntmps122
         go_wp2_with (first | ((with_reducible refine d1z (N := 3) rfl ?_); refine d3z ?hg (N := 3) ?hd (cs := #[.int .i64 a1_0, .int .i64 a1_1, .int .i64 a1_2, .int .i64 a1_3, .int .i64 a1_4, .int .i64 a1_5, .int .i64 a1_6]) (t := 67) ?hr ?_; (case hd => rfl); (case hg => rfl); (case hr => first | (go_simp; done) | (go_simp; rfl)); intro gb101 hg w18 hbox hb; have n0_ := a1z.mk (Kd.d7z (Kd.g3z (by (with_reducible repeat (first | apply Kd.R_alloc | apply Kd.b1z | apply Kd.b3z)); exact HO0.1) gb101 (Nat.le_of_eq hg.symm)) hb); have n1_ := a1z.mk (Kept.below (S := (fun k_ => P0_ k_)) (by repeat (first | (with_reducible first | exact HK.1 | apply Kept.alloc | apply Kept.drewN | apply Kept.drew) | exact HK.1)) hb); have n2_ := a1z.mk (b7z (by repeat (first | (with_reducible first | exact HB.1 | apply a5z | apply a2z | apply a4z) | exact HB.1)) hb); have n3_ := a1z.mk (hbox); have n4_ := a1z.mk ((by rw [hg]; exact (by first | exact HK.1.1 | exact (show Kept w _ (fun k_ => P0_ k_) from by repeat (first | (with_reducible first | exact HK.1 | apply Kept.alloc | apply Kept.drewN | apply Kept.drew) | exact HK.1)).1) : w.heap.size ≤ gb101)); have n5_ := a1z.mk ((by rw [hg]; exact (b5z (by repeat (first | (with_reducible first | exact HB.1 | apply a5z | apply a2z | apply a4z) | exact HB.1))) : w0.heap.size ≤ gb101)); clear HO0; clear HK; clear HB; have HO0 := n0_; have HK := n1_; have HB := n2_; have BK101 := n3_; have GW101 := n4_; have GE101 := n5_; clear n0_ n1_ n2_ n3_ n4_ n5_; clear hb hbox hg; obtain ⟨Ao19, co19, eo19⟩ := Kd.d6z HO0.1; subst eo19; have p102 : 0 ≤ ((ji4) : Int) := of_decide_eq_true (by first | (with_reducible assumption) | assumption); have q102 : (ji4) < (l0.length : Int) := of_decide_eq_true (by first | (with_reducible assumption) | assumption); obtain ⟨ad102, e102, hx102_0, hx102_1, hx102_2, hx102_3, hx102_4, hx102_5, hx102_6⟩ := f3z (Kd.b9z HO0.1).2.2 (ji4) p102 q102; cases e102; replace p102 := eq_true p102; replace q102 := eq_true q102; have hcz20_0 : w18.cell? ⟨gb101, 0, none⟩ = some (.int .i64 a1_0) := (a0z BK101.1 0).trans rfl; have hcz20_1 : w18.cell? ⟨gb101, 1, none⟩ = some (.int .i64 a1_1) := (a0z BK101.1 1).trans rfl; have hcz20_2 : w18.cell? ⟨gb101, 2, none⟩ = some (.int .i64 a1_2) := (a0z BK101.1 2).trans rfl; have hcz20_3 : w18.cell? ⟨gb101, 3, none⟩ = some (.int .i64 a1_3) := (a0z BK101.1 3).trans rfl; have hcz20_4 : w18.cell? ⟨gb101, 4, none⟩ = some (.int .i64 a1_4) := (a0z BK101.1 4).trans rfl; have hcz20_5 : w18.cell? ⟨gb101, 5, none⟩ = some (.int .i64 a1_5) := (a0z BK101.1 5).trans rfl; have hcz20_6 : w18.cell? ⟨gb101, 6, none⟩ = some (.int .i64 a1_6) := (a0z BK101.1 6).trans rfl; have hfz20_0 := a3z BK101.1 0; have hfz20_1 := a3z BK101.1 1; have hfz20_2 := a3z BK101.1 2; have hfz20_3 := a3z BK101.1 3; have hfz20_4 := a3z BK101.1 4; have hfz20_5 := a3z BK101.1 5; have hfz20_6 := a3z BK101.1 6; have p103 : 0 ≤ ((ji4) : Int) := of_decide_eq_true (by first | (with_reducible assumption) | assumption); have q103 : (ji4) < (l0.length : Int) := of_decide_eq_true (by first | (with_reducible assumption) | assumption); obtain ⟨ad103, e103, hx103_0, hx103_1, hx103_2, hx103_3, hx103_4, hx103_5, hx103_6⟩ := f3z (Kd.b9z HO0.1).2.2 (ji4) p103 q103; obtain rfl : ad102 = ad103 := (by injection e103); replace p103 := eq_true p103; replace q103 := eq_true q103; have p104 : 0 ≤ ((ji4) : Int) := of_decide_eq_true (by first | (with_reducible assumption) | assumption); have q104 : (ji4) < (l0.length : Int) := of_decide_eq_true (by first | (with_reducible assumption) | assumption); obtain ⟨ad104, e104, hx104_0, hx104_1, hx104_2, hx104_3, hx104_4, hx104_5, hx104_6⟩ := f3z (Kd.b9z HO0.1).2.2 (ji4) p104 q104; obtain rfl : ad102 = ad104 := (by injection e104); replace p104 := eq_true p104; replace q104 := eq_true q104; have p105 : 0 ≤ ((ji4) : Int) := of_decide_eq_true (by first | (with_reducible assumption) | assumption); have q105 : (ji4) < (l0.length : Int) := of_decide_eq_true (by first | (with_reducible assumption) | assumption); obtain ⟨ad105, e105, hx105_0, hx105_1, hx105_2, hx105_3, hx105_4, hx105_5, hx105_6⟩ := f3z (Kd.b9z HO0.1).2.2 (ji4) p105 q105; obtain rfl : ad102 = ad105 := (by injection e105); replace p105 := eq_true p105; replace q105 := eq_true q105) | ((with_reducible refine f6z (b := .append) (xs := #[.tmp 59, .tmp 61]) rfl ?_); at_builtin; refine Kd.g5z k67 (w0 := w0) w0.heap.size rfl (.tmp 59) (.tmp 61) 34 67 (.agg #[(.int .i64 0), (.int .i64 0), (.int .i64 0), (.int .i64 0), (.int .i64 0), (.int .i64 0), (.int .i64 0)]) 56 rfl Try.underlying34 info67 rfl (by decide) (by omega) (.slice (some ad102) l0.length co19) l0 (⟨a1_0, a1_1, a1_2, a1_3, a1_4, a1_5, a1_6⟩ : S67) [.int .i64 a1_0, .int .i64 a1_1, .int .i64 a1_2, .int .i64 a1_3, .int .i64 a1_4, .int .i64 a1_5, .int .i64 a1_6] (fun k_ => (P0_ k_ ∨ w.heap.size ≤ k_) ∧ k_ ≠ gb101) (fun _ => False) rfl rfl ?aP (fun _ hk => hk.elim) ?aF ?aO ?aB ?aS ?aL ?_; (case aP => exact g2z _ _ _ (⟨a1_0, a1_1, a1_2, a1_3, a1_4, a1_5, a1_6⟩ : S67)); (case aB => exact (by repeat (first | (with_reducible first | exact HB.1 | apply a5z | apply a2z | apply a4z | refine a9z ?_ GE101.1) | exact HB.1))); (case aF => exact (fun k_ hk => ⟨(.inr (Nat.le_trans (by first | exact HK.1.1 | exact (show Kept w _ (fun k_ => P0_ k_) from by repeat (first | (with_reducible first | exact HK.1 | apply Kept.alloc | apply Kept.drewN | apply Kept.drew | refine Kept.setCell ?_ (.inr GW101.1) _) | exact HK.1)).1) hk)), Kd.freshB (g := gb101) (o := .cells #[.int .i64 a1_0, .int .i64 a1_1, .int .i64 a1_2, .int .i64 a1_3, .int .i64 a1_4, .int .i64 a1_5, .int .i64 a1_6] 67 (0, 0)) (by (with_reducible repeat (first | refine a7z ?_ _ | refine a8z ?_ | refine blk_alloc ?_ _)); exact BK101.1) k_ hk⟩)); (case aO => exact (by (with_reducible repeat (first | apply Kd.R_alloc | apply Kd.b1z | apply Kd.b3z)); exact HO0.1)); (case aS => exact (b5z (by repeat (first | (with_reducible first | exact HB.1 | apply a5z | apply a2z | apply a4z | refine a9z ?_ GE101.1) | exact HB.1)))); (case aL => have := LMc17.1; omega); intro v108 w21 ho hb hg hat; rw [← Ny107.1] at ho; have n0_ := a1z.mk (g0z (g := gb101) (o := .cells #[.int .i64 a1_0, .int .i64 a1_1, .int .i64 a1_2, .int .i64 a1_3, .int .i64 a1_4, .int .i64 a1_5, .int .i64 a1_6] 67 (0, 0)) (by (with_reducible repeat (first | refine a7z ?_ _ | refine a8z ?_ | refine blk_alloc ?_ _)); exact BK101.1) hg (Kd.c3z HO0.1 (fun _ hk => hk.2))); have n1_ := a1z.mk (hb); have n2_ := a1z.mk (Kept.of_grown (S := (fun k_ => P0_ k_)) hg (by repeat (first | (with_reducible first | exact HK.1 | apply Kept.alloc | apply Kept.drewN | apply Kept.drew | refine Kept.setCell ?_ (.inr GW101.1) _) | exact HK.1)) (fun k_ e_ => (HO0.1.1 k_ e_).1)); have n3_ := a1z.mk (ho); clear BK101; clear HB; clear HK; clear HO0; have BK101 := n0_; have HB := n1_; have HK := n2_; have HO109 := n3_; clear n0_ n1_ n2_ n3_; clear ho hb hg hat))
         repeat (go_quiet (first | ((with_reducible refine d1z (N := 3) rfl ?_); refine d3z ?hg (N := 3) ?hd (cs := #[.int .i64 a1_0, .int .i64 a1_1, .int .i64 a1_2, .int .i64 a1_3, .int .i64 a1_4, .int .i64 a1_5, .int .i64 a1_6]) (t := 67) ?hr ?_; (case hd => rfl); (case hg => rfl); (case hr => first | (go_simp; done) | (go_simp; rfl)); intro gb101 hg w18 hbox hb; have n0_ := a1z.mk (Kd.d7z (Kd.g3z (by (with_reducible repeat (first | apply Kd.R_alloc | apply Kd.b1z | apply Kd.b3z)); exact HO0.1) gb101 (Nat.le_of_eq hg.symm)) hb); have n1_ := a1z.mk (Kept.below (S := (fun k_ => P0_ k_)) (by repeat (first | (with_reducible first | exact HK.1 | apply Kept.alloc | apply Kept.drewN | apply Kept.drew) | exact HK.1)) hb); have n2_ := a1z.mk (b7z (by repeat (first | (with_reducible first | exact HB.1 | apply a5z | apply a2z | apply a4z) | exact HB.1)) hb); have n3_ := a1z.mk (hbox); have n4_ := a1z.mk ((by rw [hg]; exact (by first | exact HK.1.1 | exact (show Kept w _ (fun k_ => P0_ k_) from by repeat (first | (with_reducible first | exact HK.1 | apply Kept.alloc | apply Kept.drewN | apply Kept.drew) | exact HK.1)).1) : w.heap.size ≤ gb101)); have n5_ := a1z.mk ((by rw [hg]; exact (b5z (by repeat (first | (with_reducible first | exact HB.1 | apply a5z | apply a2z | apply a4z) | exact HB.1))) : w0.heap.size ≤ gb101)); clear HO0; clear HK; clear HB; have HO0 := n0_; have HK := n1_; have HB := n2_; have BK101 := n3_; have GW101 := n4_; have GE101 := n5_; clear n0_ n1_ n2_ n3_ n4_ n5_; clear hb hbox hg; obtain ⟨Ao19, co19, eo19⟩ := Kd.d6z HO0.1; subst eo19; have p102 : 0 ≤ ((ji4) : Int) := of_decide_eq_true (by first | (with_reducible assumption) | assumption); have q102 : (ji4) < (l0.length : Int) := of_decide_eq_true (by first | (with_reducible assumption) | assumption); obtain ⟨ad102, e102, hx102_0, hx102_1, hx102_2, hx102_3, hx102_4, hx102_5, hx102_6⟩ := f3z (Kd.b9z HO0.1).2.2 (ji4) p102 q102; cases e102; replace p102 := eq_true p102; replace q102 := eq_true q102; have hcz20_0 : w18.cell? ⟨gb101, 0, none⟩ = some (.int .i64 a1_0) := (a0z BK101.1 0).trans rfl; have hcz20_1 : w18.cell? ⟨gb101, 1, none⟩ = some (.int .i64 a1_1) := (a0z BK101.1 1).trans rfl; have hcz20_2 : w18.cell? ⟨gb101, 2, none⟩ = some (.int .i64 a1_2) := (a0z BK101.1 2).trans rfl; have hcz20_3 : w18.cell? ⟨gb101, 3, none⟩ = some (.int .i64 a1_3) := (a0z BK101.1 3).trans rfl; have hcz20_4 : w18.cell? ⟨gb101, 4, none⟩ = some (.int .i64 a1_4) := (a0z BK101.1 4).trans rfl; have hcz20_5 : w18.cell? ⟨gb101, 5, none⟩ = some (.int .i64 a1_5) := (a0z BK101.1 5).trans rfl; have hcz20_6 : w18.cell? ⟨gb101, 6, none⟩ = some (.int .i64 a1_6) := (a0z BK101.1 6).trans rfl; have hfz20_0 := a3z BK101.1 0; have hfz20_1 := a3z BK101.1 1; have hfz20_2 := a3z BK101.1 2; have hfz20_3 := a3z BK101.1 3; have hfz20_4 := a3z BK101.1 4; have hfz20_5 := a3z BK101.1 5; have hfz20_6 := a3z BK101.1 6; have p103 : 0 ≤ ((ji4) : Int) := of_decide_eq_true (by first | (with_reducible assumption) | assumption); have q103 : (ji4) < (l0.length : Int) := of_decide_eq_true (by first | (with_reducible assumption) | assumption); obtain ⟨ad103, e103, hx103_0, hx103_1, hx103_2, hx103_3, hx103_4, hx103_5, hx103_6⟩ := f3z (Kd.b9z HO0.1).2.2 (ji4) p103 q103; obtain rfl : ad102 = ad103 := (by injection e103); replace p103 := eq_true p103; replace q103 := eq_true q103; have p104 : 0 ≤ ((ji4) : Int) := of_decide_eq_true (by first | (with_reducible assumption) | assumption); have q104 : (ji4) < (l0.length : Int) := of_decide_eq_true (by first | (with_reducible assumption) | assumption); obtain ⟨ad104, e104, hx104_0, hx104_1, hx104_2, hx104_3, hx104_4, hx104_5, hx104_6⟩ := f3z (Kd.b9z HO0.1).2.2 (ji4) p104 q104; obtain rfl : ad102 = ad104 := (by injection e104); replace p104 := eq_true p104; replace q104 := eq_true q104; have p105 : 0 ≤ ((ji4) : Int) := of_decide_eq_true (by first | (with_reducible assumption) | assumption); have q105 : (ji4) < (l0.length : Int) := of_decide_eq_true (by first | (with_reducible assumption) | assumption); obtain ⟨ad105, e105, hx105_0, hx105_1, hx105_2, hx105_3, hx105_4, hx105_5, hx105_6⟩ := f3z (Kd.b9z HO0.1).2.2 (ji4) p105 q105; obtain rfl : ad102 = ad105 := (by injection e105); replace p105 := eq_true p105; replace q105 := eq_true q105) | ((with_reducible refine f6z (b := .append) (xs := #[.tmp 59, .tmp 61]) rfl ?_); at_builtin; refine Kd.g5z k67 (w0 := w0) w0.heap.size rfl (.tmp 59) (.tmp 61) 34 67 (.agg #[(.int .i64 0), (.int .i64 0), (.int .i64 0), (.int .i64 0), (.int .i64 0), (.int .i64 0), (.int .i64 0)]) 56 rfl Try.underlying34 info67 rfl (by decide) (by omega) (.slice (some ad102) l0.length co19) l0 (⟨a1_0, a1_1, a1_2, a1_3, a1_4, a1_5, a1_6⟩ : S67) [.int .i64 a1_0, .int .i64 a1_1, .int .i64 a1_2, .int .i64 a1_3, .int .i64 a1_4, .int .i64 a1_5, .int .i64 a1_6] (fun k_ => (P0_ k_ ∨ w.heap.size ≤ k_) ∧ k_ ≠ gb101) (fun _ => False) rfl rfl ?aP (fun _ hk => hk.elim) ?aF ?aO ?aB ?aS ?aL ?_; (case aP => exact g2z _ _ _ (⟨a1_0, a1_1, a1_2, a1_3, a1_4, a1_5, a1_6⟩ : S67)); (case aB => exact (by repeat (first | (with_reducible first | exact HB.1 | apply a5z | apply a2z | apply a4z | refine a9z ?_ GE101.1) | exact HB.1))); (case aF => exact (fun k_ hk => ⟨(.inr (Nat.le_trans (by first | exact HK.1.1 | exact (show Kept w _ (fun k_ => P0_ k_) from by repeat (first | (with_reducible first | exact HK.1 | apply Kept.alloc | apply Kept.drewN | apply Kept.drew | refine Kept.setCell ?_ (.inr GW101.1) _) | exact HK.1)).1) hk)), Kd.freshB (g := gb101) (o := .cells #[.int .i64 a1_0, .int .i64 a1_1, .int .i64 a1_2, .int .i64 a1_3, .int .i64 a1_4, .int .i64 a1_5, .int .i64 a1_6] 67 (0, 0)) (by (with_reducible repeat (first | refine a7z ?_ _ | refine a8z ?_ | refine blk_alloc ?_ _)); exact BK101.1) k_ hk⟩)); (case aO => exact (by (with_reducible repeat (first | apply Kd.R_alloc | apply Kd.b1z | apply Kd.b3z)); exact HO0.1)); (case aS => exact (b5z (by repeat (first | (with_reducible first | exact HB.1 | apply a5z | apply a2z | apply a4z | refine a9z ?_ GE101.1) | exact HB.1)))); (case aL => have := LMc17.1; omega); intro v108 w21 ho hb hg hat; rw [← Ny107.1] at ho; have n0_ := a1z.mk (g0z (g := gb101) (o := .cells #[.int .i64 a1_0, .int .i64 a1_1, .int .i64 a1_2, .int .i64 a1_3, .int .i64 a1_4, .int .i64 a1_5, .int .i64 a1_6] 67 (0, 0)) (by (with_reducible repeat (first | refine a7z ?_ _ | refine a8z ?_ | refine blk_alloc ?_ _)); exact BK101.1) hg (Kd.c3z HO0.1 (fun _ hk => hk.2))); have n1_ := a1z.mk (hb); have n2_ := a1z.mk (Kept.of_grown (S := (fun k_ => P0_ k_)) hg (by repeat (first | (with_reducible first | exact HK.1 | apply Kept.alloc | apply Kept.drewN | apply Kept.drew | refine Kept.setCell ?_ (.inr GW101.1) _) | exact HK.1)) (fun k_ e_ => (HO0.1.1 k_ e_).1)); have n3_ := a1z.mk (ho); clear BK101; clear HB; clear HK; clear HO0; have BK101 := n0_; have HB := n1_; have HK := n2_; have HO109 := n3_; clear n0_ n1_ n2_ n3_; clear ho hb hg hat)); try go_wp2_with (first | ((with_reducible refine d1z (N := 3) rfl ?_); refine d3z ?hg (N := 3) ?hd (cs := #[.int .i64 a1_0, .int .i64 a1_1, .int .i64 a1_2, .int .i64 a1_3, .int .i64 a1_4, .int .i64 a1_5, .int .i64 a1_6]) (t := 67) ?hr ?_; (case hd => rfl); (case hg => rfl); (case hr => first | (go_simp; done) | (go_simp; rfl)); intro gb101 hg w18 hbox hb; have n0_ := a1z.mk (Kd.d7z (Kd.g3z (by (with_reducible repeat (first | apply Kd.R_alloc | apply Kd.b1z | apply Kd.b3z)); exact HO0.1) gb101 (Nat.le_of_eq hg.symm)) hb); have n1_ := a1z.mk (Kept.below (S := (fun k_ => P0_ k_)) (by repeat (first | (with_reducible first | exact HK.1 | apply Kept.alloc | apply Kept.drewN | apply Kept.drew) | exact HK.1)) hb); have n2_ := a1z.mk (b7z (by repeat (first | (with_reducible first | exact HB.1 | apply a5z | apply a2z | apply a4z) | exact HB.1)) hb); have n3_ := a1z.mk (hbox); have n4_ := a1z.mk ((by rw [hg]; exact (by first | exact HK.1.1 | exact (show Kept w _ (fun k_ => P0_ k_) from by repeat (first | (with_reducible first | exact HK.1 | apply Kept.alloc | apply Kept.drewN | apply Kept.drew) | exact HK.1)).1) : w.heap.size ≤ gb101)); have n5_ := a1z.mk ((by rw [hg]; exact (b5z (by repeat (first | (with_reducible first | exact HB.1 | apply a5z | apply a2z | apply a4z) | exact HB.1))) : w0.heap.size ≤ gb101)); clear HO0; clear HK; clear HB; have HO0 := n0_; have HK := n1_; have HB := n2_; have BK101 := n3_; have GW101 := n4_; have GE101 := n5_; clear n0_ n1_ n2_ n3_ n4_ n5_; clear hb hbox hg; obtain ⟨Ao19, co19, eo19⟩ := Kd.d6z HO0.1; subst eo19; have p102 : 0 ≤ ((ji4) : Int) := of_decide_eq_true (by first | (with_reducible assumption) | assumption); have q102 : (ji4) < (l0.length : Int) := of_decide_eq_true (by first | (with_reducible assumption) | assumption); obtain ⟨ad102, e102, hx102_0, hx102_1, hx102_2, hx102_3, hx102_4, hx102_5, hx102_6⟩ := f3z (Kd.b9z HO0.1).2.2 (ji4) p102 q102; cases e102; replace p102 := eq_true p102; replace q102 := eq_true q102; have hcz20_0 : w18.cell? ⟨gb101, 0, none⟩ = some (.int .i64 a1_0) := (a0z BK101.1 0).trans rfl; have hcz20_1 : w18.cell? ⟨gb101, 1, none⟩ = some (.int .i64 a1_1) := (a0z BK101.1 1).trans rfl; have hcz20_2 : w18.cell? ⟨gb101, 2, none⟩ = some (.int .i64 a1_2) := (a0z BK101.1 2).trans rfl; have hcz20_3 : w18.cell? ⟨gb101, 3, none⟩ = some (.int .i64 a1_3) := (a0z BK101.1 3).trans rfl; have hcz20_4 : w18.cell? ⟨gb101, 4, none⟩ = some (.int .i64 a1_4) := (a0z BK101.1 4).trans rfl; have hcz20_5 : w18.cell? ⟨gb101, 5, none⟩ = some (.int .i64 a1_5) := (a0z BK101.1 5).trans rfl; have hcz20_6 : w18.cell? ⟨gb101, 6, none⟩ = some (.int .i64 a1_6) := (a0z BK101.1 6).trans rfl; have hfz20_0 := a3z BK101.1 0; have hfz20_1 := a3z BK101.1 1; have hfz20_2 := a3z BK101.1 2; have hfz20_3 := a3z BK101.1 3; have hfz20_4 := a3z BK101.1 4; have hfz20_5 := a3z BK101.1 5; have hfz20_6 := a3z BK101.1 6; have p103 : 0 ≤ ((ji4) : Int) := of_decide_eq_true (by first | (with_reducible assumption) | assumption); have q103 : (ji4) < (l0.length : Int) := of_decide_eq_true (by first | (with_reducible assumption) | assumption); obtain ⟨ad103, e103, hx103_0, hx103_1, hx103_2, hx103_3, hx103_4, hx103_5, hx103_6⟩ := f3z (Kd.b9z HO0.1).2.2 (ji4) p103 q103; obtain rfl : ad102 = ad103 := (by injection e103); replace p103 := eq_true p103; replace q103 := eq_true q103; have p104 : 0 ≤ ((ji4) : Int) := of_decide_eq_true (by first | (with_reducible assumption) | assumption); have q104 : (ji4) < (l0.length : Int) := of_decide_eq_true (by first | (with_reducible assumption) | assumption); obtain ⟨ad104, e104, hx104_0, hx104_1, hx104_2, hx104_3, hx104_4, hx104_5, hx104_6⟩ := f3z (Kd.b9z HO0.1).2.2 (ji4) p104 q104; obtain rfl : ad102 = ad104 := (by injection e104); replace p104 := eq_true p104; replace q104 := eq_true q104; have p105 : 0 ≤ ((ji4) : Int) := of_decide_eq_true (by first | (with_reducible assumption) | assumption); have q105 : (ji4) < (l0.length : Int) := of_decide_eq_true (by first | (with_reducible assumption) | assumption); obtain ⟨ad105, e105, hx105_0, hx105_1, hx105_2, hx105_3, hx105_4, hx105_5, hx105_6⟩ := f3z (Kd.b9z HO0.1).2.2 (ji4) p105 q105; obtain rfl : ad102 = ad105 := (by injection e105); replace p105 := eq_true p105; replace q105 := eq_true q105) | ((with_reducible refine f6z (b := .append) (xs := #[.tmp 59, .tmp 61]) rfl ?_); at_builtin; refine Kd.g5z k67 (w0 := w0) w0.heap.size rfl (.tmp 59) (.tmp 61) 34 67 (.agg #[(.int .i64 0), (.int .i64 0), (.int .i64 0), (.int .i64 0), (.int .i64 0), (.int .i64 0), (.int .i64 0)]) 56 rfl Try.underlying34 info67 rfl (by decide) (by omega) (.slice (some ad102) l0.length co19) l0 (⟨a1_0, a1_1, a1_2, a1_3, a1_4, a1_5, a1_6⟩ : S67) [.int .i64 a1_0, .int .i64 a1_1, .int .i64 a1_2, .int .i64 a1_3, .int .i64 a1_4, .int .i64 a1_5, .int .i64 a1_6] (fun k_ => (P0_ k_ ∨ w.heap.size ≤ k_) ∧ k_ ≠ gb101) (fun _ => False) rfl rfl ?aP (fun _ hk => hk.elim) ?aF ?aO ?aB ?aS ?aL ?_; (case aP => exact g2z _ _ _ (⟨a1_0, a1_1, a1_2, a1_3, a1_4, a1_5, a1_6⟩ : S67)); (case aB => exact (by repeat (first | (with_reducible first | exact HB.1 | apply a5z | apply a2z | apply a4z | refine a9z ?_ GE101.1) | exact HB.1))); (case aF => exact (fun k_ hk => ⟨(.inr (Nat.le_trans (by first | exact HK.1.1 | exact (show Kept w _ (fun k_ => P0_ k_) from by repeat (first | (with_reducible first | exact HK.1 | apply Kept.alloc | apply Kept.drewN | apply Kept.drew | refine Kept.setCell ?_ (.inr GW101.1) _) | exact HK.1)).1) hk)), Kd.freshB (g := gb101) (o := .cells #[.int .i64 a1_0, .int .i64 a1_1, .int .i64 a1_2, .int .i64 a1_3, .int .i64 a1_4, .int .i64 a1_5, .int .i64 a1_6] 67 (0, 0)) (by (with_reducible repeat (first | refine a7z ?_ _ | refine a8z ?_ | refine blk_alloc ?_ _)); exact BK101.1) k_ hk⟩)); (case aO => exact (by (with_reducible repeat (first | apply Kd.R_alloc | apply Kd.b1z | apply Kd.b3z)); exact HO0.1)); (case aS => exact (b5z (by repeat (first | (with_reducible first | exact HB.1 | apply a5z | apply a2z | apply a4z | refine a9z ?_ GE101.1) | exact HB.1)))); (case aL => have := LMc17.1; omega); intro v108 w21 ho hb hg hat; rw [← Ny107.1] at ho; have n0_ := a1z.mk (g0z (g := gb101) (o := .cells #[.int .i64 a1_0, .int .i64 a1_1, .int .i64 a1_2, .int .i64 a1_3, .int .i64 a1_4, .int .i64 a1_5, .int .i64 a1_6] 67 (0, 0)) (by (with_reducible repeat (first | refine a7z ?_ _ | refine a8z ?_ | refine blk_alloc ?_ _)); exact BK101.1) hg (Kd.c3z HO0.1 (fun _ hk => hk.2))); have n1_ := a1z.mk (hb); have n2_ := a1z.mk (Kept.of_grown (S := (fun k_ => P0_ k_)) hg (by repeat (first | (with_reducible first | exact HK.1 | apply Kept.alloc | apply Kept.drewN | apply Kept.drew | refine Kept.setCell ?_ (.inr GW101.1) _) | exact HK.1)) (fun k_ e_ => (HO0.1.1 k_ e_).1)); have n3_ := a1z.mk (ho); clear BK101; clear HB; clear HK; clear HO0; have BK101 := n0_; have HB := n1_; have HK := n2_; have HO109 := n3_; clear n0_ n1_ n2_ n3_; clear ho hb hg hat)))
         go_ret
         exact ⟨_, by first | rfl | (simp [c2z, c1z] <;> rfl) | (simp only [← hji4]; first | rfl | (simp [c2z, c1z] <;> rfl)) | (simp [*, c2z, c1z] <;> rfl), by (with_reducible repeat (first | apply Kd.R_alloc | apply Kd.b1z | apply Kd.b3z)); exact Kd.c6z HO109.1 (fun _ hk => hk.1), by repeat (first | (with_reducible first | exact HB.1 | apply a5z | apply a2z | apply a4z | refine a9z ?_ GE101.1) | exact HB.1), by repeat (first | (with_reducible first | exact HK.1 | apply Kept.alloc | apply Kept.drewN | apply Kept.drew | refine Kept.setCell ?_ (.inr GW101.1) _) | exact HK.1)⟩
        ·rw [if_neg c17] at H
         exact absurd H (by simp)
      ·rw [if_neg c9] at H
       have c9b0 : (((b6z l0 (ji4)).f2) == a1_2) = false := beq_eq_false_iff_ne.mpr c9
       have c9b1 : (((b6z l0 (ji4)).f2) != a1_2) = true := bne_iff_ne.mpr c9
       by_cases c22 : l0.length < 2513169434916
       ·rw [if_pos c22] at H
        have LMc22 := a1z.mk c22
        clear c22
        obtain ⟨y110, hy110⟩ : ∃ y_ : List (S67), y_ = (l0 ++ [(⟨a1_0, a1_1, a1_2, a1_3, a1_4, a1_5, a1_6⟩ : S67)]) := ⟨_, rfl⟩
        replace H : (some y110) = some r := by first | (rw [hy110]; with_reducible exact H) | (have H2_ := (Option.bind_some _ _).symm.trans H; rw [hy110]; with_reducible exact H2_) | (have H2_ := (Option.bind_some _ _).symm.trans H; with_reducible exact H2_) | with_reducible exact H | (rw [hy110]; exact H) | exact H
        have Ny110 := a1z.mk hy110
        clear hy110
        obtain rfl := Option.some.inj H
        go_enter Try.func122, Try.ntmps122
        go_wp2_with (first | ((with_reducible refine d1z (N := 3) rfl ?_); refine d3z ?hg (N := 3) ?hd (cs := #[.int .i64 a1_0, .int .i64 a1_1, .int .i64 a1_2, .int .i64 a1_3, .int .i64 a1_4, .int .i64 a1_5, .int .i64 a1_6]) (t := 67) ?hr ?_; (case hd => rfl); (case hg => rfl); (case hr => first | (go_simp; done) | (go_simp; rfl)); intro gb101 hg w23 hbox hb; have n0_ := a1z.mk (Kd.d7z (Kd.g3z (by (with_reducible repeat (first | apply Kd.R_alloc | apply Kd.b1z | apply Kd.b3z)); exact HO0.1) gb101 (Nat.le_of_eq hg.symm)) hb); have n1_ := a1z.mk (Kept.below (S := (fun k_ => P0_ k_)) (by repeat (first | (with_reducible first | exact HK.1 | apply Kept.alloc | apply Kept.drewN | apply Kept.drew) | exact HK.1)) hb); have n2_ := a1z.mk (b7z (by repeat (first | (with_reducible first | exact HB.1 | apply a5z | apply a2z | apply a4z) | exact HB.1)) hb); have n3_ := a1z.mk (hbox); have n4_ := a1z.mk ((by rw [hg]; exact (by first | exact HK.1.1 | exact (show Kept w _ (fun k_ => P0_ k_) from by repeat (first | (with_reducible first | exact HK.1 | apply Kept.alloc | apply Kept.drewN | apply Kept.drew) | exact HK.1)).1) : w.heap.size ≤ gb101)); have n5_ := a1z.mk ((by rw [hg]; exact (b5z (by repeat (first | (with_reducible first | exact HB.1 | apply a5z | apply a2z | apply a4z) | exact HB.1))) : w0.heap.size ≤ gb101)); clear HO0; clear HK; clear HB; have HO0 := n0_; have HK := n1_; have HB := n2_; have BK101 := n3_; have GW101 := n4_; have GE101 := n5_; clear n0_ n1_ n2_ n3_ n4_ n5_; clear hb hbox hg; obtain ⟨Ao24, co24, eo24⟩ := Kd.d6z HO0.1; subst eo24; have p102 : 0 ≤ ((ji4) : Int) := of_decide_eq_true (by first | (with_reducible assumption) | assumption); have q102 : (ji4) < (l0.length : Int) := of_decide_eq_true (by first | (with_reducible assumption) | assumption); obtain ⟨ad102, e102, hx102_0, hx102_1, hx102_2, hx102_3, hx102_4, hx102_5, hx102_6⟩ := f3z (Kd.b9z HO0.1).2.2 (ji4) p102 q102; cases e102; replace p102 := eq_true p102; replace q102 := eq_true q102; have hcz25_0 : w23.cell? ⟨gb101, 0, none⟩ = some (.int .i64 a1_0) := (a0z BK101.1 0).trans rfl; have hcz25_1 : w23.cell? ⟨gb101, 1, none⟩ = some (.int .i64 a1_1) := (a0z BK101.1 1).trans rfl; have hcz25_2 : w23.cell? ⟨gb101, 2, none⟩ = some (.int .i64 a1_2) := (a0z BK101.1 2).trans rfl; have hcz25_3 : w23.cell? ⟨gb101, 3, none⟩ = some (.int .i64 a1_3) := (a0z BK101.1 3).trans rfl; have hcz25_4 : w23.cell? ⟨gb101, 4, none⟩ = some (.int .i64 a1_4) := (a0z BK101.1 4).trans rfl; have hcz25_5 : w23.cell? ⟨gb101, 5, none⟩ = some (.int .i64 a1_5) := (a0z BK101.1 5).trans rfl; have hcz25_6 : w23.cell? ⟨gb101, 6, none⟩ = some (.int .i64 a1_6) := (a0z BK101.1 6).trans rfl; have hfz25_0 := a3z BK101.1 0; have hfz25_1 := a3z BK101.1 1; have hfz25_2 := a3z BK101.1 2; have hfz25_3 := a3z BK101.1 3; have hfz25_4 := a3z BK101.1 4; have hfz25_5 := a3z BK101.1 5; have hfz25_6 := a3z BK101.1 6; have p103 : 0 ≤ ((ji4) : Int) := of_decide_eq_true (by first | (with_reducible assumption) | assumption); have q103 : (ji4) < (l0.length : Int) := of_decide_eq_true (by first | (with_reducible assumption) | assumption); obtain ⟨ad103, e103, hx103_0, hx103_1, hx103_2, hx103_3, hx103_4, hx103_5, hx103_6⟩ := f3z (Kd.b9z HO0.1).2.2 (ji4) p103 q103; obtain rfl : ad102 = ad103 := (by injection e103); replace p103 := eq_true p103; replace q103 := eq_true q103; have p104 : 0 ≤ ((ji4) : Int) := of_decide_eq_true (by first | (with_reducible assumption) | assumption); have q104 : (ji4) < (l0.length : Int) := of_decide_eq_true (by first | (with_reducible assumption) | assumption); obtain ⟨ad104, e104, hx104_0, hx104_1, hx104_2, hx104_3, hx104_4, hx104_5, hx104_6⟩ := f3z (Kd.b9z HO0.1).2.2 (ji4) p104 q104; obtain rfl : ad102 = ad104 := (by injection e104); replace p104 := eq_true p104; replace q104 := eq_true q104) | ((with_reducible refine f6z (b := .append) (xs := #[.tmp 59, .tmp 61]) rfl ?_); at_builtin; refine Kd.g5z k67 (w0 := w0) w0.heap.size rfl (.tmp 59) (.tmp 61) 34 67 (.agg #[(.int .i64 0), (.int .i64 0), (.int .i64 0), (.int .i64 0), (.int .i64 0), (.int .i64 0), (.int .i64 0)]) 56 rfl Try.underlying34 info67 rfl (by decide) (by omega) (.slice (some ad102) l0.length co24) l0 (⟨a1_0, a1_1, a1_2, a1_3, a1_4, a1_5, a1_6⟩ : S67) [.int .i64 a1_0, .int .i64 a1_1, .int .i64 a1_2, .int .i64 a1_3, .int .i64 a1_4, .int .i64 a1_5, .int .i64 a1_6] (fun k_ => (P0_ k_ ∨ w.heap.size ≤ k_) ∧ k_ ≠ gb101) (fun _ => False) rfl rfl ?aP (fun _ hk => hk.elim) ?aF ?aO ?aB ?aS ?aL ?_; (case aP => exact g2z _ _ _ (⟨a1_0, a1_1, a1_2, a1_3, a1_4, a1_5, a1_6⟩ : S67)); (case aB => exact (by repeat (first | (with_reducible first | exact HB.1 | apply a5z | apply a2z | apply a4z | refine a9z ?_ GE101.1) | exact HB.1))); (case aF => exact (fun k_ hk => ⟨(.inr (Nat.le_trans (by first | exact HK.1.1 | exact (show Kept w _ (fun k_ => P0_ k_) from by repeat (first | (with_reducible first | exact HK.1 | apply Kept.alloc | apply Kept.drewN | apply Kept.drew | refine Kept.setCell ?_ (.inr GW101.1) _) | exact HK.1)).1) hk)), Kd.freshB (g := gb101) (o := .cells #[.int .i64 a1_0, .int .i64 a1_1, .int .i64 a1_2, .int .i64 a1_3, .int .i64 a1_4, .int .i64 a1_5, .int .i64 a1_6] 67 (0, 0)) (by (with_reducible repeat (first | refine a7z ?_ _ | refine a8z ?_ | refine blk_alloc ?_ _)); exact BK101.1) k_ hk⟩)); (case aO => exact (by (with_reducible repeat (first | apply Kd.R_alloc | apply Kd.b1z | apply Kd.b3z)); exact HO0.1)); (case aS => exact (b5z (by repeat (first | (with_reducible first | exact HB.1 | apply a5z | apply a2z | apply a4z | refine a9z ?_ GE101.1) | exact HB.1)))); (case aL => have := LMc22.1; omega); intro v111 w26 ho hb hg hat; rw [← Ny110.1] at ho; have n0_ := a1z.mk (g0z (g := gb101) (o := .cells #[.int .i64 a1_0, .int .i64 a1_1, .int .i64 a1_2, .int .i64 a1_3, .int .i64 a1_4, .int .i64 a1_5, .int .i64 a1_6] 67 (0, 0)) (by (with_reducible repeat (first | refine a7z ?_ _ | refine a8z ?_ | refine blk_alloc ?_ _)); exact BK101.1) hg (Kd.c3z HO0.1 (fun _ hk => hk.2))); have n1_ := a1z.mk (hb); have n2_ := a1z.mk (Kept.of_grown (S := (fun k_ => P0_ k_)) hg (by repeat (first | (with_reducible first | exact HK.1 | apply Kept.alloc | apply Kept.drewN | apply Kept.drew | refine Kept.setCell ?_ (.inr GW101.1) _) | exact HK.1)) (fun k_ e_ => (HO0.1.1 k_ e_).1)); have n3_ := a1z.mk (ho); clear BK101; clear HB; clear HK; clear HO0; have BK101 := n0_; have HB := n1_; have HK := n2_; have HO112 := n3_; clear n0_ n1_ n2_ n3_; clear ho hb hg hat))
        repeat (go_quiet (first | ((with_reducible refine d1z (N := 3) rfl ?_); refine d3z ?hg (N := 3) ?hd (cs := #[.int .i64 a1_0, .int .i64 a1_1, .int .i64 a1_2, .int .i64 a1_3, .int .i64 a1_4, .int .i64 a1_5, .int .i64 a1_6]) (t := 67) ?hr ?_; (case hd => rfl); (case hg => rfl); (case hr => first | (go_simp; done) | (go_simp; rfl)); intro gb101 hg w23 hbox hb; have n0_ := a1z.mk (Kd.d7z (Kd.g3z (by (with_reducible repeat (first | apply Kd.R_alloc | apply Kd.b1z | apply Kd.b3z)); exact HO0.1) gb101 (Nat.le_of_eq hg.symm)) hb); have n1_ := a1z.mk (Kept.below (S := (fun k_ => P0_ k_)) (by repeat (first | (with_reducible first | exact HK.1 | apply Kept.alloc | apply Kept.drewN | apply Kept.drew) | exact HK.1)) hb); have n2_ := a1z.mk (b7z (by repeat (first | (with_reducible first | exact HB.1 | apply a5z | apply a2z | apply a4z) | exact HB.1)) hb); have n3_ := a1z.mk (hbox); have n4_ := a1z.mk ((by rw [hg]; exact (by first | exact HK.1.1 | exact (show Kept w _ (fun k_ => P0_ k_) from by repeat (first | (with_reducible first | exact HK.1 | apply Kept.alloc | apply Kept.drewN | apply Kept.drew) | exact HK.1)).1) : w.heap.size ≤ gb101)); have n5_ := a1z.mk ((by rw [hg]; exact (b5z (by repeat (first | (with_reducible first | exact HB.1 | apply a5z | apply a2z | apply a4z) | exact HB.1))) : w0.heap.size ≤ gb101)); clear HO0; clear HK; clear HB; have HO0 := n0_; have HK := n1_; have HB := n2_; have BK101 := n3_; have GW101 := n4_; have GE101 := n5_; clear n0_ n1_ n2_ n3_ n4_ n5_; clear hb hbox hg; obtain ⟨Ao24, co24, eo24⟩ := Kd.d6z HO0.1; subst eo24; have p102 : 0 ≤ ((ji4) : Int) := of_decide_eq_true (by first | (with_reducible assumption) | assumption); have q102 : (ji4) < (l0.length : Int) := of_decide_eq_true (by first | (with_reducible assumption) | assumption); obtain ⟨ad102, e102, hx102_0, hx102_1, hx102_2, hx102_3, hx102_4, hx102_5, hx102_6⟩ := f3z (Kd.b9z HO0.1).2.2 (ji4) p102 q102; cases e102; replace p102 := eq_true p102; replace q102 := eq_true q102; have hcz25_0 : w23.cell? ⟨gb101, 0, none⟩ = some (.int .i64 a1_0) := (a0z BK101.1 0).trans rfl; have hcz25_1 : w23.cell? ⟨gb101, 1, none⟩ = some (.int .i64 a1_1) := (a0z BK101.1 1).trans rfl; have hcz25_2 : w23.cell? ⟨gb101, 2, none⟩ = some (.int .i64 a1_2) := (a0z BK101.1 2).trans rfl; have hcz25_3 : w23.cell? ⟨gb101, 3, none⟩ = some (.int .i64 a1_3) := (a0z BK101.1 3).trans rfl; have hcz25_4 : w23.cell? ⟨gb101, 4, none⟩ = some (.int .i64 a1_4) := (a0z BK101.1 4).trans rfl; have hcz25_5 : w23.cell? ⟨gb101, 5, none⟩ = some (.int .i64 a1_5) := (a0z BK101.1 5).trans rfl; have hcz25_6 : w23.cell? ⟨gb101, 6, none⟩ = some (.int .i64 a1_6) := (a0z BK101.1 6).trans rfl; have hfz25_0 := a3z BK101.1 0; have hfz25_1 := a3z BK101.1 1; have hfz25_2 := a3z BK101.1 2; have hfz25_3 := a3z BK101.1 3; have hfz25_4 := a3z BK101.1 4; have hfz25_5 := a3z BK101.1 5; have hfz25_6 := a3z BK101.1 6; have p103 : 0 ≤ ((ji4) : Int) := of_decide_eq_true (by first | (with_reducible assumption) | assumption); have q103 : (ji4) < (l0.length : Int) := of_decide_eq_true (by first | (with_reducible assumption) | assumption); obtain ⟨ad103, e103, hx103_0, hx103_1, hx103_2, hx103_3, hx103_4, hx103_5, hx103_6⟩ := f3z (Kd.b9z HO0.1).2.2 (ji4) p103 q103; obtain rfl : ad102 = ad103 := (by injection e103); replace p103 := eq_true p103; replace q103 := eq_true q103; have p104 : 0 ≤ ((ji4) : Int) := of_decide_eq_true (by first | (with_reducible assumption) | assumption); have q104 : (ji4) < (l0.length : Int) := of_decide_eq_true (by first | (with_reducible assumption) | assumption); obtain ⟨ad104, e104, hx104_0, hx104_1, hx104_2, hx104_3, hx104_4, hx104_5, hx104_6⟩ := f3z (Kd.b9z HO0.1).2.2 (ji4) p104 q104; obtain rfl : ad102 = ad104 := (by injection e104); replace p104 := eq_true p104; replace q104 := eq_true q104) | ((with_reducible refine f6z (b := .append) (xs := #[.tmp 59, .tmp 61]) rfl ?_); at_builtin; refine Kd.g5z k67 (w0 := w0) w0.heap.size rfl (.tmp 59) (.tmp 61) 34 67 (.agg #[(.int .i64 0), (.int .i64 0), (.int .i64 0), (.int .i64 0), (.int .i64 0), (.int .i64 0), (.int .i64 0)]) 56 rfl Try.underlying34 info67 rfl (by decide) (by omega) (.slice (some ad102) l0.length co24) l0 (⟨a1_0, a1_1, a1_2, a1_3, a1_4, a1_5, a1_6⟩ : S67) [.int .i64 a1_0, .int .i64 a1_1, .int .i64 a1_2, .int .i64 a1_3, .int .i64 a1_4, .int .i64 a1_5, .int .i64 a1_6] (fun k_ => (P0_ k_ ∨ w.heap.size ≤ k_) ∧ k_ ≠ gb101) (fun _ => False) rfl rfl ?aP (fun _ hk => hk.elim) ?aF ?aO ?aB ?aS ?aL ?_; (case aP => exact g2z _ _ _ (⟨a1_0, a1_1, a1_2, a1_3, a1_4, a1_5, a1_6⟩ : S67)); (case aB => exact (by repeat (first | (with_reducible first | exact HB.1 | apply a5z | apply a2z | apply a4z | refine a9z ?_ GE101.1) | exact HB.1))); (case aF => exact (fun k_ hk => ⟨(.inr (Nat.le_trans (by first | exact HK.1.1 | exact (show Kept w _ (fun k_ => P0_ k_) from by repeat (first | (with_reducible first | exact HK.1 | apply Kept.alloc | apply Kept.drewN | apply Kept.drew | refine Kept.setCell ?_ (.inr GW101.1) _) | exact HK.1)).1) hk)), Kd.freshB (g := gb101) (o := .cells #[.int .i64 a1_0, .int .i64 a1_1, .int .i64 a1_2, .int .i64 a1_3, .int .i64 a1_4, .int .i64 a1_5, .int .i64 a1_6] 67 (0, 0)) (by (with_reducible repeat (first | refine a7z ?_ _ | refine a8z ?_ | refine blk_alloc ?_ _)); exact BK101.1) k_ hk⟩)); (case aO => exact (by (with_reducible repeat (first | apply Kd.R_alloc | apply Kd.b1z | apply Kd.b3z)); exact HO0.1)); (case aS => exact (b5z (by repeat (first | (with_reducible first | exact HB.1 | apply a5z | apply a2z | apply a4z | refine a9z ?_ GE101.1) | exact HB.1)))); (case aL => have := LMc22.1; omega); intro v111 w26 ho hb hg hat; rw [← Ny110.1] at ho; have n0_ := a1z.mk (g0z (g := gb101) (o := .cells #[.int .i64 a1_0, .int .i64 a1_1, .int .i64 a1_2, .int .i64 a1_3, .int .i64 a1_4, .int .i64 a1_5, .int .i64 a1_6] 67 (0, 0)) (by (with_reducible repeat (first | refine a7z ?_ _ | refine a8z ?_ | refine blk_alloc ?_ _)); exact BK101.1) hg (Kd.c3z HO0.1 (fun _ hk => hk.2))); have n1_ := a1z.mk (hb); have n2_ := a1z.mk (Kept.of_grown (S := (fun k_ => P0_ k_)) hg (by repeat (first | (with_reducible first | exact HK.1 | apply Kept.alloc | apply Kept.drewN | apply Kept.drew | refine Kept.setCell ?_ (.inr GW101.1) _) | exact HK.1)) (fun k_ e_ => (HO0.1.1 k_ e_).1)); have n3_ := a1z.mk (ho); clear BK101; clear HB; clear HK; clear HO0; have BK101 := n0_; have HB := n1_; have HK := n2_; have HO112 := n3_; clear n0_ n1_ n2_ n3_; clear ho hb hg hat)); try go_wp2_with (first | ((with_reducible refine d1z (N := 3) rfl ?_); refine d3z ?hg (N := 3) ?hd (cs := #[.int .i64 a1_0, .int .i64 a1_1, .int .i64 a1_2, .int .i64 a1_3, .int .i64 a1_4, .int .i64 a1_5, .int .i64 a1_6]) (t := 67) ?hr ?_; (case hd => rfl); (case hg => rfl); (case hr => first | (go_simp; done) | (go_simp; rfl)); intro gb101 hg w23 hbox hb; have n0_ := a1z.mk (Kd.d7z (Kd.g3z (by (with_reducible repeat (first | apply Kd.R_alloc | apply Kd.b1z | apply Kd.b3z)); exact HO0.1) gb101 (Nat.le_of_eq hg.symm)) hb); have n1_ := a1z.mk (Kept.below (S := (fun k_ => P0_ k_)) (by repeat (first | (with_reducible first | exact HK.1 | apply Kept.alloc | apply Kept.drewN | apply Kept.drew) | exact HK.1)) hb); have n2_ := a1z.mk (b7z (by repeat (first | (with_reducible first | exact HB.1 | apply a5z | apply a2z | apply a4z) | exact HB.1)) hb); have n3_ := a1z.mk (hbox); have n4_ := a1z.mk ((by rw [hg]; exact (by first | exact HK.1.1 | exact (show Kept w _ (fun k_ => P0_ k_) from by repeat (first | (with_reducible first | exact HK.1 | apply Kept.alloc | apply Kept.drewN | apply Kept.drew) | exact HK.1)).1) : w.heap.size ≤ gb101)); have n5_ := a1z.mk ((by rw [hg]; exact (b5z (by repeat (first | (with_reducible first | exact HB.1 | apply a5z | apply a2z | apply a4z) | exact HB.1))) : w0.heap.size ≤ gb101)); clear HO0; clear HK; clear HB; have HO0 := n0_; have HK := n1_; have HB := n2_; have BK101 := n3_; have GW101 := n4_; have GE101 := n5_; clear n0_ n1_ n2_ n3_ n4_ n5_; clear hb hbox hg; obtain ⟨Ao24, co24, eo24⟩ := Kd.d6z HO0.1; subst eo24; have p102 : 0 ≤ ((ji4) : Int) := of_decide_eq_true (by first | (with_reducible assumption) | assumption); have q102 : (ji4) < (l0.length : Int) := of_decide_eq_true (by first | (with_reducible assumption) | assumption); obtain ⟨ad102, e102, hx102_0, hx102_1, hx102_2, hx102_3, hx102_4, hx102_5, hx102_6⟩ := f3z (Kd.b9z HO0.1).2.2 (ji4) p102 q102; cases e102; replace p102 := eq_true p102; replace q102 := eq_true q102; have hcz25_0 : w23.cell? ⟨gb101, 0, none⟩ = some (.int .i64 a1_0) := (a0z BK101.1 0).trans rfl; have hcz25_1 : w23.cell? ⟨gb101, 1, none⟩ = some (.int .i64 a1_1) := (a0z BK101.1 1).trans rfl; have hcz25_2 : w23.cell? ⟨gb101, 2, none⟩ = some (.int .i64 a1_2) := (a0z BK101.1 2).trans rfl; have hcz25_3 : w23.cell? ⟨gb101, 3, none⟩ = some (.int .i64 a1_3) := (a0z BK101.1 3).trans rfl; have hcz25_4 : w23.cell? ⟨gb101, 4, none⟩ = some (.int .i64 a1_4) := (a0z BK101.1 4).trans rfl; have hcz25_5 : w23.cell? ⟨gb101, 5, none⟩ = some (.int .i64 a1_5) := (a0z BK101.1 5).trans rfl; have hcz25_6 : w23.cell? ⟨gb101, 6, none⟩ = some (.int .i64 a1_6) := (a0z BK101.1 6).trans rfl; have hfz25_0 := a3z BK101.1 0; have hfz25_1 := a3z BK101.1 1; have hfz25_2 := a3z BK101.1 2; have hfz25_3 := a3z BK101.1 3; have hfz25_4 := a3z BK101.1 4; have hfz25_5 := a3z BK101.1 5; have hfz25_6 := a3z BK101.1 6; have p103 : 0 ≤ ((ji4) : Int) := of_decide_eq_true (by first | (with_reducible assumption) | assumption); have q103 : (ji4) < (l0.length : Int) := of_decide_eq_true (by first | (with_reducible assumption) | assumption); obtain ⟨ad103, e103, hx103_0, hx103_1, hx103_2, hx103_3, hx103_4, hx103_5, hx103_6⟩ := f3z (Kd.b9z HO0.1).2.2 (ji4) p103 q103; obtain rfl : ad102 = ad103 := (by injection e103); replace p103 := eq_true p103; replace q103 := eq_true q103; have p104 : 0 ≤ ((ji4) : Int) := of_decide_eq_true (by first | (with_reducible assumption) | assumption); have q104 : (ji4) < (l0.length : Int) := of_decide_eq_true (by first | (with_reducible assumption) | assumption); obtain ⟨ad104, e104, hx104_0, hx104_1, hx104_2, hx104_3, hx104_4, hx104_5, hx104_6⟩ := f3z (Kd.b9z HO0.1).2.2 (ji4) p104 q104; obtain rfl : ad102 = ad104 := (by injection e104); replace p104 := eq_true p104; replace q104 := eq_true q104) | ((with_reducible refine f6z (b := .append) (xs := #[.tmp 59, .tmp 61]) rfl ?_); at_builtin; refine Kd.g5z k67 (w0 := w0) w0.heap.size rfl (.tmp 59) (.tmp 61) 34 67 (.agg #[(.int .i64 0), (.int .i64 0), (.int .i64 0), (.int .i64 0), (.int .i64 0), (.int .i64 0), (.int .i64 0)]) 56 rfl Try.underlying34 info67 rfl (by decide) (by omega) (.slice (some ad102) l0.length co24) l0 (⟨a1_0, a1_1, a1_2, a1_3, a1_4, a1_5, a1_6⟩ : S67) [.int .i64 a1_0, .int .i64 a1_1, .int .i64 a1_2, .int .i64 a1_3, .int .i64 a1_4, .int .i64 a1_5, .int .i64 a1_6] (fun k_ => (P0_ k_ ∨ w.heap.size ≤ k_) ∧ k_ ≠ gb101) (fun _ => False) rfl rfl ?aP (fun _ hk => hk.elim) ?aF ?aO ?aB ?aS ?aL ?_; (case aP => exact g2z _ _ _ (⟨a1_0, a1_1, a1_2, a1_3, a1_4, a1_5, a1_6⟩ : S67)); (case aB => exact (by repeat (first | (with_reducible first | exact HB.1 | apply a5z | apply a2z | apply a4z | refine a9z ?_ GE101.1) | exact HB.1))); (case aF => exact (fun k_ hk => ⟨(.inr (Nat.le_trans (by first | exact HK.1.1 | exact (show Kept w _ (fun k_ => P0_ k_) from by repeat (first | (with_reducible first | exact HK.1 | apply Kept.alloc | apply Kept.drewN | apply Kept.drew | refine Kept.setCell ?_ (.inr GW101.1) _) | exact HK.1)).1) hk)), Kd.freshB (g := gb101) (o := .cells #[.int .i64 a1_0, .int .i64 a1_1, .int .i64 a1_2, .int .i64 a1_3, .int .i64 a1_4, .int .i64 a1_5, .int .i64 a1_6] 67 (0, 0)) (by (with_reducible repeat (first | refine a7z ?_ _ | refine a8z ?_ | refine blk_alloc ?_ _)); exact BK101.1) k_ hk⟩)); (case aO => exact (by (with_reducible repeat (first | apply Kd.R_alloc | apply Kd.b1z | apply Kd.b3z)); exact HO0.1)); (case aS => exact (b5z (by repeat (first | (with_reducible first | exact HB.1 | apply a5z | apply a2z | apply a4z | refine a9z ?_ GE101.1) | exact HB.1)))); (case aL => have := LMc22.1; omega); intro v111 w26 ho hb hg hat; rw [← Ny110.1] at ho; have n0_ := a1z.mk (g0z (g := gb101) (o := .cells #[.int .i64 a1_0, .int .i64 a1_1, .int .i64 a1_2, .int .i64 a1_3, .int .i64 a1_4, .int .i64 a1_5, .int .i64 a1_6] 67 (0, 0)) (by (with_reducible repeat (first | refine a7z ?_ _ | refine a8z ?_ | refine blk_alloc ?_ _)); exact BK101.1) hg (Kd.c3z HO0.1 (fun _ hk => hk.2))); have n1_ := a1z.mk (hb); have n2_ := a1z.mk (Kept.of_grown (S := (fun k_ => P0_ k_)) hg (by repeat (first | (with_reducible first | exact HK.1 | apply Kept.alloc | apply Kept.drewN | apply Kept.drew | refine Kept.setCell ?_ (.inr GW101.1) _) | exact HK.1)) (fun k_ e_ => (HO0.1.1 k_ e_).1)); have n3_ := a1z.mk (ho); clear BK101; clear HB; clear HK; clear HO0; have BK101 := n0_; have HB := n1_; have HK := n2_; have HO112 := n3_; clear n0_ n1_ n2_ n3_; clear ho hb hg hat)))
        go_ret
        exact ⟨_, by first | rfl | (simp [c2z, c1z] <;> rfl) | (simp only [← hji4]; first | rfl | (simp [c2z, c1z] <;> rfl)) | (simp [*, c2z, c1z] <;> rfl), by (with_reducible repeat (first | apply Kd.R_alloc | apply Kd.b1z | apply Kd.b3z)); exact Kd.c6z HO112.1 (fun _ hk => hk.1), by repeat (first | (with_reducible first | exact HB.1 | apply a5z | apply a2z | apply a4z | refine a9z ?_ GE101.1) | exact HB.1), by repeat (first | (with_reducible first | exact HK.1 | apply Kept.alloc | apply Kept.drewN | apply Kept.drew | refine Kept.setCell ?_ (.inr GW101.1) _) | exact HK.1)⟩
       ·rw [if_neg c22] at H
        exact absurd H (by simp)
     ·rw [if_neg c8] at H
      have c8b0 : (((b6z l0 (ji4)).f0) == a1_0) = false := beq_eq_false_iff_ne.mpr c8
      have c8b1 : (((b6z l0 (ji4)).f0) != a1_0) = true := bne_iff_ne.mpr c8
      by_cases c27 : l0.length < 2513169434916
      ·rw [if_pos c27] at H
       have LMc27 := a1z.mk c27
       clear c27
       obtain ⟨y113, hy113⟩ : ∃ y_ : List (S67), y_ = (l0 ++ [(⟨a1_0, a1_1, a1_2, a1_3, a1_4, a1_5, a1_6⟩ : S67)]) := ⟨_, rfl⟩
       replace H : (some y113) = some r := by first | (rw [hy113]; with_reducible exact H) | (have H2_ := (Option.bind_some _ _).symm.trans H; rw [hy113]; with_reducible exact H2_) | (have H2_ := (Option.bind_some _ _).symm.trans H; with_reducible exact H2_) | with_reducible exact H | (rw [hy113]; exact H) | exact H
       have Ny113 := a1z.mk hy113
       clear hy113
       obtain rfl := Option.some.inj H
       go_enter Try.func122, Try.ntmps122
       go_wp2_with (first | ((with_reducible refine d1z (N := 3) rfl ?_); refine d3z ?hg (N := 3) ?hd (cs := #[.int .i64 a1_0, .int .i64 a1_1, .int .i64 a1_2, .int .i64 a1_3, .int .i64 a1_4, .int .i64 a1_5, .int .i64 a1_6]) (t := 67) ?hr ?_; (case hd => rfl); (case hg => rfl); (case hr => first | (go_simp; done) | (go_simp; rfl)); intro gb101 hg w28 hbox hb; have n0_ := a1z.mk (Kd.d7z (Kd.g3z (by (with_reducible repeat (first | apply Kd.R_alloc | apply Kd.b1z | apply Kd.b3z)); exact HO0.1) gb101 (Nat.le_of_eq hg.symm)) hb); have n1_ := a1z.mk (Kept.below (S := (fun k_ => P0_ k_)) (by repeat (first | (with_reducible first | exact HK.1 | apply Kept.alloc | apply Kept.drewN | apply Kept.drew) | exact HK.1)) hb); have n2_ := a1z.mk (b7z (by repeat (first | (with_reducible first | exact HB.1 | apply a5z | apply a2z | apply a4z) | exact HB.1)) hb); have n3_ := a1z.mk (hbox); have n4_ := a1z.mk ((by rw [hg]; exact (by first | exact HK.1.1 | exact (show Kept w _ (fun k_ => P0_ k_) from by repeat (first | (with_reducible first | exact HK.1 | apply Kept.alloc | apply Kept.drewN | apply Kept.drew) | exact HK.1)).1) : w.heap.size ≤ gb101)); have n5_ := a1z.mk ((by rw [hg]; exact (b5z (by repeat (first | (with_reducible first | exact HB.1 | apply a5z | apply a2z | apply a4z) | exact HB.1))) : w0.heap.size ≤ gb101)); clear HO0; clear HK; clear HB; have HO0 := n0_; have HK := n1_; have HB := n2_; have BK101 := n3_; have GW101 := n4_; have GE101 := n5_; clear n0_ n1_ n2_ n3_ n4_ n5_; clear hb hbox hg; obtain ⟨Ao29, co29, eo29⟩ := Kd.d6z HO0.1; subst eo29; have p102 : 0 ≤ ((ji4) : Int) := of_decide_eq_true (by first | (with_reducible assumption) | assumption); have q102 : (ji4) < (l0.length : Int) := of_decide_eq_true (by first | (with_reducible assumption) | assumption); obtain ⟨ad102, e102, hx102_0, hx102_1, hx102_2, hx102_3, hx102_4, hx102_5, hx102_6⟩ := f3z (Kd.b9z HO0.1).2.2 (ji4) p102 q102; cases e102; replace p102 := eq_true p102; replace q102 := eq_true q102; have hcz30_0 : w28.cell? ⟨gb101, 0, none⟩ = some (.int .i64 a1_0) := (a0z BK101.1 0).trans rfl; have hcz30_1 : w28.cell? ⟨gb101, 1, none⟩ = some (.int .i64 a1_1) := (a0z BK101.1 1).trans rfl; have hcz30_2 : w28.cell? ⟨gb101, 2, none⟩ = some (.int .i64 a1_2) := (a0z BK101.1 2).trans rfl; have hcz30_3 : w28.cell? ⟨gb101, 3, none⟩ = some (.int .i64 a1_3) := (a0z BK101.1 3).trans rfl; have hcz30_4 : w28.cell? ⟨gb101, 4, none⟩ = some (.int .i64 a1_4) := (a0z BK101.1 4).trans rfl; have hcz30_5 : w28.cell? ⟨gb101, 5, none⟩ = some (.int .i64 a1_5) := (a0z BK101.1 5).trans rfl; have hcz30_6 : w28.cell? ⟨gb101, 6, none⟩ = some (.int .i64 a1_6) := (a0z BK101.1 6).trans rfl; have hfz30_0 := a3z BK101.1 0; have hfz30_1 := a3z BK101.1 1; have hfz30_2 := a3z BK101.1 2; have hfz30_3 := a3z BK101.1 3; have hfz30_4 := a3z BK101.1 4; have hfz30_5 := a3z BK101.1 5; have hfz30_6 := a3z BK101.1 6; have p103 : 0 ≤ ((ji4) : Int) := of_decide_eq_true (by first | (with_reducible assumption) | assumption); have q103 : (ji4) < (l0.length : Int) := of_decide_eq_true (by first | (with_reducible assumption) | assumption); obtain ⟨ad103, e103, hx103_0, hx103_1, hx103_2, hx103_3, hx103_4, hx103_5, hx103_6⟩ := f3z (Kd.b9z HO0.1).2.2 (ji4) p103 q103; obtain rfl : ad102 = ad103 := (by injection e103); replace p103 := eq_true p103; replace q103 := eq_true q103) | ((with_reducible refine f6z (b := .append) (xs := #[.tmp 59, .tmp 61]) rfl ?_); at_builtin; refine Kd.g5z k67 (w0 := w0) w0.heap.size rfl (.tmp 59) (.tmp 61) 34 67 (.agg #[(.int .i64 0), (.int .i64 0), (.int .i64 0), (.int .i64 0), (.int .i64 0), (.int .i64 0), (.int .i64 0)]) 56 rfl Try.underlying34 info67 rfl (by decide) (by omega) (.slice (some ad102) l0.length co29) l0 (⟨a1_0, a1_1, a1_2, a1_3, a1_4, a1_5, a1_6⟩ : S67) [.int .i64 a1_0, .int .i64 a1_1, .int .i64 a1_2, .int .i64 a1_3, .int .i64 a1_4, .int .i64 a1_5, .int .i64 a1_6] (fun k_ => (P0_ k_ ∨ w.heap.size ≤ k_) ∧ k_ ≠ gb101) (fun _ => False) rfl rfl ?aP (fun _ hk => hk.elim) ?aF ?aO ?aB ?aS ?aL ?_; (case aP => exact g2z _ _ _ (⟨a1_0, a1_1, a1_2, a1_3, a1_4, a1_5, a1_6⟩ : S67)); (case aB => exact (by repeat (first | (with_reducible first | exact HB.1 | apply a5z | apply a2z | apply a4z | refine a9z ?_ GE101.1) | exact HB.1))); (case aF => exact (fun k_ hk => ⟨(.inr (Nat.le_trans (by first | exact HK.1.1 | exact (show Kept w _ (fun k_ => P0_ k_) from by repeat (first | (with_reducible first | exact HK.1 | apply Kept.alloc | apply Kept.drewN | apply Kept.drew | refine Kept.setCell ?_ (.inr GW101.1) _) | exact HK.1)).1) hk)), Kd.freshB (g := gb101) (o := .cells #[.int .i64 a1_0, .int .i64 a1_1, .int .i64 a1_2, .int .i64 a1_3, .int .i64 a1_4, .int .i64 a1_5, .int .i64 a1_6] 67 (0, 0)) (by (with_reducible repeat (first | refine a7z ?_ _ | refine a8z ?_ | refine blk_alloc ?_ _)); exact BK101.1) k_ hk⟩)); (case aO => exact (by (with_reducible repeat (first | apply Kd.R_alloc | apply Kd.b1z | apply Kd.b3z)); exact HO0.1)); (case aS => exact (b5z (by repeat (first | (with_reducible first | exact HB.1 | apply a5z | apply a2z | apply a4z | refine a9z ?_ GE101.1) | exact HB.1)))); (case aL => have := LMc27.1; omega); intro v114 w31 ho hb hg hat; rw [← Ny113.1] at ho; have n0_ := a1z.mk (g0z (g := gb101) (o := .cells #[.int .i64 a1_0, .int .i64 a1_1, .int .i64 a1_2, .int .i64 a1_3, .int .i64 a1_4, .int .i64 a1_5, .int .i64 a1_6] 67 (0, 0)) (by (with_reducible repeat (first | refine a7z ?_ _ | refine a8z ?_ | refine blk_alloc ?_ _)); exact BK101.1) hg (Kd.c3z HO0.1 (fun _ hk => hk.2))); have n1_ := a1z.mk (hb); have n2_ := a1z.mk (Kept.of_grown (S := (fun k_ => P0_ k_)) hg (by repeat (first | (with_reducible first | exact HK.1 | apply Kept.alloc | apply Kept.drewN | apply Kept.drew | refine Kept.setCell ?_ (.inr GW101.1) _) | exact HK.1)) (fun k_ e_ => (HO0.1.1 k_ e_).1)); have n3_ := a1z.mk (ho); clear BK101; clear HB; clear HK; clear HO0; have BK101 := n0_; have HB := n1_; have HK := n2_; have HO115 := n3_; clear n0_ n1_ n2_ n3_; clear ho hb hg hat))
       repeat (go_quiet (first | ((with_reducible refine d1z (N := 3) rfl ?_); refine d3z ?hg (N := 3) ?hd (cs := #[.int .i64 a1_0, .int .i64 a1_1, .int .i64 a1_2, .int .i64 a1_3, .int .i64 a1_4, .int .i64 a1_5, .int .i64 a1_6]) (t := 67) ?hr ?_; (case hd => rfl); (case hg => rfl); (case hr => first | (go_simp; done) | (go_simp; rfl)); intro gb101 hg w28 hbox hb; have n0_ := a1z.mk (Kd.d7z (Kd.g3z (by (with_reducible repeat (first | apply Kd.R_alloc | apply Kd.b1z | apply Kd.b3z)); exact HO0.1) gb101 (Nat.le_of_eq hg.symm)) hb); have n1_ := a1z.mk (Kept.below (S := (fun k_ => P0_ k_)) (by repeat (first | (with_reducible first | exact HK.1 | apply Kept.alloc | apply Kept.drewN | apply Kept.drew) | exact HK.1)) hb); have n2_ := a1z.mk (b7z (by repeat (first | (with_reducible first | exact HB.1 | apply a5z | apply a2z | apply a4z) | exact HB.1)) hb); have n3_ := a1z.mk (hbox); have n4_ := a1z.mk ((by rw [hg]; exact (by first | exact HK.1.1 | exact (show Kept w _ (fun k_ => P0_ k_) from by repeat (first | (with_reducible first | exact HK.1 | apply Kept.alloc | apply Kept.drewN | apply Kept.drew) | exact HK.1)).1) : w.heap.size ≤ gb101)); have n5_ := a1z.mk ((by rw [hg]; exact (b5z (by repeat (first | (with_reducible first | exact HB.1 | apply a5z | apply a2z | apply a4z) | exact HB.1))) : w0.heap.size ≤ gb101)); clear HO0; clear HK; clear HB; have HO0 := n0_; have HK := n1_; have HB := n2_; have BK101 := n3_; have GW101 := n4_; have GE101 := n5_; clear n0_ n1_ n2_ n3_ n4_ n5_; clear hb hbox hg; obtain ⟨Ao29, co29, eo29⟩ := Kd.d6z HO0.1; subst eo29; have p102 : 0 ≤ ((ji4) : Int) := of_decide_eq_true (by first | (with_reducible assumption) | assumption); have q102 : (ji4) < (l0.length : Int) := of_decide_eq_true (by first | (with_reducible assumption) | assumption); obtain ⟨ad102, e102, hx102_0, hx102_1, hx102_2, hx102_3, hx102_4, hx102_5, hx102_6⟩ := f3z (Kd.b9z HO0.1).2.2 (ji4) p102 q102; cases e102; replace p102 := eq_true p102; replace q102 := eq_true q102; have hcz30_0 : w28.cell? ⟨gb101, 0, none⟩ = some (.int .i64 a1_0) := (a0z BK101.1 0).trans rfl; have hcz30_1 : w28.cell? ⟨gb101, 1, none⟩ = some (.int .i64 a1_1) := (a0z BK101.1 1).trans rfl; have hcz30_2 : w28.cell? ⟨gb101, 2, none⟩ = some (.int .i64 a1_2) := (a0z BK101.1 2).trans rfl; have hcz30_3 : w28.cell? ⟨gb101, 3, none⟩ = some (.int .i64 a1_3) := (a0z BK101.1 3).trans rfl; have hcz30_4 : w28.cell? ⟨gb101, 4, none⟩ = some (.int .i64 a1_4) := (a0z BK101.1 4).trans rfl; have hcz30_5 : w28.cell? ⟨gb101, 5, none⟩ = some (.int .i64 a1_5) := (a0z BK101.1 5).trans rfl; have hcz30_6 : w28.cell? ⟨gb101, 6, none⟩ = some (.int .i64 a1_6) := (a0z BK101.1 6).trans rfl; have hfz30_0 := a3z BK101.1 0; have hfz30_1 := a3z BK101.1 1; have hfz30_2 := a3z BK101.1 2; have hfz30_3 := a3z BK101.1 3; have hfz30_4 := a3z BK101.1 4; have hfz30_5 := a3z BK101.1 5; have hfz30_6 := a3z BK101.1 6; have p103 : 0 ≤ ((ji4) : Int) := of_decide_eq_true (by first | (with_reducible assumption) | assumption); have q103 : (ji4) < (l0.length : Int) := of_decide_eq_true (by first | (with_reducible assumption) | assumption); obtain ⟨ad103, e103, hx103_0, hx103_1, hx103_2, hx103_3, hx103_4, hx103_5, hx103_6⟩ := f3z (Kd.b9z HO0.1).2.2 (ji4) p103 q103; obtain rfl : ad102 = ad103 := (by injection e103); replace p103 := eq_true p103; replace q103 := eq_true q103) | ((with_reducible refine f6z (b := .append) (xs := #[.tmp 59, .tmp 61]) rfl ?_); at_builtin; refine Kd.g5z k67 (w0 := w0) w0.heap.size rfl (.tmp 59) (.tmp 61) 34 67 (.agg #[(.int .i64 0), (.int .i64 0), (.int .i64 0), (.int .i64 0), (.int .i64 0), (.int .i64 0), (.int .i64 0)]) 56 rfl Try.underlying34 info67 rfl (by decide) (by omega) (.slice (some ad102) l0.length co29) l0 (⟨a1_0, a1_1, a1_2, a1_3, a1_4, a1_5, a1_6⟩ : S67) [.int .i64 a1_0, .int .i64 a1_1, .int .i64 a1_2, .int .i64 a1_3, .int .i64 a1_4, .int .i64 a1_5, .int .i64 a1_6] (fun k_ => (P0_ k_ ∨ w.heap.size ≤ k_) ∧ k_ ≠ gb101) (fun _ => False) rfl rfl ?aP (fun _ hk => hk.elim) ?aF ?aO ?aB ?aS ?aL ?_; (case aP => exact g2z _ _ _ (⟨a1_0, a1_1, a1_2, a1_3, a1_4, a1_5, a1_6⟩ : S67)); (case aB => exact (by repeat (first | (with_reducible first | exact HB.1 | apply a5z | apply a2z | apply a4z | refine a9z ?_ GE101.1) | exact HB.1))); (case aF => exact (fun k_ hk => ⟨(.inr (Nat.le_trans (by first | exact HK.1.1 | exact (show Kept w _ (fun k_ => P0_ k_) from by repeat (first | (with_reducible first | exact HK.1 | apply Kept.alloc | apply Kept.drewN | apply Kept.drew | refine Kept.setCell ?_ (.inr GW101.1) _) | exact HK.1)).1) hk)), Kd.freshB (g := gb101) (o := .cells #[.int .i64 a1_0, .int .i64 a1_1, .int .i64 a1_2, .int .i64 a1_3, .int .i64 a1_4, .int .i64 a1_5, .int .i64 a1_6] 67 (0, 0)) (by (with_reducible repeat (first | refine a7z ?_ _ | refine a8z ?_ | refine blk_alloc ?_ _)); exact BK101.1) k_ hk⟩)); (case aO => exact (by (with_reducible repeat (first | apply Kd.R_alloc | apply Kd.b1z | apply Kd.b3z)); exact HO0.1)); (case aS => exact (b5z (by repeat (first | (with_reducible first | exact HB.1 | apply a5z | apply a2z | apply a4z | refine a9z ?_ GE101.1) | exact HB.1)))); (case aL => have := LMc27.1; omega); intro v114 w31 ho hb hg hat; rw [← Ny113.1] at ho; have n0_ := a1z.mk (g0z (g := gb101) (o := .cells #[.int .i64 a1_0, .int .i64 a1_1, .int .i64 a1_2, .int .i64 a1_3, .int .i64 a1_4, .int .i64 a1_5, .int .i64 a1_6] 67 (0, 0)) (by (with_reducible repeat (first | refine a7z ?_ _ | refine a8z ?_ | refine blk_alloc ?_ _)); exact BK101.1) hg (Kd.c3z HO0.1 (fun _ hk => hk.2))); have n1_ := a1z.mk (hb); have n2_ := a1z.mk (Kept.of_grown (S := (fun k_ => P0_ k_)) hg (by repeat (first | (with_reducible first | exact HK.1 | apply Kept.alloc | apply Kept.drewN | apply Kept.drew | refine Kept.setCell ?_ (.inr GW101.1) _) | exact HK.1)) (fun k_ e_ => (HO0.1.1 k_ e_).1)); have n3_ := a1z.mk (ho); clear BK101; clear HB; clear HK; clear HO0; have BK101 := n0_; have HB := n1_; have HK := n2_; have HO115 := n3_; clear n0_ n1_ n2_ n3_; clear ho hb hg hat)); try go_wp2_with (first | ((with_reducible refine d1z (N := 3) rfl ?_); refine d3z ?hg (N := 3) ?hd (cs := #[.int .i64 a1_0, .int .i64 a1_1, .int .i64 a1_2, .int .i64 a1_3, .int .i64 a1_4, .int .i64 a1_5, .int .i64 a1_6]) (t := 67) ?hr ?_; (case hd => rfl); (case hg => rfl); (case hr => first | (go_simp; done) | (go_simp; rfl)); intro gb101 hg w28 hbox hb; have n0_ := a1z.mk (Kd.d7z (Kd.g3z (by (with_reducible repeat (first | apply Kd.R_alloc | apply Kd.b1z | apply Kd.b3z)); exact HO0.1) gb101 (Nat.le_of_eq hg.symm)) hb); have n1_ := a1z.mk (Kept.below (S := (fun k_ => P0_ k_)) (by repeat (first | (with_reducible first | exact HK.1 | apply Kept.alloc | apply Kept.drewN | apply Kept.drew) | exact HK.1)) hb); have n2_ := a1z.mk (b7z (by repeat (first | (with_reducible first | exact HB.1 | apply a5z | apply a2z | apply a4z) | exact HB.1)) hb); have n3_ := a1z.mk (hbox); have n4_ := a1z.mk ((by rw [hg]; exact (by first | exact HK.1.1 | exact (show Kept w _ (fun k_ => P0_ k_) from by repeat (first | (with_reducible first | exact HK.1 | apply Kept.alloc | apply Kept.drewN | apply Kept.drew) | exact HK.1)).1) : w.heap.size ≤ gb101)); have n5_ := a1z.mk ((by rw [hg]; exact (b5z (by repeat (first | (with_reducible first | exact HB.1 | apply a5z | apply a2z | apply a4z) | exact HB.1))) : w0.heap.size ≤ gb101)); clear HO0; clear HK; clear HB; have HO0 := n0_; have HK := n1_; have HB := n2_; have BK101 := n3_; have GW101 := n4_; have GE101 := n5_; clear n0_ n1_ n2_ n3_ n4_ n5_; clear hb hbox hg; obtain ⟨Ao29, co29, eo29⟩ := Kd.d6z HO0.1; subst eo29; have p102 : 0 ≤ ((ji4) : Int) := of_decide_eq_true (by first | (with_reducible assumption) | assumption); have q102 : (ji4) < (l0.length : Int) := of_decide_eq_true (by first | (with_reducible assumption) | assumption); obtain ⟨ad102, e102, hx102_0, hx102_1, hx102_2, hx102_3, hx102_4, hx102_5, hx102_6⟩ := f3z (Kd.b9z HO0.1).2.2 (ji4) p102 q102; cases e102; replace p102 := eq_true p102; replace q102 := eq_true q102; have hcz30_0 : w28.cell? ⟨gb101, 0, none⟩ = some (.int .i64 a1_0) := (a0z BK101.1 0).trans rfl; have hcz30_1 : w28.cell? ⟨gb101, 1, none⟩ = some (.int .i64 a1_1) := (a0z BK101.1 1).trans rfl; have hcz30_2 : w28.cell? ⟨gb101, 2, none⟩ = some (.int .i64 a1_2) := (a0z BK101.1 2).trans rfl; have hcz30_3 : w28.cell? ⟨gb101, 3, none⟩ = some (.int .i64 a1_3) := (a0z BK101.1 3).trans rfl; have hcz30_4 : w28.cell? ⟨gb101, 4, none⟩ = some (.int .i64 a1_4) := (a0z BK101.1 4).trans rfl; have hcz30_5 : w28.cell? ⟨gb101, 5, none⟩ = some (.int .i64 a1_5) := (a0z BK101.1 5).trans rfl; have hcz30_6 : w28.cell? ⟨gb101, 6, none⟩ = some (.int .i64 a1_6) := (a0z BK101.1 6).trans rfl; have hfz30_0 := a3z BK101.1 0; have hfz30_1 := a3z BK101.1 1; have hfz30_2 := a3z BK101.1 2; have hfz30_3 := a3z BK101.1 3; have hfz30_4 := a3z BK101.1 4; have hfz30_5 := a3z BK101.1 5; have hfz30_6 := a3z BK101.1 6; have p103 : 0 ≤ ((ji4) : Int) := of_decide_eq_true (by first | (with_reducible assumption) | assumption); have q103 : (ji4) < (l0.length : Int) := of_decide_eq_true (by first | (with_reducible assumption) | assumption); obtain ⟨ad103, e103, hx103_0, hx103_1, hx103_2, hx103_3, hx103_4, hx103_5, hx103_6⟩ := f3z (Kd.b9z HO0.1).2.2 (ji4) p103 q103; obtain rfl : ad102 = ad103 := (by injection e103); replace p103 := eq_true p103; replace q103 := eq_true q103) | ((with_reducible refine f6z (b := .append) (xs := #[.tmp 59, .tmp 61]) rfl ?_); at_builtin; refine Kd.g5z k67 (w0 := w0) w0.heap.size rfl (.tmp 59) (.tmp 61) 34 67 (.agg #[(.int .i64 0), (.int .i64 0), (.int .i64 0), (.int .i64 0), (.int .i64 0), (.int .i64 0), (.int .i64 0)]) 56 rfl Try.underlying34 info67 rfl (by decide) (by omega) (.slice (some ad102) l0.length co29) l0 (⟨a1_0, a1_1, a1_2, a1_3, a1_4, a1_5, a1_6⟩ : S67) [.int .i64 a1_0, .int .i64 a1_1, .int .i64 a1_2, .int .i64 a1_3, .int .i64 a1_4, .int .i64 a1_5, .int .i64 a1_6] (fun k_ => (P0_ k_ ∨ w.heap.size ≤ k_) ∧ k_ ≠ gb101) (fun _ => False) rfl rfl ?aP (fun _ hk => hk.elim) ?aF ?aO ?aB ?aS ?aL ?_; (case aP => exact g2z _ _ _ (⟨a1_0, a1_1, a1_2, a1_3, a1_4, a1_5, a1_6⟩ : S67)); (case aB => exact (by repeat (first | (with_reducible first | exact HB.1 | apply a5z | apply a2z | apply a4z | refine a9z ?_ GE101.1) | exact HB.1))); (case aF => exact (fun k_ hk => ⟨(.inr (Nat.le_trans (by first | exact HK.1.1 | exact (show Kept w _ (fun k_ => P0_ k_) from by repeat (first | (with_reducible first | exact HK.1 | apply Kept.alloc | apply Kept.drewN | apply Kept.drew | refine Kept.setCell ?_ (.inr GW101.1) _) | exact HK.1)).1) hk)), Kd.freshB (g := gb101) (o := .cells #[.int .i64 a1_0, .int .i64 a1_1, .int .i64 a1_2, .int .i64 a1_3, .int .i64 a1_4, .int .i64 a1_5, .int .i64 a1_6] 67 (0, 0)) (by (with_reducible repeat (first | refine a7z ?_ _ | refine a8z ?_ | refine blk_alloc ?_ _)); exact BK101.1) k_ hk⟩)); (case aO => exact (by (with_reducible repeat (first | apply Kd.R_alloc | apply Kd.b1z | apply Kd.b3z)); exact HO0.1)); (case aS => exact (b5z (by repeat (first | (with_reducible first | exact HB.1 | apply a5z | apply a2z | apply a4z | refine a9z ?_ GE101.1) | exact HB.1)))); (case aL => have := LMc27.1; omega); intro v114 w31 ho hb hg hat; rw [← Ny113.1] at ho; have n0_ := a1z.mk (g0z (g := gb101) (o := .cells #[.int .i64 a1_0, .int .i64 a1_1, .int .i64 a1_2, .int .i64 a1_3, .int .i64 a1_4, .int .i64 a1_5, .int .i64 a1_6] 67 (0, 0)) (by (with_reducible repeat (first | refine a7z ?_ _ | refine a8z ?_ | refine blk_alloc ?_ _)); exact BK101.1) hg (Kd.c3z HO0.1 (fun _ hk => hk.2))); have n1_ := a1z.mk (hb); have n2_ := a1z.mk (Kept.of_grown (S := (fun k_ => P0_ k_)) hg (by repeat (first | (with_reducible first | exact HK.1 | apply Kept.alloc | apply Kept.drewN | apply Kept.drew | refine Kept.setCell ?_ (.inr GW101.1) _) | exact HK.1)) (fun k_ e_ => (HO0.1.1 k_ e_).1)); have n3_ := a1z.mk (ho); clear BK101; clear HB; clear HK; clear HO0; have BK101 := n0_; have HB := n1_; have HK := n2_; have HO115 := n3_; clear n0_ n1_ n2_ n3_; clear ho hb hg hat)))
       go_ret
       exact ⟨_, by first | rfl | (simp [c2z, c1z] <;> rfl) | (simp only [← hji4]; first | rfl | (simp [c2z, c1z] <;> rfl)) | (simp [*, c2z, c1z] <;> rfl), by (with_reducible repeat (first | apply Kd.R_alloc | apply Kd.b1z | apply Kd.b3z)); exact Kd.c6z HO115.1 (fun _ hk => hk.1), by repeat (first | (with_reducible first | exact HB.1 | apply a5z | apply a2z | apply a4z | refine a9z ?_ GE101.1) | exact HB.1), by repeat (first | (with_reducible first | exact HK.1 | apply Kept.alloc | apply Kept.drewN | apply Kept.drew | refine Kept.setCell ?_ (.inr GW101.1) _) | exact HK.1)⟩
      ·rw [if_neg c27] at H
       exact absurd H (by simp)
    ·rw [if_neg c7] at H
     have c7b0 : (((b6z l0 (ji4)).f6) == a1_6) = false := beq_eq_false_iff_ne.mpr c7
     have c7b1 : (((b6z l0 (ji4)).f6) != a1_6) = true := bne_iff_ne.mpr c7
     by_cases c32 : l0.length < 2513169434916
     ·rw [if_pos c32] at H
      have LMc32 := a1z.mk c32
      clear c32
      obtain ⟨y116, hy116⟩ : ∃ y_ : List (S67), y_ = (l0 ++ [(⟨a1_0, a1_1, a1_2, a1_3, a1_4, a1_5, a1_6⟩ : S67)]) := ⟨_, rfl⟩
      replace H : (some y116) = some r := by first | (rw [hy116]; with_reducible exact H) | (have H2_ := (Option.bind_some _ _).symm.trans H; rw [hy116]; with_reducible exact H2_) | (have H2_ := (Option.bind_some _ _).symm.trans H; with_reducible exact H2_) | with_reducible exact H | (rw [hy116]; exact H) | exact H
      have Ny116 := a1z.mk hy116
      clear hy116
      obtain rfl := Option.some.inj H
      go_enter Try.func122, Try.ntmps122
      go_wp2_with (first | ((with_reducible refine d1z (N := 3) rfl ?_); refine d3z ?hg (N := 3) ?hd (cs := #[.int .i64 a1_0, .int .i64 a1_1, .int .i64 a1_2, .int .i64 a1_3, .int .i64 a1_4, .int .i64 a1_5, .int .i64 a1_6]) (t := 67) ?hr ?_; (case hd => rfl); (case hg => rfl); (case hr => first | (go_simp; done) | (go_simp; rfl)); intro gb101 hg w33 hbox hb; have n0_ := a1z.mk (Kd.d7z (Kd.g3z (by (with_reducible repeat (first | apply Kd.R_alloc | apply Kd.b1z | apply Kd.b3z)); exact HO0.1) gb101 (Nat.le_of_eq hg.symm)) hb); have n1_ := a1z.mk (Kept.below (S := (fun k_ => P0_ k_)) (by repeat (first | (with_reducible first | exact HK.1 | apply Kept.alloc | apply Kept.drewN | apply Kept.drew) | exact HK.1)) hb); have n2_ := a1z.mk (b7z (by repeat (first | (with_reducible first | exact HB.1 | apply a5z | apply a2z | apply a4z) | exact HB.1)) hb); have n3_ := a1z.mk (hbox); have n4_ := a1z.mk ((by rw [hg]; exact (by first | exact HK.1.1 | exact (show Kept w _ (fun k_ => P0_ k_) from by repeat (first | (with_reducible first | exact HK.1 | apply Kept.alloc | apply Kept.drewN | apply Kept.drew) | exact HK.1)).1) : w.heap.size ≤ gb101)); have n5_ := a1z.mk ((by rw [hg]; exact (b5z (by repeat (first | (with_reducible first | exact HB.1 | apply a5z | apply a2z | apply a4z) | exact HB.1))) : w0.heap.size ≤ gb101)); clear HO0; clear HK; clear HB; have HO0 := n0_; have HK := n1_; have HB := n2_; have BK101 := n3_; have GW101 := n4_; have GE101 := n5_; clear n0_ n1_ n2_ n3_ n4_ n5_; clear hb hbox hg; obtain ⟨Ao34, co34, eo34⟩ := Kd.d6z HO0.1; subst eo34; have p102 : 0 ≤ ((ji4) : Int) := of_decide_eq_true (by first | (with_reducible assumption) | assumption); have q102 : (ji4) < (l0.length : Int) := of_decide_eq_true (by first | (with_reducible assumption) | assumption); obtain ⟨ad102, e102, hx102_0, hx102_1, hx102_2, hx102_3, hx102_4, hx102_5, hx102_6⟩ := f3z (Kd.b9z HO0.1).2.2 (ji4) p102 q102; cases e102; replace p102 := eq_true p102; replace q102 := eq_true q102; have hcz35_0 : w33.cell? ⟨gb101, 0, none⟩ = some (.int .i64 a1_0) := (a0z BK101.1 0).trans rfl; have hcz35_1 : w33.cell? ⟨gb101, 1, none⟩ = some (.int .i64 a1_1) := (a0z BK101.1 1).trans rfl; have hcz35_2 : w33.cell? ⟨gb101, 2, none⟩ = some (.int .i64 a1_2) := (a0z BK101.1 2).trans rfl; have hcz35_3 : w33.cell? ⟨gb101, 3, none⟩ = some (.int .i64 a1_3) := (a0z BK101.1 3).trans rfl; have hcz35_4 : w33.cell? ⟨gb101, 4, none⟩ = some (.int .i64 a1_4) := (a0z BK101.1 4).trans rfl; have hcz35_5 : w33.cell? ⟨gb101, 5, none⟩ = some (.int .i64 a1_5) := (a0z BK101.1 5).trans rfl; have hcz35_6 : w33.cell? ⟨gb101, 6, none⟩ = some (.int .i64 a1_6) := (a0z BK101.1 6).trans rfl; have hfz35_0 := a3z BK101.1 0; have hfz35_1 := a3z BK101.1 1; have hfz35_2 := a3z BK101.1 2; have hfz35_3 := a3z BK101.1 3; have hfz35_4 := a3z BK101.1 4; have hfz35_5 := a3z BK101.1 5; have hfz35_6 := a3z BK101.1 6) | ((with_reducible refine f6z (b := .append) (xs := #[.tmp 59, .tmp 61]) rfl ?_); at_builtin; refine Kd.g5z k67 (w0 := w0) w0.heap.size rfl (.tmp 59) (.tmp 61) 34 67 (.agg #[(.int .i64 0), (.int .i64 0), (.int .i64 0), (.int .i64 0), (.int .i64 0), (.int .i64 0), (.int .i64 0)]) 56 rfl Try.underlying34 info67 rfl (by decide) (by omega) (.slice (some ad102) l0.length co34) l0 (⟨a1_0, a1_1, a1_2, a1_3, a1_4, a1_5, a1_6⟩ : S67) [.int .i64 a1_0, .int .i64 a1_1, .int .i64 a1_2, .int .i64 a1_3, .int .i64 a1_4, .int .i64 a1_5, .int .i64 a1_6] (fun k_ => (P0_ k_ ∨ w.heap.size ≤ k_) ∧ k_ ≠ gb101) (fun _ => False) rfl rfl ?aP (fun _ hk => hk.elim) ?aF ?aO ?aB ?aS ?aL ?_; (case aP => exact g2z _ _ _ (⟨a1_0, a1_1, a1_2, a1_3, a1_4, a1_5, a1_6⟩ : S67)); (case aB => exact (by repeat (first | (with_reducible first | exact HB.1 | apply a5z | apply a2z | apply a4z | refine a9z ?_ GE101.1) | exact HB.1))); (case aF => exact (fun k_ hk => ⟨(.inr (Nat.le_trans (by first | exact HK.1.1 | exact (show Kept w _ (fun k_ => P0_ k_) from by repeat (first | (with_reducible first | exact HK.1 | apply Kept.alloc | apply Kept.drewN | apply Kept.drew | refine Kept.setCell ?_ (.inr GW101.1) _) | exact HK.1)).1) hk)), Kd.freshB (g := gb101) (o := .cells #[.int .i64 a1_0, .int .i64 a1_1, .int .i64 a1_2, .int .i64 a1_3, .int .i64 a1_4, .int .i64 a1_5, .int .i64 a1_6] 67 (0, 0)) (by (with_reducible repeat (first | refine a7z ?_ _ | refine a8z ?_ | refine blk_alloc ?_ _)); exact BK101.1) k_ hk⟩)); (case aO => exact (by (with_reducible repeat (first | apply Kd.R_alloc | apply Kd.b1z | apply Kd.b3z)); exact HO0.1)); (case aS => exact (b5z (by repeat (first | (with_reducible first | exact HB.1 | apply a5z | apply a2z | apply a4z | refine a9z ?_ GE101.1) | exact HB.1)))); (case aL => have := LMc32.1; omega); intro v117 w36 ho hb hg hat; rw [← Ny116.1] at ho; have n0_ := a1z.mk (g0z (g := gb101) (o := .cells #[.int .i64 a1_0, .int .i64 a1_1, .int .i64 a1_2, .int .i64 a1_3, .int .i64 a1_4, .int .i64 a1_5, .int .i64 a1_6] 67 (0, 0)) (by (with_reducible repeat (first | refine a7z ?_ _ | refine a8z ?_ | refine blk_alloc ?_ _)); exact BK101.1) hg (Kd.c3z HO0.1 (fun _ hk => hk.2))); have n1_ := a1z.mk (hb); have n2_ := a1z.mk (Kept.of_grown (S := (fun k_ => P0_ k_)) hg (by repeat (first | (with_reducible first | exact HK.1 | apply Kept.alloc | apply Kept.drewN | apply Kept.drew | refine Kept.setCell ?_ (.inr GW101.1) _) | exact HK.1)) (fun k_ e_ => (HO0.1.1 k_ e_).1)); have n3_ := a1z.mk (ho); clear BK101; clear HB; clear HK; clear HO0; have BK101 := n0_; have HB := n1_; have HK := n2_; have HO118 := n3_; clear n0_ n1_ n2_ n3_; clear ho hb hg hat))
      repeat (go_quiet (first | ((with_reducible refine d1z (N := 3) rfl ?_); refine d3z ?hg (N := 3) ?hd (cs := #[.int .i64 a1_0, .int .i64 a1_1, .int .i64 a1_2, .int .i64 a1_3, .int .i64 a1_4, .int .i64 a1_5, .int .i64 a1_6]) (t := 67) ?hr ?_; (case hd => rfl); (case hg => rfl); (case hr => first | (go_simp; done) | (go_simp; rfl)); intro gb101 hg w33 hbox hb; have n0_ := a1z.mk (Kd.d7z (Kd.g3z (by (with_reducible repeat (first | apply Kd.R_alloc | apply Kd.b1z | apply Kd.b3z)); exact HO0.1) gb101 (Nat.le_of_eq hg.symm)) hb); have n1_ := a1z.mk (Kept.below (S := (fun k_ => P0_ k_)) (by repeat (first | (with_reducible first | exact HK.1 | apply Kept.alloc | apply Kept.drewN | apply Kept.drew) | exact HK.1)) hb); have n2_ := a1z.mk (b7z (by repeat (first | (with_reducible first | exact HB.1 | apply a5z | apply a2z | apply a4z) | exact HB.1)) hb); have n3_ := a1z.mk (hbox); have n4_ := a1z.mk ((by rw [hg]; exact (by first | exact HK.1.1 | exact (show Kept w _ (fun k_ => P0_ k_) from by repeat (first | (with_reducible first | exact HK.1 | apply Kept.alloc | apply Kept.drewN | apply Kept.drew) | exact HK.1)).1) : w.heap.size ≤ gb101)); have n5_ := a1z.mk ((by rw [hg]; exact (b5z (by repeat (first | (with_reducible first | exact HB.1 | apply a5z | apply a2z | apply a4z) | exact HB.1))) : w0.heap.size ≤ gb101)); clear HO0; clear HK; clear HB; have HO0 := n0_; have HK := n1_; have HB := n2_; have BK101 := n3_; have GW101 := n4_; have GE101 := n5_; clear n0_ n1_ n2_ n3_ n4_ n5_; clear hb hbox hg; obtain ⟨Ao34, co34, eo34⟩ := Kd.d6z HO0.1; subst eo34; have p102 : 0 ≤ ((ji4) : Int) := of_decide_eq_true (by first | (with_reducible assumption) | assumption); have q102 : (ji4) < (l0.length : Int) := of_decide_eq_true (by first | (with_reducible assumption) | assumption); obtain ⟨ad102, e102, hx102_0, hx102_1, hx102_2, hx102_3, hx102_4, hx102_5, hx102_6⟩ := f3z (Kd.b9z HO0.1).2.2 (ji4) p102 q102; cases e102; replace p102 := eq_true p102; replace q102 := eq_true q102; have hcz35_0 : w33.cell? ⟨gb101, 0, none⟩ = some (.int .i64 a1_0) := (a0z BK101.1 0).trans rfl; have hcz35_1 : w33.cell? ⟨gb101, 1, none⟩ = some (.int .i64 a1_1) := (a0z BK101.1 1).trans rfl; have hcz35_2 : w33.cell? ⟨gb101, 2, none⟩ = some (.int .i64 a1_2) := (a0z BK101.1 2).trans rfl; have hcz35_3 : w33.cell? ⟨gb101, 3, none⟩ = some (.int .i64 a1_3) := (a0z BK101.1 3).trans rfl; have hcz35_4 : w33.cell? ⟨gb101, 4, none⟩ = some (.int .i64 a1_4) := (a0z BK101.1 4).trans rfl; have hcz35_5 : w33.cell? ⟨gb101, 5, none⟩ = some (.int .i64 a1_5) := (a0z BK101.1 5).trans rfl; have hcz35_6 : w33.cell? ⟨gb101, 6, none⟩ = some (.int .i64 a1_6) := (a0z BK101.1 6).trans rfl; have hfz35_0 := a3z BK101.1 0; have hfz35_1 := a3z BK101.1 1; have hfz35_2 := a3z BK101.1 2; have hfz35_3 := a3z BK101.1 3; have hfz35_4 := a3z BK101.1 4; have hfz35_5 := a3z BK101.1 5; have hfz35_6 := a3z BK101.1 6) | ((with_reducible refine f6z (b := .append) (xs := #[.tmp 59, .tmp 61]) rfl ?_); at_builtin; refine Kd.g5z k67 (w0 := w0) w0.heap.size rfl (.tmp 59) (.tmp 61) 34 67 (.agg #[(.int .i64 0), (.int .i64 0), (.int .i64 0), (.int .i64 0), (.int .i64 0), (.int .i64 0), (.int .i64 0)]) 56 rfl Try.underlying34 info67 rfl (by decide) (by omega) (.slice (some ad102) l0.length co34) l0 (⟨a1_0, a1_1, a1_2, a1_3, a1_4, a1_5, a1_6⟩ : S67) [.int .i64 a1_0, .int .i64 a1_1, .int .i64 a1_2, .int .i64 a1_3, .int .i64 a1_4, .int .i64 a1_5, .int .i64 a1_6] (fun k_ => (P0_ k_ ∨ w.heap.size ≤ k_) ∧ k_ ≠ gb101) (fun _ => False) rfl rfl ?aP (fun _ hk => hk.elim) ?aF ?aO ?aB ?aS ?aL ?_; (case aP => exact g2z _ _ _ (⟨a1_0, a1_1, a1_2, a1_3, a1_4, a1_5, a1_6⟩ : S67)); (case aB => exact (by repeat (first | (with_reducible first | exact HB.1 | apply a5z | apply a2z | apply a4z | refine a9z ?_ GE101.1) | exact HB.1))); (case aF => exact (fun k_ hk => ⟨(.inr (Nat.le_trans (by first | exact HK.1.1 | exact (show Kept w _ (fun k_ => P0_ k_) from by repeat (first | (with_reducible first | exact HK.1 | apply Kept.alloc | apply Kept.drewN | apply Kept.drew | refine Kept.setCell ?_ (.inr GW101.1) _) | exact HK.1)).1) hk)), Kd.freshB (g := gb101) (o := .cells #[.int .i64 a1_0, .int .i64 a1_1, .int .i64 a1_2, .int .i64 a1_3, .int .i64 a1_4, .int .i64 a1_5, .int .i64 a1_6] 67 (0, 0)) (by (with_reducible repeat (first | refine a7z ?_ _ | refine a8z ?_ | refine blk_alloc ?_ _)); exact BK101.1) k_ hk⟩)); (case aO => exact (by (with_reducible repeat (first | apply Kd.R_alloc | apply Kd.b1z | apply Kd.b3z)); exact HO0.1)); (case aS => exact (b5z (by repeat (first | (with_reducible first | exact HB.1 | apply a5z | apply a2z | apply a4z | refine a9z ?_ GE101.1) | exact HB.1)))); (case aL => have := LMc32.1; omega); intro v117 w36 ho hb hg hat; rw [← Ny116.1] at ho; have n0_ := a1z.mk (g0z (g := gb101) (o := .cells #[.int .i64 a1_0, .int .i64 a1_1, .int .i64 a1_2, .int .i64 a1_3, .int .i64 a1_4, .int .i64 a1_5, .int .i64 a1_6] 67 (0, 0)) (by (with_reducible repeat (first | refine a7z ?_ _ | refine a8z ?_ | refine blk_alloc ?_ _)); exact BK101.1) hg (Kd.c3z HO0.1 (fun _ hk => hk.2))); have n1_ := a1z.mk (hb); have n2_ := a1z.mk (Kept.of_grown (S := (fun k_ => P0_ k_)) hg (by repeat (first | (with_reducible first | exact HK.1 | apply Kept.alloc | apply Kept.drewN | apply Kept.drew | refine Kept.setCell ?_ (.inr GW101.1) _) | exact HK.1)) (fun k_ e_ => (HO0.1.1 k_ e_).1)); have n3_ := a1z.mk (ho); clear BK101; clear HB; clear HK; clear HO0; have BK101 := n0_; have HB := n1_; have HK := n2_; have HO118 := n3_; clear n0_ n1_ n2_ n3_; clear ho hb hg hat)); try go_wp2_with (first | ((with_reducible refine d1z (N := 3) rfl ?_); refine d3z ?hg (N := 3) ?hd (cs := #[.int .i64 a1_0, .int .i64 a1_1, .int .i64 a1_2, .int .i64 a1_3, .int .i64 a1_4, .int .i64 a1_5, .int .i64 a1_6]) (t := 67) ?hr ?_; (case hd => rfl); (case hg => rfl); (case hr => first | (go_simp; done) | (go_simp; rfl)); intro gb101 hg w33 hbox hb; have n0_ := a1z.mk (Kd.d7z (Kd.g3z (by (with_reducible repeat (first | apply Kd.R_alloc | apply Kd.b1z | apply Kd.b3z)); exact HO0.1) gb101 (Nat.le_of_eq hg.symm)) hb); have n1_ := a1z.mk (Kept.below (S := (fun k_ => P0_ k_)) (by repeat (first | (with_reducible first | exact HK.1 | apply Kept.alloc | apply Kept.drewN | apply Kept.drew) | exact HK.1)) hb); have n2_ := a1z.mk (b7z (by repeat (first | (with_reducible first | exact HB.1 | apply a5z | apply a2z | apply a4z) | exact HB.1)) hb); have n3_ := a1z.mk (hbox); have n4_ := a1z.mk ((by rw [hg]; exact (by first | exact HK.1.1 | exact (show Kept w _ (fun k_ => P0_ k_) from by repeat (first | (with_reducible first | exact HK.1 | apply Kept.alloc | apply Kept.drewN | apply Kept.drew) | exact HK.1)).1) : w.heap.size ≤ gb101)); have n5_ := a1z.mk ((by rw [hg]; exact (b5z (by repeat (first | (with_reducible first | exact HB.1 | apply a5z | apply a2z | apply a4z) | exact HB.1))) : w0.heap.size ≤ gb101)); clear HO0; clear HK; clear HB; have HO0 := n0_; have HK := n1_; have HB := n2_; have BK101 := n3_; have GW101 := n4_; have GE101 := n5_; clear n0_ n1_ n2_ n3_ n4_ n5_; clear hb hbox hg; obtain ⟨Ao34, co34, eo34⟩ := Kd.d6z HO0.1; subst eo34; have p102 : 0 ≤ ((ji4) : Int) := of_decide_eq_true (by first | (with_reducible assumption) | assumption); have q102 : (ji4) < (l0.length : Int) := of_decide_eq_true (by first | (with_reducible assumption) | assumption); obtain ⟨ad102, e102, hx102_0, hx102_1, hx102_2, hx102_3, hx102_4, hx102_5, hx102_6⟩ := f3z (Kd.b9z HO0.1).2.2 (ji4) p102 q102; cases e102; replace p102 := eq_true p102; replace q102 := eq_true q102; have hcz35_0 : w33.cell? ⟨gb101, 0, none⟩ = some (.int .i64 a1_0) := (a0z BK101.1 0).trans rfl; have hcz35_1 : w33.cell? ⟨gb101, 1, none⟩ = some (.int .i64 a1_1) := (a0z BK101.1 1).trans rfl; have hcz35_2 : w33.cell? ⟨gb101, 2, none⟩ = some (.int .i64 a1_2) := (a0z BK101.1 2).trans rfl; have hcz35_3 : w33.cell? ⟨gb101, 3, none⟩ = some (.int .i64 a1_3) := (a0z BK101.1 3).trans rfl; have hcz35_4 : w33.cell? ⟨gb101, 4, none⟩ = some (.int .i64 a1_4) := (a0z BK101.1 4).trans rfl; have hcz35_5 : w33.cell? ⟨gb101, 5, none⟩ = some (.int .i64 a1_5) := (a0z BK101.1 5).trans rfl; have hcz35_6 : w33.cell? ⟨gb101, 6, none⟩ = some (.int .i64 a1_6) := (a0z BK101.1 6).trans rfl; have hfz35_0 := a3z BK101.1 0; have hfz35_1 := a3z BK101.1 1; have hfz35_2 := a3z BK101.1 2; have hfz35_3 := a3z BK101.1 3; have hfz35_4 := a3z BK101.1 4; have hfz35_5 := a3z BK101.1 5; have hfz35_6 := a3z BK101.1 6) | ((with_reducible refine f6z (b := .append) (xs := #[.tmp 59, .tmp 61]) rfl ?_); at_builtin; refine Kd.g5z k67 (w0 := w0) w0.heap.size rfl (.tmp 59) (.tmp 61) 34 67 (.agg #[(.int .i64 0), (.int .i64 0), (.int .i64 0), (.int .i64 0), (.int .i64 0), (.int .i64 0), (.int .i64 0)]) 56 rfl Try.underlying34 info67 rfl (by decide) (by omega) (.slice (some ad102) l0.length co34) l0 (⟨a1_0, a1_1, a1_2, a1_3, a1_4, a1_5, a1_6⟩ : S67) [.int .i64 a1_0, .int .i64 a1_1, .int .i64 a1_2, .int .i64 a1_3, .int .i64 a1_4, .int .i64 a1_5, .int .i64 a1_6] (fun k_ => (P0_ k_ ∨ w.heap.size ≤ k_) ∧ k_ ≠ gb101) (fun _ => False) rfl rfl ?aP (fun _ hk => hk.elim) ?aF ?aO ?aB ?aS ?aL ?_; (case aP => exact g2z _ _ _ (⟨a1_0, a1_1, a1_2, a1_3, a1_4, a1_5, a1_6⟩ : S67)); (case aB => exact (by repeat (first | (with_reducible first | exact HB.1 | apply a5z | apply a2z | apply a4z | refine a9z ?_ GE101.1) | exact HB.1))); (case aF => exact (fun k_ hk => ⟨(.inr (Nat.le_trans (by first | exact HK.1.1 | exact (show Kept w _ (fun k_ => P0_ k_) from by repeat (first | (with_reducible first | exact HK.1 | apply Kept.alloc | apply Kept.drewN | apply Kept.drew | refine Kept.setCell ?_ (.inr GW101.1) _) | exact HK.1)).1) hk)), Kd.freshB (g := gb101) (o := .cells #[.int .i64 a1_0, .int .i64 a1_1, .int .i64 a1_2, .int .i64 a1_3, .int .i64 a1_4, .int .i64 a1_5, .int .i64 a1_6] 67 (0, 0)) (by (with_reducible repeat (first | refine a7z ?_ _ | refine a8z ?_ | refine blk_alloc ?_ _)); exact BK101.1) k_ hk⟩)); (case aO => exact (by (with_reducible repeat (first | apply Kd.R_alloc | apply Kd.b1z | apply Kd.b3z)); exact HO0.1)); (case aS => exact (b5z (by repeat (first | (with_reducible first | exact HB.1 | apply a5z | apply a2z | apply a4z | refine a9z ?_ GE101.1) | exact HB.1)))); (case aL => have := LMc32.1; omega); intro v117 w36 ho hb hg hat; rw [← Ny116.1] at ho; have n0_ := a1z.mk (g0z (g := gb101) (o := .cells #[.int .i64 a1_0, .int .i64 a1_1, .int .i64 a1_2, .int .i64 a1_3, .int .i64 a1_4, .int .i64 a1_5, .int .i64 a1_6] 67 (0, 0)) (by (with_reducible repeat (first | refine a7z ?_ _ | refine a8z ?_ | refine blk_alloc ?_ _)); exact BK101.1) hg (Kd.c3z HO0.1 (fun _ hk => hk.2))); have n1_ := a1z.mk (hb); have n2_ := a1z.mk (Kept.of_grown (S := (fun k_ => P0_ k_)) hg (by repeat (first | (with_reducible first | exact HK.1 | apply Kept.alloc | apply Kept.drewN | apply Kept.drew | refine Kept.setCell ?_ (.inr GW101.1) _) | exact HK.1)) (fun k_ e_ => (HO0.1.1 k_ e_).1)); have n3_ := a1z.mk (ho); clear BK101; clear HB; clear HK; clear HO0; have BK101 := n0_; have HB := n1_; have HK := n2_; have HO118 := n3_; clear n0_ n1_ n2_ n3_; clear ho hb hg hat)))
      go_ret
      exact ⟨_, by first | rfl | (simp [c2z, c1z] <;> rfl) | (simp only [← hji4]; first | rfl | (simp [c2z, c1z] <;> rfl)) | (simp [*, c2z, c1z] <;> rfl), by (with_reducible repeat (first | apply Kd.R_alloc | apply Kd.b1z | apply Kd.b3z)); exact Kd.c6z HO118.1 (fun _ hk => hk.1), by repeat (first | (with_reducible first | exact HB.1 | apply a5z | apply a2z | apply a4z | refine a9z ?_ GE101.1) | exact HB.1), by repeat (first | (with_reducible first | exact HK.1 | apply Kept.alloc | apply Kept.drewN | apply Kept.drew | refine Kept.setCell ?_ (.inr GW101.1) _) | exact HK.1)⟩
     ·rw [if_neg c32] at H
      exact absurd H (by simp)
   ·rw [if_neg c6] at H
    exact absurd H (by simp)
  ·rw [if_neg c5] at H
   exact absurd H (by simp)
 ·rw [if_neg c3] at H
  have c3b0 : decide (0 ≤ (wrap64 ((l0.length : Int) - 1))) = false := decide_eq_false c3
  clear c3
  by_cases c37 : l0.length < 2513169434916
  ·rw [if_pos c37] at H
   have LMc37 := a1z.mk c37
   clear c37
   obtain ⟨y119, hy119⟩ : ∃ y_ : List (S67), y_ = (l0 ++ [(⟨a1_0, a1_1, a1_2, a1_3, a1_4, a1_5, a1_6⟩ : S67)]) := ⟨_, rfl⟩
   replace H : (some y119) = some r := by first | (rw [hy119]; with_reducible exact H) | (have H2_ := (Option.bind_some _ _).symm.trans H; rw [hy119]; with_reducible exact H2_) | (have H2_ := (Option.bind_some _ _).symm.trans H; with_reducible exact H2_) | with_reducible exact H | (rw [hy119]; exact H) | exact H
   have Ny119 := a1z.mk hy119
   clear hy119
   obtain rfl := Option.some.inj H
   go_enter Try.func122, Try.ntmps122
   go_wp2_with (first | ((with_reducible refine d1z (N := 3) rfl ?_); refine d3z ?hg (N := 3) ?hd (cs := #[.int .i64 a1_0, .int .i64 a1_1, .int .i64 a1_2, .int .i64 a1_3, .int .i64 a1_4, .int .i64 a1_5, .int .i64 a1_6]) (t := 67) ?hr ?_; (case hd => rfl); (case hg => rfl); (case hr => first | (go_simp; done) | (go_simp; rfl)); intro gb101 hg w38 hbox hb; have n0_ := a1z.mk (Kd.d7z (Kd.g3z (by (with_reducible repeat (first | apply Kd.R_alloc | apply Kd.b1z | apply Kd.b3z)); exact HO0.1) gb101 (Nat.le_of_eq hg.symm)) hb); have n1_ := a1z.mk (Kept.below (S := (fun k_ => P0_ k_)) (by repeat (first | (with_reducible first | exact HK.1 | apply Kept.alloc | apply Kept.drewN | apply Kept.drew) | exact HK.1)) hb); have n2_ := a1z.mk (b7z (by repeat (first | (with_reducible first | exact HB.1 | apply a5z | apply a2z | apply a4z) | exact HB.1)) hb); have n3_ := a1z.mk (hbox); have n4_ := a1z.mk ((by rw [hg]; exact (by first | exact HK.1.1 | exact (show Kept w _ (fun k_ => P0_ k_) from by repeat (first | (with_reducible first | exact HK.1 | apply Kept.alloc | apply Kept.drewN | apply Kept.drew) | exact HK.1)).1) : w.heap.size ≤ gb101)); have n5_ := a1z.mk ((by rw [hg]; exact (b5z (by repeat (first | (with_reducible first | exact HB.1 | apply a5z | apply a2z | apply a4z) | exact HB.1))) : w0.heap.size ≤ gb101)); clear HO0; clear HK; clear HB; have HO0 := n0_; have HK := n1_; have HB := n2_; have BK101 := n3_; have GW101 := n4_; have GE101 := n5_; clear n0_ n1_ n2_ n3_ n4_ n5_; clear hb hbox hg; obtain ⟨Ao39, co39, eo39⟩ := Kd.d6z HO0.1; subst eo39; have hcz40_0 : w38.cell? ⟨gb101, 0, none⟩ = some (.int .i64 a1_0) := (a0z BK101.1 0).trans rfl; have hcz40_1 : w38.cell? ⟨gb101, 1, none⟩ = some (.int .i64 a1_1) := (a0z BK101.1 1).trans rfl; have hcz40_2 : w38.cell? ⟨gb101, 2, none⟩ = some (.int .i64 a1_2) := (a0z BK101.1 2).trans rfl; have hcz40_3 : w38.cell? ⟨gb101, 3, none⟩ = some (.int .i64 a1_3) := (a0z BK101.1 3).trans rfl; have hcz40_4 : w38.cell? ⟨gb101, 4, none⟩ = some (.int .i64 a1_4) := (a0z BK101.1 4).trans rfl; have hcz40_5 : w38.cell? ⟨gb101, 5, none⟩ = some (.int .i64 a1_5) := (a0z BK101.1 5).trans rfl; have hcz40_6 : w38.cell? ⟨gb101, 6, none⟩ = some (.int .i64 a1_6) := (a0z BK101.1 6).trans rfl; have hfz40_0 := a3z BK101.1 0; have hfz40_1 := a3z BK101.1 1; have hfz40_2 := a3z BK101.1 2; have hfz40_3 := a3z BK101.1 3; have hfz40_4 := a3z BK101.1 4; have hfz40_5 := a3z BK101.1 5; have hfz40_6 := a3z BK101.1 6) | ((with_reducible refine f6z (b := .append) (xs := #[.tmp 59, .tmp 61]) rfl ?_); at_builtin; refine Kd.g5z k67 (w0 := w0) w0.heap.size rfl (.tmp 59) (.tmp 61) 34 67 (.agg #[(.int .i64 0), (.int .i64 0), (.int .i64 0), (.int .i64 0), (.int .i64 0), (.int .i64 0), (.int .i64 0)]) 56 rfl Try.underlying34 info67 rfl (by decide) (by omega) (.slice Ao39 l0.length co39) l0 (⟨a1_0, a1_1, a1_2, a1_3, a1_4, a1_5, a1_6⟩ : S67) [.int .i64 a1_0, .int .i64 a1_1, .int .i64 a1_2, .int .i64 a1_3, .int .i64 a1_4, .int .i64 a1_5, .int .i64 a1_6] (fun k_ => (P0_ k_ ∨ w.heap.size ≤ k_) ∧ k_ ≠ gb101) (fun _ => False) rfl rfl ?aP (fun _ hk => hk.elim) ?aF ?aO ?aB ?aS ?aL ?_; (case aP => exact g2z _ _ _ (⟨a1_0, a1_1, a1_2, a1_3, a1_4, a1_5, a1_6⟩ : S67)); (case aB => exact (by repeat (first | (with_reducible first | exact HB.1 | apply a5z | apply a2z | apply a4z | refine a9z ?_ GE101.1) | exact HB.1))); (case aF => exact (fun k_ hk => ⟨(.inr (Nat.le_trans (by first | exact HK.1.1 | exact (show Kept w _ (fun k_ => P0_ k_) from by repeat (first | (with_reducible first | exact HK.1 | apply Kept.alloc | apply Kept.drewN | apply Kept.drew | refine Kept.setCell ?_ (.inr GW101.1) _) | exact HK.1)).1) hk)), Kd.freshB (g := gb101) (o := .cells #[.int .i64 a1_0, .int .i64 a1_1, .int .i64 a1_2, .int .i64 a1_3, .int .i64 a1_4, .int .i64 a1_5, .int .i64 a1_6] 67 (0, 0)) (by (with_reducible repeat (first | refine a7z ?_ _ | refine a8z ?_ | refine blk_alloc ?_ _)); exact BK101.1) k_ hk⟩)); (case aO => exact (by (with_reducible repeat (first | apply Kd.R_alloc | apply Kd.b1z | apply Kd.b3z)); exact HO0.1)); (case aS => exact (b5z (by repeat (first | (with_reducible first | exact HB.1 | apply a5z | apply a2z | apply a4z | refine a9z ?_ GE101.1) | exact HB.1)))); (case aL => have := LMc37.1; omega); intro v120 w41 ho hb hg hat; rw [← Ny119.1] at ho; have n0_ := a1z.mk (g0z (g := gb101) (o := .cells #[.int .i64 a1_0, .int .i64 a1_1, .int .i64 a1_2, .int .i64 a1_3, .int .i64 a1_4, .int .i64 a1_5, .int .i64 a1_6] 67 (0, 0)) (by (with_reducible repeat (first | refine a7z ?_ _ | refine a8z ?_ | refine blk_alloc ?_ _)); exact BK101.1) hg (Kd.c3z HO0.1 (fun _ hk => hk.2))); have n1_ := a1z.mk (hb); have n2_ := a1z.mk (Kept.of_grown (S := (fun k_ => P0_ k_)) hg (by repeat (first | (with_reducible first | exact HK.1 | apply Kept.alloc | apply Kept.drewN | apply Kept.drew | refine Kept.setCell ?_ (.inr GW101.1) _) | exact HK.1)) (fun k_ e_ => (HO0.1.1 k_ e_).1)); have n3_ := a1z.mk (ho); clear BK101; clear HB; clear HK; clear HO0; have BK101 := n0_; have HB := n1_; have HK := n2_; have HO121 := n3_; clear n0_ n1_ n2_ n3_; clear ho hb hg hat))
   repeat (go_quiet (first | ((with_reducible refine d1z (N := 3) rfl ?_); refine d3z ?hg (N := 3) ?hd (cs := #[.int .i64 a1_0, .int .i64 a1_1, .int .i64 a1_2, .int .i64 a1_3, .int .i64 a1_4, .int .i64 a1_5, .int .i64 a1_6]) (t := 67) ?hr ?_; (case hd => rfl); (case hg => rfl); (case hr => first | (go_simp; done) | (go_simp; rfl)); intro gb101 hg w38 hbox hb; have n0_ := a1z.mk (Kd.d7z (Kd.g3z (by (with_reducible repeat (first | apply Kd.R_alloc | apply Kd.b1z | apply Kd.b3z)); exact HO0.1) gb101 (Nat.le_of_eq hg.symm)) hb); have n1_ := a1z.mk (Kept.below (S := (fun k_ => P0_ k_)) (by repeat (first | (with_reducible first | exact HK.1 | apply Kept.alloc | apply Kept.drewN | apply Kept.drew) | exact HK.1)) hb); have n2_ := a1z.mk (b7z (by repeat (first | (with_reducible first | exact HB.1 | apply a5z | apply a2z | apply a4z) | exact HB.1)) hb); have n3_ := a1z.mk (hbox); have n4_ := a1z.mk ((by rw [hg]; exact (by first | exact HK.1.1 | exact (show Kept w _ (fun k_ => P0_ k_) from by repeat (first | (with_reducible first | exact HK.1 | apply Kept.alloc | apply Kept.drewN | apply Kept.drew) | exact HK.1)).1) : w.heap.size ≤ gb101)); have n5_ := a1z.mk ((by rw [hg]; exact (b5z (by repeat (first | (with_reducible first | exact HB.1 | apply a5z | apply a2z | apply a4z) | exact HB.1))) : w0.heap.size ≤ gb101)); clear HO0; clear HK; clear HB; have HO0 := n0_; have HK := n1_; have HB := n2_; have BK101 := n3_; have GW101 := n4_; have GE101 := n5_; clear n0_ n1_ n2_ n3_ n4_ n5_; clear hb hbox hg; obtain ⟨Ao39, co39, eo39⟩ := Kd.d6z HO0.1; subst eo39; have hcz40_0 : w38.cell? ⟨gb101, 0, none⟩ = some (.int .i64 a1_0) := (a0z BK101.1 0).trans rfl; have hcz40_1 : w38.cell? ⟨gb101, 1, none⟩ = some (.int .i64 a1_1) := (a0z BK101.1 1).trans rfl; have hcz40_2 : w38.cell? ⟨gb101, 2, none⟩ = some (.int .i64 a1_2) := (a0z BK101.1 2).trans rfl; have hcz40_3 : w38.cell? ⟨gb101, 3, none⟩ = some (.int .i64 a1_3) := (a0z BK101.1 3).trans rfl; have hcz40_4 : w38.cell? ⟨gb101, 4, none⟩ = some (.int .i64 a1_4) := (a0z BK101.1 4).trans rfl; have hcz40_5 : w38.cell? ⟨gb101, 5, none⟩ = some (.int .i64 a1_5) := (a0z BK101.1 5).trans rfl; have hcz40_6 : w38.cell? ⟨gb101, 6, none⟩ = some (.int .i64 a1_6) := (a0z BK101.1 6).trans rfl; have hfz40_0 := a3z BK101.1 0; have hfz40_1 := a3z BK101.1 1; have hfz40_2 := a3z BK101.1 2; have hfz40_3 := a3z BK101.1 3; have hfz40_4 := a3z BK101.1 4; have hfz40_5 := a3z BK101.1 5; have hfz40_6 := a3z BK101.1 6) | ((with_reducible refine f6z (b := .append) (xs := #[.tmp 59, .tmp 61]) rfl ?_); at_builtin; refine Kd.g5z k67 (w0 := w0) w0.heap.size rfl (.tmp 59) (.tmp 61) 34 67 (.agg #[(.int .i64 0), (.int .i64 0), (.int .i64 0), (.int .i64 0), (.int .i64 0), (.int .i64 0), (.int .i64 0)]) 56 rfl Try.underlying34 info67 rfl (by decide) (by omega) (.slice Ao39 l0.length co39) l0 (⟨a1_0, a1_1, a1_2, a1_3, a1_4, a1_5, a1_6⟩ : S67) [.int .i64 a1_0, .int .i64 a1_1, .int .i64 a1_2, .int .i64 a1_3, .int .i64 a1_4, .int .i64 a1_5, .int .i64 a1_6] (fun k_ => (P0_ k_ ∨ w.heap.size ≤ k_) ∧ k_ ≠ gb101) (fun _ => False) rfl rfl ?aP (fun _ hk => hk.elim) ?aF ?aO ?aB ?aS ?aL ?_; (case aP => exact g2z _ _ _ (⟨a1_0, a1_1, a1_2, a1_3, a1_4, a1_5, a1_6⟩ : S67)); (case aB => exact (by repeat (first | (with_reducible first | exact HB.1 | apply a5z | apply a2z | apply a4z | refine a9z ?_ GE101.1) | exact HB.1))); (case aF => exact (fun k_ hk => ⟨(.inr (Nat.le_trans (by first | exact HK.1.1 | exact (show Kept w _ (fun k_ => P0_ k_) from by repeat (first | (with_reducible first | exact HK.1 | apply Kept.alloc | apply Kept.drewN | apply Kept.drew | refine Kept.setCell ?_ (.inr GW101.1) _) | exact HK.1)).1) hk)), Kd.freshB (g := gb101) (o := .cells #[.int .i64 a1_0, .int .i64 a1_1, .int .i64 a1_2, .int .i64 a1_3, .int .i64 a1_4, .int .i64 a1_5, .int .i64 a1_6] 67 (0, 0)) (by (with_reducible repeat (first | refine a7z ?_ _ | refine a8z ?_ | refine blk_alloc ?_ _)); exact BK101.1) k_ hk⟩)); (case aO => exact (by (with_reducible repeat (first | apply Kd.R_alloc | apply Kd.b1z | apply Kd.b3z)); exact HO0.1)); (case aS => exact (b5z (by repeat (first | (with_reducible first | exact HB.1 | apply a5z | apply a2z | apply a4z | refine a9z ?_ GE101.1) | exact HB.1)))); (case aL => have := LMc37.1; omega); intro v120 w41 ho hb hg hat; rw [← Ny119.1] at ho; have n0_ := a1z.mk (g0z (g := gb101) (o := .cells #[.int .i64 a1_0, .int .i64 a1_1, .int .i64 a1_2, .int .i64 a1_3, .int .i64 a1_4, .int .i64 a1_5, .int .i64 a1_6] 67 (0, 0)) (by (with_reducible repeat (first | refine a7z ?_ _ | refine a8z ?_ | refine blk_alloc ?_ _)); exact BK101.1) hg (Kd.c3z HO0.1 (fun _ hk => hk.2))); have n1_ := a1z.mk (hb); have n2_ := a1z.mk (Kept.of_grown (S := (fun k_ => P0_ k_)) hg (by repeat (first | (with_reducible first | exact HK.1 | apply Kept.alloc | apply Kept.drewN | apply Kept.drew | refine Kept.setCell ?_ (.inr GW101.1) _) | exact HK.1)) (fun k_ e_ => (HO0.1.1 k_ e_).1)); have n3_ := a1z.mk (ho); clear BK101; clear HB; clear HK; clear HO0; have BK101 := n0_; have HB := n1_; have HK := n2_; have HO121 := n3_; clear n0_ n1_ n2_ n3_; clear ho hb hg hat)); try go_wp2_with (first | ((with_reducible refine d1z (N := 3) rfl ?_); refine d3z ?hg (N := 3) ?hd (cs := #[.int .i64 a1_0, .int .i64 a1_1, .int .i64 a1_2, .int .i64 a1_3, .int .i64 a1_4, .int .i64 a1_5, .int .i64 a1_6]) (t := 67) ?hr ?_; (case hd => rfl); (case hg => rfl); (case hr => first | (go_simp; done) | (go_simp; rfl)); intro gb101 hg w38 hbox hb; have n0_ := a1z.mk (Kd.d7z (Kd.g3z (by (with_reducible repeat (first | apply Kd.R_alloc | apply Kd.b1z | apply Kd.b3z)); exact HO0.1) gb101 (Nat.le_of_eq hg.symm)) hb); have n1_ := a1z.mk (Kept.below (S := (fun k_ => P0_ k_)) (by repeat (first | (with_reducible first | exact HK.1 | apply Kept.alloc | apply Kept.drewN | apply Kept.drew) | exact HK.1)) hb); have n2_ := a1z.mk (b7z (by repeat (first | (with_reducible first | exact HB.1 | apply a5z | apply a2z | apply a4z) | exact HB.1)) hb); have n3_ := a1z.mk (hbox); have n4_ := a1z.mk ((by rw [hg]; exact (by first | exact HK.1.1 | exact (show Kept w _ (fun k_ => P0_ k_) from by repeat (first | (with_reducible first | exact HK.1 | apply Kept.alloc | apply Kept.drewN | apply Kept.drew) | exact HK.1)).1) : w.heap.size ≤ gb101)); have n5_ := a1z.mk ((by rw [hg]; exact (b5z (by repeat (first | (with_reducible first | exact HB.1 | apply a5z | apply a2z | apply a4z) | exact HB.1))) : w0.heap.size ≤ gb101)); clear HO0; clear HK; clear HB; have HO0 := n0_; have HK := n1_; have HB := n2_; have BK101 := n3_; have GW101 := n4_; have GE101 := n5_; clear n0_ n1_ n2_ n3_ n4_ n5_; clear hb hbox hg; obtain ⟨Ao39, co39, eo39⟩ := Kd.d6z HO0.1; subst eo39; have hcz40_0 : w38.cell? ⟨gb101, 0, none⟩ = some (.int .i64 a1_0) := (a0z BK101.1 0).trans rfl; have hcz40_1 : w38.cell? ⟨gb101, 1, none⟩ = some (.int .i64 a1_1) := (a0z BK101.1 1).trans rfl; have hcz40_2 : w38.cell? ⟨gb101, 2, none⟩ = some (.int .i64 a1_2) := (a0z BK101.1 2).trans rfl; have hcz40_3 : w38.cell? ⟨gb101, 3, none⟩ = some (.int .i64 a1_3) := (a0z BK101.1 3).trans rfl; have hcz40_4 : w38.cell? ⟨gb101, 4, none⟩ = some (.int .i64 a1_4) := (a0z BK101.1 4).trans rfl; have hcz40_5 : w38.cell? ⟨gb101, 5, none⟩ = some (.int .i64 a1_5) := (a0z BK101.1 5).trans rfl; have hcz40_6 : w38.cell? ⟨gb101, 6, none⟩ = some (.int .i64 a1_6) := (a0z BK101.1 6).trans rfl; have hfz40_0 := a3z BK101.1 0; have hfz40_1 := a3z BK101.1 1; have hfz40_2 := a3z BK101.1 2; have hfz40_3 := a3z BK101.1 3; have hfz40_4 := a3z BK101.1 4; have hfz40_5 := a3z BK101.1 5; have hfz40_6 := a3z BK101.1 6) | ((with_reducible refine f6z (b := .append) (xs := #[.tmp 59, .tmp 61]) rfl ?_); at_builtin; refine Kd.g5z k67 (w0 := w0) w0.heap.size rfl (.tmp 59) (.tmp 61) 34 67 (.agg #[(.int .i64 0), (.int .i64 0), (.int .i64 0), (.int .i64 0), (.int .i64 0), (.int .i64 0), (.int .i64 0)]) 56 rfl Try.underlying34 info67 rfl (by decide) (by omega) (.slice Ao39 l0.length co39) l0 (⟨a1_0, a1_1, a1_2, a1_3, a1_4, a1_5, a1_6⟩ : S67) [.int .i64 a1_0, .int .i64 a1_1, .int .i64 a1_2, .int .i64 a1_3, .int .i64 a1_4, .int .i64 a1_5, .int .i64 a1_6] (fun k_ => (P0_ k_ ∨ w.heap.size ≤ k_) ∧ k_ ≠ gb101) (fun _ => False) rfl rfl ?aP (fun _ hk => hk.elim) ?aF ?aO ?aB ?aS ?aL ?_; (case aP => exact g2z _ _ _ (⟨a1_0, a1_1, a1_2, a1_3, a1_4, a1_5, a1_6⟩ : S67)); (case aB => exact (by repeat (first | (with_reducible first | exact HB.1 | apply a5z | apply a2z | apply a4z | refine a9z ?_ GE101.1) | exact HB.1))); (case aF => exact (fun k_ hk => ⟨(.inr (Nat.le_trans (by first | exact HK.1.1 | exact (show Kept w _ (fun k_ => P0_ k_) from by repeat (first | (with_reducible first | exact HK.1 | apply Kept.alloc | apply Kept.drewN | apply Kept.drew | refine Kept.setCell ?_ (.inr GW101.1) _) | exact HK.1)).1) hk)), Kd.freshB (g := gb101) (o := .cells #[.int .i64 a1_0, .int .i64 a1_1, .int .i64 a1_2, .int .i64 a1_3, .int .i64 a1_4, .int .i64 a1_5, .int .i64 a1_6] 67 (0, 0)) (by (with_reducible repeat (first | refine a7z ?_ _ | refine a8z ?_ | refine blk_alloc ?_ _)); exact BK101.1) k_ hk⟩)); (case aO => exact (by (with_reducible repeat (first | apply Kd.R_alloc | apply Kd.b1z | apply Kd.b3z)); exact HO0.1)); (case aS => exact (b5z (by repeat (first | (with_reducible first | exact HB.1 | apply a5z | apply a2z | apply a4z | refine a9z ?_ GE101.1) | exact HB.1)))); (case aL => have := LMc37.1; omega); intro v120 w41 ho hb hg hat; rw [← Ny119.1] at ho; have n0_ := a1z.mk (g0z (g := gb101) (o := .cells #[.int .i64 a1_0, .int .i64 a1_1, .int .i64 a1_2, .int .i64 a1_3, .int .i64 a1_4, .int .i64 a1_5, .int .i64 a1_6] 67 (0, 0)) (by (with_reducible repeat (first | refine a7z ?_ _ | refine a8z ?_ | refine blk_alloc ?_ _)); exact BK101.1) hg (Kd.c3z HO0.1 (fun _ hk => hk.2))); have n1_ := a1z.mk (hb); have n2_ := a1z.mk (Kept.of_grown (S := (fun k_ => P0_ k_)) hg (by repeat (first | (with_reducible first | exact HK.1 | apply Kept.alloc | apply Kept.drewN | apply Kept.drew | refine Kept.setCell ?_ (.inr GW101.1) _) | exact HK.1)) (fun k_ e_ => (HO0.1.1 k_ e_).1)); have n3_ := a1z.mk (ho); clear BK101; clear HB; clear HK; clear HO0; have BK101 := n0_; have HB := n1_; have HK := n2_; have HO121 := n3_; clear n0_ n1_ n2_ n3_; clear ho hb hg hat)))
   go_ret
   exact ⟨_, by first | rfl | (simp [c2z, c1z] <;> rfl) | (simp [*, c2z, c1z] <;> rfl), by (with_reducible repeat (first | apply Kd.R_alloc | apply Kd.b1z | apply Kd.b3z)); exact Kd.c6z HO121.1 (fun _ hk => hk.1), by repeat (first | (with_reducible first | exact HB.1 | apply a5z | apply a2z | apply a4z | refine a9z ?_ GE101.1) | exact HB.1), by repeat (first | (with_reducible first | exact HK.1 | apply Kept.alloc | apply Kept.drewN | apply Kept.drew | refine Kept.setCell ?_ (.inr GW101.1) _) | exact HK.1)⟩
  ·rw [if_neg c37] at H
   exact absurd H (by simp)
end Go.Proofs.Ytbhgkpfbggkgdaa.Q

namespace Go.Proofs.Ytbhgkpfbggkgdaa.Q
open Go.RowKit Go.Proofs.YtbhgkpfbggkgdaaW.PrintWords Go.Proofs.YtbhgkpfbggkgdaaW.PrintLast Go.Proofs.YtbhgkpfbggkgdaaW.PrintMore
attribute [local go_sem] e8z e6z f5z f4z e1z e0z e7z e5z
set_option linter.unusedVariables false
set_option linter.unusedSimpArgs false
def spec_l5To.f (l0 : List Int) (a1 : Int) (a2 : Int) : Option (Int) := if (wrap64 (a1 + 1)) < (l0.length : Int) then (if 0 ≤ (wrap64 (a1 + 1)) then (some (wrap64 ((rd l0 (wrap64 (a1 + 1))) - 1))) else (none)) else (some a2)
set_option maxHeartbeats 8000000 in
set_option maxRecDepth 100000 in
theorem spec_l5To.calls (A0 : Option Addr) (c0 : Nat) (l0 : List Int) (a1 : Int) (a2 : Int) (r : Int) (w : World) (hr0 : Kd.C (Kd.int .i64) w A0 l0.length l0) (hc0 : l0.length ≤ c0) (h : spec_l5To.f l0 a1 a2 = some r) :
  Calls Try.prog 123 #[.slice A0 l0.length c0, .int .i64 a1, .int .i64 a2] w fun e w' => e = .returned (.int .i64 r) ∧ Drawn0 w w' := by
 have HR0 := a1z.mk hr0
 have HC0 := a1z.mk hc0
 clear hr0 hc0
 have H : (if (wrap64 (a1 + 1)) < (l0.length : Int) then (if 0 ≤ (wrap64 (a1 + 1)) then (some (wrap64 ((rd l0 (wrap64 (a1 + 1))) - 1))) else (none)) else (some a2)) = some r := h
 clear h
 by_cases c4 : (wrap64 (a1 + 1)) < (l0.length : Int)
 ·rw [if_pos c4] at H
  have c4b0 : decide ((wrap64 (a1 + 1)) < (l0.length : Int)) = true := decide_eq_true c4
  clear c4
  obtain ⟨ji5, hji5⟩ : ∃ j_ : Int, (wrap64 (a1 + 1)) = j_ := ⟨_, rfl⟩
  replace H : (if 0 ≤ (ji5) then (some (wrap64 ((rd l0 (ji5)) - 1))) else (none)) = some r := by first | (rw [hji5] at H; exact H) | (simp only [hji5] at H ⊢; exact H)
  (try rw [hji5] at c4b0)
  have hji5w : (IntKind.i64.wrap (a1 + 1)) = ji5 := (i64_w _).trans hji5
  by_cases c6 : 0 ≤ (ji5)
  ·rw [if_pos c6] at H
   have c6b0 : decide (0 ≤ (ji5)) = true := decide_eq_true c6
   clear c6
   obtain rfl := Option.some.inj H
   have p101 : 0 ≤ ((ji5) : Int) := of_decide_eq_true (by first | (with_reducible assumption) | assumption)
   have q101 : (ji5) < (l0.length : Int) := of_decide_eq_true (by first | (with_reducible assumption) | assumption)
   obtain ⟨ad101, e101, hx101_0⟩ := Kd.g9z HR0.1 (ji5) p101 q101
   cases e101
   replace p101 := eq_true p101
   replace q101 := eq_true q101
   go_enter Try.func123, Try.ntmps123
   go_wp2
   go_ret
   exact ⟨by first | rfl | (simp; done) | (simp only [← hji5] <;> (first | rfl | simp)) | (simp [*]; done), by repeat (first | exact Drawn0.refl _ | apply Drawn0.step)⟩
  ·rw [if_neg c6] at H
   exact absurd H (by simp)
 ·rw [if_neg c4] at H
  have c4b0 : decide ((wrap64 (a1 + 1)) < (l0.length : Int)) = false := decide_eq_false c4
  clear c4
  obtain rfl := Option.some.inj H
  go_enter Try.func123, Try.ntmps123
  go_wp2
  go_ret
  exact ⟨by first | rfl | (simp; done) | (simp [*]; done), by repeat (first | exact Drawn0.refl _ | apply Drawn0.step)⟩
end Go.Proofs.Ytbhgkpfbggkgdaa.Q

namespace Go.Proofs.Ytbhgkpfbggkgdaa.Q
open Go.RowKit Go.Proofs.YtbhgkpfbggkgdaaW.PrintWords Go.Proofs.YtbhgkpfbggkgdaaW.PrintLast Go.Proofs.YtbhgkpfbggkgdaaW.PrintMore
attribute [local go_sem] e8z e6z f5z f4z e1z e0z e7z e5z
set_option linter.unusedVariables false
set_option linter.unusedSimpArgs false
mutual
def spec_l5Cells.l0 : Nat → List (S109) → List (S67) → Int → List Int → List Int → List Int → Option ((List (S67)))
 | 0, _, _, _, _, _, _ => none
 | k + 1, x0, x3, x5, x117000, x117001, x117002 => if x5 < (x117000.length : Int) then (spec_l5Cells.l1 k x0 x3 x5 0 x117000 x117001 x117002) else (some x3)
def spec_l5Cells.l1 : Nat → List (S109) → List (S67) → Int → Int → List Int → List Int → List Int → Option ((List (S67)))
 | 0, _, _, _, _, _, _, _ => none
 | k + 1, x0, x3, x5, x6, x117000, x117001, x117002 => if x6 < (x117001.length : Int) then (spec_l5Cells.l2 k x0 x3 x5 x6 0 x117000 x117001 x117002) else (spec_l5Cells.l0 k x0 x3 (wrap64 (x5 + 1)) x117000 x117001 x117002)
def spec_l5Cells.l2 : Nat → List (S109) → List (S67) → Int → Int → Int → List Int → List Int → List Int → Option ((List (S67)))
 | 0, _, _, _, _, _, _, _, _ => none
 | k + 1, x0, x3, x5, x6, x7, x117000, x117001, x117002 => if x7 < (x117002.length : Int) then (if 0 ≤ x5 then (if x5 < (x117000.length : Int) then (if 0 ≤ x6 then (if x6 < (x117001.length : Int) then (if 0 ≤ x7 then ((spec_l4First.f k x0 (rd x117000 x5) (rd x117001 x6) (rd x117002 x7)).bind fun t120 => (if t120 ≥ 0 then ((spec_l5To.f x117000 x5 4294967295).bind fun t122 => ((spec_l5To.f x117001 x6 4294967295).bind fun t124 => ((spec_l5To.f x117002 x7 65535).bind fun t126 => ((spec_l5Join.f x3 (rd x117000 x5) t122 (rd x117001 x6) t124 (rd x117002 x7) t126 t120).bind fun t127 => (spec_l5Cells.l2 k x0 t127 x5 x6 (wrap64 (x7 + 1)) x117000 x117001 x117002))))) else (spec_l5Cells.l2 k x0 x3 x5 x6 (wrap64 (x7 + 1)) x117000 x117001 x117002))) else (none)) else (none)) else (none)) else (none)) else (none)) else (spec_l5Cells.l1 k x0 x3 x5 (wrap64 (x6 + 1)) x117000 x117001 x117002)
end
def spec_l5Cells.f (k : Nat) (l0 : List (S109)) : Option ((List (S67))) := (spec_l4Of.f k l0 (([] : List (S109)))).bind fun bt107 => (spec_l5Cells.l0 k l0 (([] : List (S67))) 0 bt107.1 bt107.2.1 bt107.2.2)
def spec_l5Cells.T12 : Bool × List (List Nat × List Nat) := (true, [([], []), ([], []), ([1], [1]), ([], []), ([2, 3], [2, 3]), ([4], [4]), ([], []), ([6], [6]), ([], []), ([7, 8], [7, 8]), ([9], [9]), ([], []), ([11], [11]), ([], []), ([12, 13], [12, 13]), ([14], [14]), ([5, 10, 15], [5, 10, 15]), ([0, 16], [0, 16]), ([17, 17, 0, 1, 2, 3, 4, 5, 6, 7, 8, 9, 10, 11, 12, 13, 14, 15, 16, 17], [17])])
def spec_l5Cells.B12 : List Nat := [0, 0, 2, 0, 14, 30, 0, 64, 0, 448, 960, 0, 2048, 0, 14336, 30720, 65534, 131071, 262143]
theorem spec_l5Cells.tab12 : rtab .any (opsOf Try.f109 12) = spec_l5Cells.T12 := by kernel_rfl
theorem spec_l5Cells.bits12 : waitsOk spec_l5Cells.T12.2 spec_l5Cells.B12 = true := by kernel_rfl
def spec_l5Cells.T14 : Bool × List (List Nat × List Nat) := (true, [([], []), ([], []), ([1], [1]), ([], []), ([2, 3], [2, 3]), ([4], [4]), ([], []), ([6], [6]), ([], []), ([7, 8], [7, 8]), ([], []), ([10], [10]), ([], []), ([11, 12], [11, 12]), ([13], [13]), ([], []), ([15], [15]), ([], []), ([16, 17, 9], [16, 17]), ([], []), ([19], [19]), ([], []), ([20, 21], [20, 21]), ([22], [22]), ([], []), ([24], [24]), ([], []), ([25, 26, 18], [25, 26]), ([], []), ([5, 9, 14, 18, 23, 27, 28], [5, 9, 14, 18, 23, 27, 28]), ([0, 29, 27], [0, 29]), ([30, 30, 0, 1, 2, 3, 4, 5, 6, 7, 8, 9, 10, 11, 12, 13, 14, 15, 16, 17, 18, 19, 20, 21, 22, 23, 24, 25, 26, 27, 28, 29, 30], [0, 30])])
def spec_l5Cells.B14 : List Nat := [0, 0, 2, 0, 14, 30, 0, 64, 0, 448, 0, 1024, 0, 7168, 15360, 0, 32768, 0, 230336, 0, 524288, 0, 3670016, 7864320, 0, 16777216, 0, 117932992, 0, 536870910, 1073741823, 2147483647]
theorem spec_l5Cells.tab14 : rtab .any (opsOf Try.f109 14) = spec_l5Cells.T14 := by kernel_rfl
theorem spec_l5Cells.bits14 : waitsOk spec_l5Cells.T14.2 spec_l5Cells.B14 = true := by kernel_rfl
set_option maxHeartbeats 8000000 in
set_option maxRecDepth 100000 in
theorem spec_l5Cells.calls (k : Nat) (A0 : Option Addr) (c0 : Nat) (l0 : List (S109)) (r : List (S67)) (w : World) (hr0 : Kd.C k109 w A0 l0.length l0) (hc0 : l0.length ≤ c0) (h : spec_l5Cells.f k l0 = some r) :
  Calls Try.prog 109 #[.slice A0 l0.length c0] w fun e w' => ∃ v0_ : Value, e = .returned (v0_) ∧ Kd.R k67 67 w' w.heap.size (fun _ => True) v0_ r ∧ Below w.heap.size w w' := by
 have hu146 := Try.underlying146
 have hu36 := Try.underlying36
 have hu67 := Try.underlying67
 have HR0 := a1z.mk hr0
 have HC0 := a1z.mk hc0
 clear hr0 hc0
 have HB := a1z.mk (Below.refl w.heap.size w)
 have H : ((spec_l4Of.f k l0 (([] : List (S109)))).bind fun bt107 => (spec_l5Cells.l0 k l0 (([] : List (S67))) 0 bt107.1 bt107.2.1 bt107.2.2)) = some r := h
 clear h
 obtain ⟨y101, hy101⟩ : ∃ y_ : List (S67), y_ = (([] : List (S67))) := ⟨_, rfl⟩
 replace H : ((spec_l4Of.f k l0 (([] : List (S109)))).bind fun bt107 => (spec_l5Cells.l0 k l0 y101 0 bt107.1 bt107.2.1 bt107.2.2)) = some r := by first | (rw [hy101]; with_reducible exact H) | (have H2_ := (Option.bind_some _ _).symm.trans H; rw [hy101]; with_reducible exact H2_) | (have H2_ := (Option.bind_some _ _).symm.trans H; with_reducible exact H2_) | with_reducible exact H | (rw [hy101]; exact H) | exact H
 have Ny101 := a1z.mk hy101
 clear hy101
 obtain ⟨y104, hy104⟩ : ∃ y_ : List (S109), y_ = (([] : List (S109))) := ⟨_, rfl⟩
 replace H : ((spec_l4Of.f k l0 y104).bind fun bt107 => (spec_l5Cells.l0 k l0 y101 0 bt107.1 bt107.2.1 bt107.2.2)) = some r := by first | (rw [hy104]; with_reducible exact H) | (have H2_ := (Option.bind_some _ _).symm.trans H; rw [hy104]; with_reducible exact H2_) | (have H2_ := (Option.bind_some _ _).symm.trans H; with_reducible exact H2_) | with_reducible exact H | (rw [hy104]; exact H) | exact H
 have Ny104 := a1z.mk hy104
 clear hy104
 replace H := Option.bind_eq_some_iff.mp H
 obtain ⟨⟨t107, t110, t113⟩, A20, H⟩ := H
 replace H : (spec_l5Cells.l0 k l0 y101 0 t107 t110 t113) = some r := H
 have A2 := a1z.mk A20
 clear A20
 have H' := a1z.mk H
 clear H
 go_enter Try.func109, Try.ntmps109
 go_wp2_with (first | ((with_reducible refine d1z (N := 9) rfl ?_); refine Kd.R_lit k67 _ 67 ?hg (N := 9) ?hd (xs := ([] : List (S67))) (inner := []) (ok := fun _ => True) (okp := fun _ => True) ?hr ?hp (fun _ hk => hk) trivial (Below.refl _ _) (Nat.le_refl _) (by simp) ?_; (case hd => rfl); (case hg => rfl); (case hr => first | (go_simp; done) | (go_simp; rfl)); (case hp => exact (Reps.none _ _)); intro v102 w3 ho4 hb hg_ hnew_; clear hg_ hnew_; (first | rw [← Ny101.1] at ho4 | (simp only [Int.reduceToNat] at ho4; rw [← Ny101.1] at ho4)); have n0_ := a1z.mk (Kd.e4z ho4 (b5z (by repeat (first | (with_reducible first | exact HB.1 | apply a5z | apply a2z | apply a4z) | exact HB.1)))); have n1_ := a1z.mk (b7z (by repeat (first | (with_reducible first | exact HB.1 | apply a5z | apply a2z | apply a4z) | exact HB.1)) hb); clear HB; have HO103 := n0_; have HB := n1_; clear n0_ n1_; clear hb ho4) | ((with_reducible refine d1z (N := 11) rfl ?_); refine Kd.R_lit k109 _ 109 ?hg (N := 11) ?hd (xs := ([] : List (S109))) (inner := []) (ok := fun _ => True) (okp := fun _ => True) ?hr ?hp (fun _ hk => hk) trivial (Below.refl _ _) (Nat.le_refl _) (by simp) ?_; (case hd => rfl); (case hg => rfl); (case hr => first | (go_simp; done) | (go_simp; rfl)); (case hp => exact (Reps.none _ _)); intro v105 w5 ho6 hb hg_ hnew_; clear hg_ hnew_; (first | rw [← Ny104.1] at ho6 | (simp only [Int.reduceToNat] at ho6; rw [← Ny104.1] at ho6)); have n0_ := a1z.mk (Kd.d7z (by (with_reducible repeat (first | apply Kd.R_alloc | apply Kd.b1z | apply Kd.b3z)); exact HO103.1) hb); have n1_ := a1z.mk (Kd.e4z ho6 (b5z (by repeat (first | (with_reducible first | exact HB.1 | apply a5z | apply a2z | apply a4z) | exact HB.1)))); have n2_ := a1z.mk (b7z (by repeat (first | (with_reducible first | exact HB.1 | apply a5z | apply a2z | apply a4z) | exact HB.1)) hb); clear HO103; clear HB; have HO103 := n0_; have HO106 := n1_; have HB := n2_; clear n0_ n1_ n2_; clear hb ho6; obtain ⟨Ao7, co7, eo7⟩ := Kd.d6z HO106.1; subst eo7) | ((with_reducible refine c5z (f := 120) rfl ?_); refine d5z (some 12) rfl rfl Try.func120 (by kernel_rfl) rfl #[.slice A0 l0.length c0, .slice Ao7 y104.length co7] rfl (by (try simp only [List.map_toArray, List.map_cons, List.map_nil]); first | done | rfl | (simp only [List.length_drop, List.length_take]; rfl)) ?_; (with_reducible refine (spec_l4Of.calls k _ _ l0 _ _ y104 t107 t110 t113 _ ?side1 ?side2 ?side3 ?side4 A2.1).mono ?_); (case side1 => repeat (first | exact (Kd.g1z HR0.1 HB.1) | (with_reducible refine Kd.C_alloc ?_ _) | (with_reducible refine Kd.C_drewN ?_ _) | (with_reducible refine Kd.C_drew ?_))); (case side2 => exact HC0.1); (case side3 => repeat (first | exact (Kd.b9z HO106.1).2.2 | (with_reducible refine Kd.C_alloc ?_ _) | (with_reducible refine Kd.C_drewN ?_ _) | (with_reducible refine Kd.C_drew ?_))); (case side4 => exact (Kd.b9z HO106.1).2.1); rintro e w8 ⟨v108, v111, v114, rfl, ho0, ho1, ho2, hb⟩; refine ⟨_, rfl, ?_⟩; have n0_ := a1z.mk (Kd.d7z (by (with_reducible repeat (first | apply Kd.R_alloc | apply Kd.b1z | apply Kd.b3z)); exact HO103.1) hb); have n1_ := a1z.mk (Kd.d7z (by (with_reducible repeat (first | apply Kd.R_alloc | apply Kd.b1z | apply Kd.b3z)); exact HO106.1) hb); have n2_ := a1z.mk (Kd.e4z ho0 (b5z (by repeat (first | (with_reducible first | exact HB.1 | apply a5z | apply a2z | apply a4z) | exact HB.1)))); have n3_ := a1z.mk (Kd.e4z ho1 (b5z (by repeat (first | (with_reducible first | exact HB.1 | apply a5z | apply a2z | apply a4z) | exact HB.1)))); have n4_ := a1z.mk (Kd.e4z ho2 (b5z (by repeat (first | (with_reducible first | exact HB.1 | apply a5z | apply a2z | apply a4z) | exact HB.1)))); have n5_ := a1z.mk (b7z (by repeat (first | (with_reducible first | exact HB.1 | apply a5z | apply a2z | apply a4z) | exact HB.1)) hb); clear HO103; clear HO106; clear HB; have HO103 := n0_; have HO106 := n1_; have HO109 := n2_; have HO112 := n3_; have HO115 := n4_; have HB := n5_; clear n0_ n1_ n2_ n3_ n4_ n5_; (try clear hb); (try clear hb2); (try clear hk); (try clear hi); (try clear ho0); (try clear ho1); (try clear ho2)) | ((with_reducible refine d1z (N := 4) rfl ?_); refine d3z ?hg (N := 4) ?hd (cs := #[.slice none 0 0, .slice none 0 0, .slice none 0 0]) (t := 146) ?hr ?_; (case hd => rfl); (case hg => rfl); (case hr => first | (go_simp; done) | (go_simp; rfl)); intro gb116 hg w9 hbox hb; have n0_ := a1z.mk (Kd.d7z (by (with_reducible repeat (first | apply Kd.R_alloc | apply Kd.b1z | apply Kd.b3z)); exact HO103.1) hb); have n1_ := a1z.mk (Kd.d7z (by (with_reducible repeat (first | apply Kd.R_alloc | apply Kd.b1z | apply Kd.b3z)); exact HO106.1) hb); have n2_ := a1z.mk (Kd.d7z (by (with_reducible repeat (first | apply Kd.R_alloc | apply Kd.b1z | apply Kd.b3z)); exact HO109.1) hb); have n3_ := a1z.mk (Kd.d7z (by (with_reducible repeat (first | apply Kd.R_alloc | apply Kd.b1z | apply Kd.b3z)); exact HO112.1) hb); have n4_ := a1z.mk (Kd.d7z (by (with_reducible repeat (first | apply Kd.R_alloc | apply Kd.b1z | apply Kd.b3z)); exact HO115.1) hb); have n5_ := a1z.mk (b7z (by repeat (first | (with_reducible first | exact HB.1 | apply a5z | apply a2z | apply a4z) | exact HB.1)) hb); have n6_ := a1z.mk (hbox); have n7_ := a1z.mk ((by rw [hg]; exact (b5z (by repeat (first | (with_reducible first | exact HB.1 | apply a5z | apply a2z | apply a4z) | exact HB.1))) : w.heap.size ≤ gb116)); have n8_ := a1z.mk ((by rw [hg]; exact (b5z (by repeat (first | (with_reducible first | exact HB.1 | apply a5z | apply a2z | apply a4z) | exact HB.1))) : w.heap.size ≤ gb116)); clear HO103; clear HO106; clear HO109; clear HO112; clear HO115; clear HB; have HO103 := n0_; have HO106 := n1_; have HO109 := n2_; have HO112 := n3_; have HO115 := n4_; have HB := n5_; have BK116 := n6_; have GW116 := n7_; have GE116 := n8_; clear n0_ n1_ n2_ n3_ n4_ n5_ n6_ n7_ n8_; clear hb hbox hg; obtain ⟨Ao10, co10, eo10⟩ := Kd.d6z HO109.1; subst eo10; have hcz11_0 : w9.cell? ⟨gb116, 0, none⟩ = some (.slice none 0 0) := (a0z BK116.1 0).trans rfl; have hcz11_1 : w9.cell? ⟨gb116, 1, none⟩ = some (.slice none 0 0) := (a0z BK116.1 1).trans rfl; have hcz11_2 : w9.cell? ⟨gb116, 2, none⟩ = some (.slice none 0 0) := (a0z BK116.1 2).trans rfl; have hfz11_0 := a3z BK116.1 0; have hfz11_1 := a3z BK116.1 1; have hfz11_2 := a3z BK116.1 2; obtain ⟨Ao12, co12, eo12⟩ := Kd.d6z HO112.1; subst eo12; obtain ⟨Ao13, co13, eo13⟩ := Kd.d6z HO115.1; subst eo13))
 go_loopg [3, 5] k (fun kq v3 v5 w' => ∃ (x3_1 : List (S67)) (x5_1 : Int), v5 = .int .i64 x5_1 ∧ a1z (spec_l5Cells.l0 kq l0 x3_1 x5_1 t107 t110 t113 = some r) ∧ a1z (kq ≤ k) ∧ a1z (Kd.R k67 67 w' w.heap.size (fun _ => True) v3 x3_1) ∧ a1z (Kd.R (Kd.int .i64) 3 w' w.heap.size (fun k_ => some k_ ≠ ((.slice Ao12 t110.length co12) : Value).ownBlock ∧ some k_ ≠ ((.slice Ao13 t113.length co13) : Value).ownBlock) (.slice Ao10 t107.length co10) t107) ∧ a1z (Kd.R (Kd.int .i64) 3 w' w.heap.size (fun k_ => some k_ ≠ ((.slice Ao10 t107.length co10) : Value).ownBlock ∧ some k_ ≠ ((.slice Ao13 t113.length co13) : Value).ownBlock) (.slice Ao12 t110.length co12) t110) ∧ a1z (Kd.R (Kd.int .i64) 3 w' w.heap.size (fun k_ => some k_ ≠ ((.slice Ao10 t107.length co10) : Value).ownBlock ∧ some k_ ≠ ((.slice Ao12 t110.length co12) : Value).ownBlock) (.slice Ao13 t113.length co13) t113) ∧ a1z (w'.heap[gb116]? = some (.cells #[(.slice Ao10 t107.length co10), (.slice Ao12 t110.length co12), (.slice Ao13 t113.length co13)] 146 (0, 0))) ∧ a1z (Below w.heap.size w w'))
 case atStart => exact ⟨(y101), (0), (by first | rfl | (simp; done) | (simp [*]; done)), H', ⟨Nat.le_refl _⟩, ⟨by (with_reducible repeat (first | apply Kd.R_alloc | apply Kd.b1z | apply Kd.b3z)); exact Kd.c6z (Kd.R_far (p := ⟨gb116, 2, none⟩) (Kd.R_far (p := ⟨gb116, 1, none⟩) (Kd.R_far (p := ⟨gb116, 0, none⟩) (Kd.h1z HO103.1 BK116.1 (by decide)) (fun _ hk => hk.2) (.slice Ao10 t107.length co10)) (fun _ hk => hk.2) (.slice Ao12 t110.length co12)) (fun _ hk => hk.2) (.slice Ao13 t113.length co13)) (fun _ hk => trivial)⟩, ⟨by (with_reducible repeat (first | apply Kd.R_alloc | apply Kd.b1z | apply Kd.b3z)); exact Kd.c6z (Kd.R_far (p := ⟨gb116, 2, none⟩) (Kd.R_far (p := ⟨gb116, 1, none⟩) (Kd.R_far (p := ⟨gb116, 0, none⟩) (Kd.h1z HO109.1 BK116.1 (by decide)) (fun _ hk => hk.2) (.slice Ao10 t107.length co10)) (fun _ hk => hk.2) (.slice Ao12 t110.length co12)) (fun _ hk => hk.2) (.slice Ao13 t113.length co13)) (fun _ hk => ⟨hk.1.1, hk.1.2⟩)⟩, ⟨by (with_reducible repeat (first | apply Kd.R_alloc | apply Kd.b1z | apply Kd.b3z)); exact Kd.c6z (Kd.R_far (p := ⟨gb116, 2, none⟩) (Kd.R_far (p := ⟨gb116, 1, none⟩) (Kd.R_far (p := ⟨gb116, 0, none⟩) (Kd.h1z HO112.1 BK116.1 (by decide)) (fun _ hk => hk.2) (.slice Ao10 t107.length co10)) (fun _ hk => hk.2) (.slice Ao12 t110.length co12)) (fun _ hk => hk.2) (.slice Ao13 t113.length co13)) (fun _ hk => ⟨hk.1.1, hk.1.2⟩)⟩, ⟨by (with_reducible repeat (first | apply Kd.R_alloc | apply Kd.b1z | apply Kd.b3z)); exact Kd.c6z (Kd.R_far (p := ⟨gb116, 2, none⟩) (Kd.R_far (p := ⟨gb116, 1, none⟩) (Kd.R_far (p := ⟨gb116, 0, none⟩) (Kd.h1z HO115.1 BK116.1 (by decide)) (fun _ hk => hk.2) (.slice Ao10 t107.length co10)) (fun _ hk => hk.2) (.slice Ao12 t110.length co12)) (fun _ hk => hk.2) (.slice Ao13 t113.length co13)) (fun _ hk => ⟨hk.1.1, hk.1.2⟩)⟩, ⟨by (with_reducible repeat (first | refine a7z ?_ _ | refine a8z ?_ | refine blk_alloc ?_ _)); refine d0z (cs := #[.slice Ao10 t107.length co10, .slice Ao12 t110.length co12, .slice none 0 0]) ?_ 2 _ rfl; (with_reducible repeat (first | refine a7z ?_ _ | refine a8z ?_ | refine blk_alloc ?_ _)); refine d0z (cs := #[.slice Ao10 t107.length co10, .slice none 0 0, .slice none 0 0]) ?_ 1 _ rfl; (with_reducible repeat (first | refine a7z ?_ _ | refine a8z ?_ | refine blk_alloc ?_ _)); refine d0z (cs := #[.slice none 0 0, .slice none 0 0, .slice none 0 0]) ?_ 0 _ rfl; (with_reducible repeat (first | refine a7z ?_ _ | refine a8z ?_ | refine blk_alloc ?_ _)); exact BK116.1⟩, ⟨by repeat (first | (with_reducible first | exact HB.1 | apply a5z | apply a2z | apply a4z | refine a9z ?_ GE116.1) | exact HB.1)⟩⟩
 case round =>
  clear H'
  try clear c1
  try clear p2
  try clear c10
  try clear c12
  try clear hcz11_0
  try clear hcz11_1
  try clear hcz11_2
  try clear hfz11_0
  try clear hfz11_1
  try clear hfz11_2
  obtain ⟨x3_1, x5_1, rfl, HA, HK1, HO_3, HO_117000, HO_117001, HO_117002, BK116, HB⟩ := hrel
  cases gk with
  | zero => exact absurd HA.1 (by simp [spec_l5Cells.l0])
  | succ k1 =>
   have H := HA.1
   clear HA
   simp only [spec_l5Cells.l0] at H
   by_cases c14 : x5_1 < (t107.length : Int)
   ·rw [if_pos c14] at H
    have c14b0 : decide (x5_1 < (t107.length : Int)) = true := decide_eq_true c14
    clear c14
    have H' := a1z.mk H
    clear H
    have hcz15_0 : wr.cell? ⟨gb116, 0, none⟩ = some (.slice Ao10 t107.length co10) := (a0z BK116.1 0).trans rfl
    have hcz15_1 : wr.cell? ⟨gb116, 1, none⟩ = some (.slice Ao12 t110.length co12) := (a0z BK116.1 1).trans rfl
    have hcz15_2 : wr.cell? ⟨gb116, 2, none⟩ = some (.slice Ao13 t113.length co13) := (a0z BK116.1 2).trans rfl
    have hfz15_0 := a3z BK116.1 0
    have hfz15_1 := a3z BK116.1 1
    have hfz15_2 := a3z BK116.1 2
    go_wp2
    go_loopg [3, 6] k1 (fun kq v3 v6 w' => ∃ (x3_2 : List (S67)) (x6_2 : Int), v6 = .int .i64 x6_2 ∧ a1z (spec_l5Cells.l1 kq l0 x3_2 x5_1 x6_2 t107 t110 t113 = some r) ∧ a1z (kq ≤ k1) ∧ a1z (Kd.R k67 67 w' w.heap.size (fun _ => True) v3 x3_2) ∧ a1z (Kd.R (Kd.int .i64) 3 w' w.heap.size (fun k_ => some k_ ≠ ((.slice Ao12 t110.length co12) : Value).ownBlock ∧ some k_ ≠ ((.slice Ao13 t113.length co13) : Value).ownBlock) (.slice Ao10 t107.length co10) t107) ∧ a1z (Kd.R (Kd.int .i64) 3 w' w.heap.size (fun k_ => some k_ ≠ ((.slice Ao10 t107.length co10) : Value).ownBlock ∧ some k_ ≠ ((.slice Ao13 t113.length co13) : Value).ownBlock) (.slice Ao12 t110.length co12) t110) ∧ a1z (Kd.R (Kd.int .i64) 3 w' w.heap.size (fun k_ => some k_ ≠ ((.slice Ao10 t107.length co10) : Value).ownBlock ∧ some k_ ≠ ((.slice Ao12 t110.length co12) : Value).ownBlock) (.slice Ao13 t113.length co13) t113) ∧ a1z (w'.heap[gb116]? = some (.cells #[(.slice Ao10 t107.length co10), (.slice Ao12 t110.length co12), (.slice Ao13 t113.length co13)] 146 (0, 0))) ∧ a1z (Below w.heap.size w w'))
    case atStart => exact ⟨(x3_1), (0), (by first | rfl | (simp; done) | (simp [*]; done)), H', ⟨Nat.le_refl _⟩, ⟨by (with_reducible repeat (first | apply Kd.R_alloc | apply Kd.b1z | apply Kd.b3z)); exact HO_3.1⟩, ⟨by (with_reducible repeat (first | apply Kd.R_alloc | apply Kd.b1z | apply Kd.b3z)); exact HO_117000.1⟩, ⟨by (with_reducible repeat (first | apply Kd.R_alloc | apply Kd.b1z | apply Kd.b3z)); exact HO_117001.1⟩, ⟨by (with_reducible repeat (first | apply Kd.R_alloc | apply Kd.b1z | apply Kd.b3z)); exact HO_117002.1⟩, ⟨by (with_reducible repeat (first | refine a7z ?_ _ | refine a8z ?_ | refine blk_alloc ?_ _)); exact BK116.1⟩, ⟨by repeat (first | (with_reducible first | exact HB.1 | apply a5z | apply a2z | apply a4z | refine a9z ?_ GE116.1) | exact HB.1)⟩⟩
    case round =>
     clear H'
     try clear c1
     try clear p2
     try clear c10
     try clear c12
     try clear c14
     try clear c14b0
     try clear hcz11_0
     try clear hcz11_1
     try clear hcz11_2
     try clear hcz15_0
     try clear hcz15_1
     try clear hcz15_2
     try clear hfz11_0
     try clear hfz11_1
     try clear hfz11_2
     try clear hfz15_0
     try clear hfz15_1
     try clear hfz15_2
     try clear p2
     obtain ⟨x3_2, x6_2, rfl, HA, HK2, HO_3, HO_117000, HO_117001, HO_117002, BK116, HB⟩ := hrel
     cases gk with
     | zero => exact absurd HA.1 (by simp [spec_l5Cells.l1])
     | succ k2 =>
      have H := HA.1
      clear HA
      simp only [spec_l5Cells.l1] at H
      by_cases c16 : x6_2 < (t110.length : Int)
      ·rw [if_pos c16] at H
       have c16b0 : decide (x6_2 < (t110.length : Int)) = true := decide_eq_true c16
       clear c16
       have H' := a1z.mk H
       clear H
       have hcz17_0 : wr.cell? ⟨gb116, 0, none⟩ = some (.slice Ao10 t107.length co10) := (a0z BK116.1 0).trans rfl
       have hcz17_1 : wr.cell? ⟨gb116, 1, none⟩ = some (.slice Ao12 t110.length co12) := (a0z BK116.1 1).trans rfl
       have hcz17_2 : wr.cell? ⟨gb116, 2, none⟩ = some (.slice Ao13 t113.length co13) := (a0z BK116.1 2).trans rfl
       have hfz17_0 := a3z BK116.1 0
       have hfz17_1 := a3z BK116.1 1
       have hfz17_2 := a3z BK116.1 2
       go_wp2
       go_loopg [3, 7] k2 (fun kq v3 v7 w' => ∃ (x3_3 : List (S67)) (x7_3 : Int), v7 = .int .i64 x7_3 ∧ a1z (spec_l5Cells.l2 kq l0 x3_3 x5_1 x6_2 x7_3 t107 t110 t113 = some r) ∧ a1z (kq ≤ k2) ∧ a1z (Kd.R k67 67 w' w.heap.size (fun _ => True) v3 x3_3) ∧ a1z (Kd.R (Kd.int .i64) 3 w' w.heap.size (fun k_ => some k_ ≠ ((.slice Ao12 t110.length co12) : Value).ownBlock ∧ some k_ ≠ ((.slice Ao13 t113.length co13) : Value).ownBlock) (.slice Ao10 t107.length co10) t107) ∧ a1z (Kd.R (Kd.int .i64) 3 w' w.heap.size (fun k_ => some k_ ≠ ((.slice Ao10 t107.length co10) : Value).ownBlock ∧ some k_ ≠ ((.slice Ao13 t113.length co13) : Value).ownBlock) (.slice Ao12 t110.length co12) t110) ∧ a1z (Kd.R (Kd.int .i64) 3 w' w.heap.size (fun k_ => some k_ ≠ ((.slice Ao10 t107.length co10) : Value).ownBlock ∧ some k_ ≠ ((.slice Ao12 t110.length co12) : Value).ownBlock) (.slice Ao13 t113.length co13) t113) ∧ a1z (w'.heap[gb116]? = some (.cells #[(.slice Ao10 t107.length co10), (.slice Ao12 t110.length co12), (.slice Ao13 t113.length co13)] 146 (0, 0))) ∧ a1z (Below w.heap.size w w'))
       case atStart => exact ⟨(x3_2), (0), (by first | rfl | (simp; done) | (simp [*]; done)), H', ⟨Nat.le_refl _⟩, ⟨by (with_reducible repeat (first | apply Kd.R_alloc | apply Kd.b1z | apply Kd.b3z)); exact HO_3.1⟩, ⟨by (with_reducible repeat (first | apply Kd.R_alloc | apply Kd.b1z | apply Kd.b3z)); exact HO_117000.1⟩, ⟨by (with_reducible repeat (first | apply Kd.R_alloc | apply Kd.b1z | apply Kd.b3z)); exact HO_117001.1⟩, ⟨by (with_reducible repeat (first | apply Kd.R_alloc | apply Kd.b1z | apply Kd.b3z)); exact HO_117002.1⟩, ⟨by (with_reducible repeat (first | refine a7z ?_ _ | refine a8z ?_ | refine blk_alloc ?_ _)); exact BK116.1⟩, ⟨by repeat (first | (with_reducible first | exact HB.1 | apply a5z | apply a2z | apply a4z | refine a9z ?_ GE116.1) | exact HB.1)⟩⟩
       case round =>
        clear H'
        try clear c1
        try clear p2
        try clear c10
        try clear c12
        try clear c14
        try clear c14b0
        try clear c16
        try clear c16b0
        try clear hcz11_0
        try clear hcz11_1
        try clear hcz11_2
        try clear hcz15_0
        try clear hcz15_1
        try clear hcz15_2
        try clear hcz17_0
        try clear hcz17_1
        try clear hcz17_2
        try clear hfz11_0
        try clear hfz11_1
        try clear hfz11_2
        try clear hfz15_0
        try clear hfz15_1
        try clear hfz15_2
        try clear hfz17_0
        try clear hfz17_1
        try clear hfz17_2
        try clear p2
        obtain ⟨x3_3, x7_3, rfl, HA, HK3, HO_3, HO_117000, HO_117001, HO_117002, BK116, HB⟩ := hrel
        cases gk with
        | zero => exact absurd HA.1 (by simp [spec_l5Cells.l2])
        | succ k3 =>
         have H := HA.1
         clear HA
         simp only [spec_l5Cells.l2] at H
         by_cases c18 : x7_3 < (t113.length : Int)
         ·rw [if_pos c18] at H
          have c18b0 : decide (x7_3 < (t113.length : Int)) = true := decide_eq_true c18
          clear c18
          by_cases c19 : 0 ≤ x5_1
          ·rw [if_pos c19] at H
           have c19b0 : decide (0 ≤ x5_1) = true := decide_eq_true c19
           clear c19
           by_cases c20 : x5_1 < (t107.length : Int)
           ·rw [if_pos c20] at H
            have c20b0 : decide (x5_1 < (t107.length : Int)) = true := decide_eq_true c20
            clear c20
            by_cases c21 : 0 ≤ x6_2
            ·rw [if_pos c21] at H
             have c21b0 : decide (0 ≤ x6_2) = true := decide_eq_true c21
             clear c21
             by_cases c22 : x6_2 < (t110.length : Int)
             ·rw [if_pos c22] at H
              have c22b0 : decide (x6_2 < (t110.length : Int)) = true := decide_eq_true c22
              clear c22
              by_cases c23 : 0 ≤ x7_3
              ·rw [if_pos c23] at H
               have c23b0 : decide (0 ≤ x7_3) = true := decide_eq_true c23
               clear c23
               replace H := Option.bind_eq_some_iff.mp H
               obtain ⟨t120, A240, H⟩ := H
               replace H : (if t120 ≥ 0 then ((spec_l5To.f t107 x5_1 4294967295).bind fun t122 => ((spec_l5To.f t110 x6_2 4294967295).bind fun t124 => ((spec_l5To.f t113 x7_3 65535).bind fun t126 => ((spec_l5Join.f x3_3 (rd t107 x5_1) t122 (rd t110 x6_2) t124 (rd t113 x7_3) t126 t120).bind fun t127 => (spec_l5Cells.l2 k3 l0 t127 x5_1 x6_2 (wrap64 (x7_3 + 1)) t107 t110 t113))))) else (spec_l5Cells.l2 k3 l0 x3_3 x5_1 x6_2 (wrap64 (x7_3 + 1)) t107 t110 t113)) = some r := H
               have A24 := a1z.mk A240
               clear A240
               by_cases c25 : t120 ≥ 0
               ·rw [if_pos c25] at H
                have c25b0 : decide (0 ≤ t120) = true := decide_eq_true c25
                clear c25
                replace H := Option.bind_eq_some_iff.mp H
                obtain ⟨t122, A260, H⟩ := H
                replace H : ((spec_l5To.f t110 x6_2 4294967295).bind fun t124 => ((spec_l5To.f t113 x7_3 65535).bind fun t126 => ((spec_l5Join.f x3_3 (rd t107 x5_1) t122 (rd t110 x6_2) t124 (rd t113 x7_3) t126 t120).bind fun t127 => (spec_l5Cells.l2 k3 l0 t127 x5_1 x6_2 (wrap64 (x7_3 + 1)) t107 t110 t113)))) = some r := H
                have A26 := a1z.mk A260
                clear A260
                replace H := Option.bind_eq_some_iff.mp H
                obtain ⟨t124, A270, H⟩ := H
                replace H : ((spec_l5To.f t113 x7_3 65535).bind fun t126 => ((spec_l5Join.f x3_3 (rd t107 x5_1) t122 (rd t110 x6_2) t124 (rd t113 x7_3) t126 t120).bind fun t127 => (spec_l5Cells.l2 k3 l0 t127 x5_1 x6_2 (wrap64 (x7_3 + 1)) t107 t110 t113))) = some r := H
                have A27 := a1z.mk A270
                clear A270
                replace H := Option.bind_eq_some_iff.mp H
                obtain ⟨t126, A280, H⟩ := H
                replace H : ((spec_l5Join.f x3_3 (rd t107 x5_1) t122 (rd t110 x6_2) t124 (rd t113 x7_3) t126 t120).bind fun t127 => (spec_l5Cells.l2 k3 l0 t127 x5_1 x6_2 (wrap64 (x7_3 + 1)) t107 t110 t113)) = some r := H
                have A28 := a1z.mk A280
                clear A280
                replace H := Option.bind_eq_some_iff.mp H
                obtain ⟨t127, A290, H⟩ := H
                replace H : (spec_l5Cells.l2 k3 l0 t127 x5_1 x6_2 (wrap64 (x7_3 + 1)) t107 t110 t113) = some r := H
                have A29 := a1z.mk A290
                clear A290
                have H' := a1z.mk H
                clear H
                have hcz30_0 : wr.cell? ⟨gb116, 0, none⟩ = some (.slice Ao10 t107.length co10) := (a0z BK116.1 0).trans rfl
                have hcz30_1 : wr.cell? ⟨gb116, 1, none⟩ = some (.slice Ao12 t110.length co12) := (a0z BK116.1 1).trans rfl
                have hcz30_2 : wr.cell? ⟨gb116, 2, none⟩ = some (.slice Ao13 t113.length co13) := (a0z BK116.1 2).trans rfl
                have hfz30_0 := a3z BK116.1 0
                have hfz30_1 := a3z BK116.1 1
                have hfz30_2 := a3z BK116.1 2
                try go_wp2
                have n0_ := a1z.mk (Kd.b3z HO_3.1)
                have n1_ := a1z.mk (Kd.b3z HO_117000.1)
                have n2_ := a1z.mk (Kd.b3z HO_117001.1)
                have n3_ := a1z.mk (Kd.b3z HO_117002.1)
                have n4_ := a1z.mk (a8z BK116.1)
                have n5_ := a1z.mk (a4z HB.1)
                clear HO_3
                clear HO_117000
                clear HO_117001
                clear HO_117002
                clear BK116
                clear HB
                have HO_3 := n0_
                have HO_117000 := n1_
                have HO_117001 := n2_
                have HO_117002 := n3_
                have BK116 := n4_
                have HB := n5_
                clear n0_ n1_ n2_ n3_ n4_ n5_
                have p117 : 0 ≤ (x5_1 : Int) := of_decide_eq_true (by first | (with_reducible assumption) | assumption)
                have q117 : x5_1 < (t107.length : Int) := of_decide_eq_true (by first | (with_reducible assumption) | assumption)
                obtain ⟨ad117, e117, hx117_0⟩ := Kd.g9z (Kd.b9z HO_117000.1).2.2 x5_1 p117 q117
                cases e117
                replace p117 := eq_true p117
                replace q117 := eq_true q117
                have p118 : 0 ≤ (x6_2 : Int) := of_decide_eq_true (by first | (with_reducible assumption) | assumption)
                have q118 : x6_2 < (t110.length : Int) := of_decide_eq_true (by first | (with_reducible assumption) | assumption)
                obtain ⟨ad118, e118, hx118_0⟩ := Kd.g9z (Kd.b9z HO_117001.1).2.2 x6_2 p118 q118
                cases e118
                replace p118 := eq_true p118
                replace q118 := eq_true q118
                have p119 : 0 ≤ (x7_3 : Int) := of_decide_eq_true (by first | (with_reducible assumption) | assumption)
                have q119 : x7_3 < (t113.length : Int) := of_decide_eq_true (by first | (with_reducible assumption) | assumption)
                obtain ⟨ad119, e119, hx119_0⟩ := Kd.g9z (Kd.b9z HO_117002.1).2.2 x7_3 p119 q119
                cases e119
                replace p119 := eq_true p119
                replace q119 := eq_true q119
                refine h9z (n := 19) (S := fun w' => w'.cell? ⟨gb116, 0, none⟩ = some (.slice (some ad117) t107.length co10) ∧ w'.cell? ⟨gb116, 1, none⟩ = some (.slice (some ad118) t110.length co12) ∧ w'.cell? ⟨gb116, 2, none⟩ = some (.slice (some ad119) t113.length co13) ∧ w'.cell? (ad117.add (x5_1).toNat) = some (.int .i64 (rd t107 x5_1)) ∧ w'.cell? (ad118.add (x6_2).toNat) = some (.int .i64 (rd t110 x6_2)) ∧ w'.cell? (ad119.add (x7_3).toNat) = some (.int .i64 (rd t113 x7_3))) (ds := []) #[false, false, false, false, false, false, false, false, false, false, false, false, false, false, false, false, false, false, false] (by kernel_rfl) rfl rfl ⟨(a0z BK116.1 0).trans rfl, (a0z BK116.1 1).trans rfl, (a0z BK116.1 2).trans rfl, hx117_0, hx118_0, hx119_0⟩ (fun hHeld => ?_); refine g7z spec_l5Cells.tab12 spec_l5Cells.bits12 (fun HT_ HW_ => ?_)
                generalize wr.drew = w31 at HO_3 HO_117000 HO_117001 HO_117002 BK116 HB hx117_0 hx118_0 hx119_0 hHeld ⊢
                refine pure_ (i := 0) (N := some 34) (v := ?_) (a' := ?_) #[true, false, false, false, false, false, false, false, false, false, false, false, false, false, false, false, false, false, false] rfl rfl (c9z HT_.1 (by kernel_rfl)) (fun _ _ _ h => h) (Or.inl ⟨by rfl, ?_⟩) ?_ ?_
                rotate_left
                ·intro w'
                 go_simp
                 with_reducible rfl
                rotate_left
                ·simp only [Act.put, sA_, sZ_, sS_, i64_w, i32_w]
                 rfl
                refine pure_ (i := 1) (N := some 35) (v := ?_) (a' := ?_) #[true, true, false, false, false, false, false, false, false, false, false, false, false, false, false, false, false, false, false] rfl rfl (c9z HT_.1 (by kernel_rfl)) (fun _ _ _ h => h) (Or.inl ⟨by rfl, ?_⟩) ?_ ?_
                rotate_left
                ·intro w'
                 go_simp
                 with_reducible rfl
                rotate_left
                ·simp only [Act.put, sA_, sZ_, sS_, i64_w, i32_w]
                 rfl
                refine pure_ (i := 3) (N := some 37) (v := ?_) (a' := ?_) #[true, true, false, true, false, false, false, false, false, false, false, false, false, false, false, false, false, false, false] rfl rfl (c9z HT_.1 (by kernel_rfl)) (fun _ _ _ h => h) (Or.inl ⟨by rfl, ?_⟩) ?_ ?_
                rotate_left
                ·intro w'
                 go_simp
                 with_reducible rfl
                rotate_left
                ·simp only [Act.put, sA_, sZ_, sS_, i64_w, i32_w]
                 rfl
                refine pure_ (i := 6) (N := some 40) (v := ?_) (a' := ?_) #[true, true, false, true, false, false, true, false, false, false, false, false, false, false, false, false, false, false, false] rfl rfl (c9z HT_.1 (by kernel_rfl)) (fun _ _ _ h => h) (Or.inl ⟨by rfl, ?_⟩) ?_ ?_
                rotate_left
                ·intro w'
                 go_simp
                 with_reducible rfl
                rotate_left
                ·simp only [Act.put, sA_, sZ_, sS_, i64_w, i32_w]
                 rfl
                refine pure_ (i := 8) (N := some 42) (v := ?_) (a' := ?_) #[true, true, false, true, false, false, true, false, true, false, false, false, false, false, false, false, false, false, false] rfl rfl (c9z HT_.1 (by kernel_rfl)) (fun _ _ _ h => h) (Or.inl ⟨by rfl, ?_⟩) ?_ ?_
                rotate_left
                ·intro w'
                 go_simp
                 with_reducible rfl
                rotate_left
                ·simp only [Act.put, sA_, sZ_, sS_, i64_w, i32_w]
                 rfl
                refine pure_ (i := 11) (N := some 45) (v := ?_) (a' := ?_) #[true, true, false, true, false, false, true, false, true, false, false, true, false, false, false, false, false, false, false] rfl rfl (c9z HT_.1 (by kernel_rfl)) (fun _ _ _ h => h) (Or.inl ⟨by rfl, ?_⟩) ?_ ?_
                rotate_left
                ·intro w'
                 go_simp
                 with_reducible rfl
                rotate_left
                ·simp only [Act.put, sA_, sZ_, sS_, i64_w, i32_w]
                 rfl
                refine pure_ (i := 13) (N := some 47) (v := ?_) (a' := ?_) #[true, true, false, true, false, false, true, false, true, false, false, true, false, true, false, false, false, false, false] rfl rfl (c9z HT_.1 (by kernel_rfl)) (fun _ _ _ h => h) (Or.inl ⟨by rfl, ?_⟩) ?_ ?_
                rotate_left
                ·intro w'
                 go_simp
                 with_reducible rfl
                rotate_left
                ·simp only [Act.put, sA_, sZ_, sS_, i64_w, i32_w]
                 rfl
                refine take_ (i := 2) (N := some 36) (v := ?_) (a' := ?_) #[true, true, true, true, false, false, true, false, true, false, false, true, false, true, false, false, false, false, false] rfl rfl (d8z HT_.1 HW_.1 (by kernel_rfl)) (fun _ _ _ h => h) (Or.inl ⟨by rfl, ?_⟩) hHeld ?_ ?_
                rotate_left
                ·rintro w' ⟨s0, s1, s2, s3, s4, s5⟩
                 go_simp
                 with_reducible rfl
                rotate_left
                ·simp only [Act.put, sA_, sZ_, sS_, i64_w, i32_w]
                 rfl
                refine pure_ (i := 4) (N := some 38) (v := ?_) (a' := ?_) #[true, true, true, true, true, false, true, false, true, false, false, true, false, true, false, false, false, false, false] rfl rfl (c9z HT_.1 (by kernel_rfl)) (fun _ _ _ h => h) (Or.inl ⟨by rfl, ?_⟩) ?_ ?_
                rotate_left
                ·intro w'
                 go_simp
                 with_reducible rfl
                rotate_left
                ·simp only [Act.put, sA_, sZ_, sS_, i64_w, i32_w]
                 rfl
                refine take_ (i := 5) (N := some 39) (v := ?_) (a' := ?_) #[true, true, true, true, true, true, true, false, true, false, false, true, false, true, false, false, false, false, false] rfl rfl (d8z HT_.1 HW_.1 (by kernel_rfl)) (fun _ _ _ h => h) (Or.inl ⟨by rfl, ?_⟩) hHeld ?_ ?_
                rotate_left
                ·rintro w' ⟨s0, s1, s2, s3, s4, s5⟩
                 go_simp
                 with_reducible rfl
                rotate_left
                ·simp only [Act.put, sA_, sZ_, sS_, i64_w, i32_w]
                 rfl
                refine take_ (i := 7) (N := some 41) (v := ?_) (a' := ?_) #[true, true, true, true, true, true, true, true, true, false, false, true, false, true, false, false, false, false, false] rfl rfl (d8z HT_.1 HW_.1 (by kernel_rfl)) (fun _ _ _ h => h) (Or.inl ⟨by rfl, ?_⟩) hHeld ?_ ?_
                rotate_left
                ·rintro w' ⟨s0, s1, s2, s3, s4, s5⟩
                 go_simp
                 with_reducible rfl
                rotate_left
                ·simp only [Act.put, sA_, sZ_, sS_, i64_w, i32_w]
                 rfl
                refine pure_ (i := 9) (N := some 43) (v := ?_) (a' := ?_) #[true, true, true, true, true, true, true, true, true, true, false, true, false, true, false, false, false, false, false] rfl rfl (c9z HT_.1 (by kernel_rfl)) (fun _ _ _ h => h) (Or.inl ⟨by rfl, ?_⟩) ?_ ?_
                rotate_left
                ·intro w'
                 go_simp
                 with_reducible rfl
                rotate_left
                ·simp only [Act.put, sA_, sZ_, sS_, i64_w, i32_w]
                 rfl
                refine take_ (i := 10) (N := some 44) (v := ?_) (a' := ?_) #[true, true, true, true, true, true, true, true, true, true, true, true, false, true, false, false, false, false, false] rfl rfl (d8z HT_.1 HW_.1 (by kernel_rfl)) (fun _ _ _ h => h) (Or.inl ⟨by rfl, ?_⟩) hHeld ?_ ?_
                rotate_left
                ·rintro w' ⟨s0, s1, s2, s3, s4, s5⟩
                 go_simp
                 with_reducible rfl
                rotate_left
                ·simp only [Act.put, sA_, sZ_, sS_, i64_w, i32_w]
                 rfl
                refine take_ (i := 12) (N := some 46) (v := ?_) (a' := ?_) #[true, true, true, true, true, true, true, true, true, true, true, true, true, true, false, false, false, false, false] rfl rfl (d8z HT_.1 HW_.1 (by kernel_rfl)) (fun _ _ _ h => h) (Or.inl ⟨by rfl, ?_⟩) hHeld ?_ ?_
                rotate_left
                ·rintro w' ⟨s0, s1, s2, s3, s4, s5⟩
                 go_simp
                 with_reducible rfl
                rotate_left
                ·simp only [Act.put, sA_, sZ_, sS_, i64_w, i32_w]
                 rfl
                refine pure_ (i := 14) (N := some 48) (v := ?_) (a' := ?_) #[true, true, true, true, true, true, true, true, true, true, true, true, true, true, true, false, false, false, false] rfl rfl (c9z HT_.1 (by kernel_rfl)) (fun _ _ _ h => h) (Or.inl ⟨by rfl, ?_⟩) ?_ ?_
                rotate_left
                ·intro w'
                 go_simp
                 with_reducible rfl
                rotate_left
                ·simp only [Act.put, sA_, sZ_, sS_, i64_w, i32_w]
                 rfl
                refine take_ (i := 15) (N := some 49) (v := ?_) (a' := ?_) #[true, true, true, true, true, true, true, true, true, true, true, true, true, true, true, true, false, false, false] rfl rfl (d8z HT_.1 HW_.1 (by kernel_rfl)) (fun _ _ _ h => h) (Or.inl ⟨by rfl, ?_⟩) hHeld ?_ ?_
                rotate_left
                ·rintro w' ⟨s0, s1, s2, s3, s4, s5⟩
                 go_simp
                 with_reducible rfl
                rotate_left
                ·simp only [Act.put, sA_, sZ_, sS_, i64_w, i32_w]
                 rfl
                refine pure_ (i := 16) (N := some 50) (v := ?_) (a' := ?_) #[true, true, true, true, true, true, true, true, true, true, true, true, true, true, true, true, true, false, false] rfl rfl (c9z HT_.1 (by kernel_rfl)) (fun _ _ _ h => h) (Or.inl ⟨by rfl, ?_⟩) ?_ ?_
                rotate_left
                ·intro w'
                 go_simp
                 with_reducible rfl
                rotate_left
                ·simp only [Act.put, sA_, sZ_, sS_, i64_w, i32_w]
                 rfl
                refine one_ (i := 17) (N := some 51) #[true, true, true, true, true, true, true, true, true, true, true, true, true, true, true, true, true, true, false] rfl rfl (f1z HT_.1 (by kernel_rfl)) (by decide) (fun K hK => ?_)
                refine goes_ Try.func121 (by kernel_rfl) rfl #[.slice A0 l0.length c0, .agg #[.int .i64 (rd t107 x5_1), .int .i64 (rd t110 x6_2), .int .i64 (rd t113 x7_3)]] (by rfl) rfl rfl (by (try simp only [List.map_toArray, List.map_cons, List.map_nil]); first | done | rfl | (simp only [List.length_drop, List.length_take]; rfl)) ?_
                with_reducible refine (spec_l4First.calls k3 _ _ l0 (rd t107 x5_1) (rd t110 x6_2) (rd t113 x7_3) t120 _ ?side1 ?side2 A24.1).mono ?_
                (case side1 => repeat (first | exact (Kd.g1z HR0.1 HB.1) | (with_reducible refine Kd.C_alloc ?_ _) | (with_reducible refine Kd.C_drewN ?_ _) | (with_reducible refine Kd.C_drew ?_)))
                (case side2 => exact HC0.1)
                rintro e w32 ⟨rfl, hb⟩
                have HS3_ := (hb.cell (World.block_lt_of_cell? _ _ (hHeld.2.2.2.1))).trans (hHeld.2.2.2.1)
                have HS4_ := (hb.cell (World.block_lt_of_cell? _ _ (hHeld.2.2.2.2.1))).trans (hHeld.2.2.2.2.1)
                have HS5_ := (hb.cell (World.block_lt_of_cell? _ _ (hHeld.2.2.2.2.2))).trans (hHeld.2.2.2.2.2)
                refine ⟨_, rfl, ?_⟩
                have n0_ := a1z.mk (Kd.d7z (by (with_reducible repeat (first | apply Kd.R_alloc | apply Kd.b1z | apply Kd.b3z)); exact HO_3.1) hb)
                have n1_ := a1z.mk (Kd.d7z (by (with_reducible repeat (first | apply Kd.R_alloc | apply Kd.b1z | apply Kd.b3z)); exact HO_117000.1) hb)
                have n2_ := a1z.mk (Kd.d7z (by (with_reducible repeat (first | apply Kd.R_alloc | apply Kd.b1z | apply Kd.b3z)); exact HO_117001.1) hb)
                have n3_ := a1z.mk (Kd.d7z (by (with_reducible repeat (first | apply Kd.R_alloc | apply Kd.b1z | apply Kd.b3z)); exact HO_117002.1) hb)
                have n4_ := a1z.mk (c4z (g := gb116) (o := .cells #[.slice (some ad117) t107.length co10, .slice (some ad118) t110.length co12, .slice (some ad119) t113.length co13] 146 (0, 0)) (by (with_reducible repeat (first | refine a7z ?_ _ | refine a8z ?_ | refine blk_alloc ?_ _)); exact BK116.1) hb)
                have n5_ := a1z.mk (b7z (by repeat (first | (with_reducible first | exact HB.1 | apply a5z | apply a2z | apply a4z | refine a9z ?_ GE116.1) | exact HB.1)) hb)
                clear HO_3
                clear HO_117000
                clear HO_117001
                clear HO_117002
                clear BK116
                clear HB
                have HO_3 := n0_
                have HO_117000 := n1_
                have HO_117001 := n2_
                have HO_117002 := n3_
                have BK116 := n4_
                have HB := n5_
                clear n0_ n1_ n2_ n3_ n4_ n5_
                (try clear hb)
                (try clear hb2)
                (try clear hk)
                (try clear hi)
                refine hK.out _ _ ⟨(a0z BK116.1 0).trans rfl, (a0z BK116.1 1).trans rfl, (a0z BK116.1 2).trans rfl, HS3_, HS4_, HS5_⟩ (fun hHeld => ?_)
                clear hK K
                refine norm_ (a' := ?_) ?_ ?_
                rotate_left
                ·show Act.put _ (some 51) _ = _
                 simp only [Act.put, sA_, sZ_, sS_, i64_w, i32_w]
                 rfl
                refine pure_ (i := 18) (N := some 8) (v := ?_) (a' := ?_) #[true, true, true, true, true, true, true, true, true, true, true, true, true, true, true, true, true, true, true] rfl rfl (c9z HT_.1 (by kernel_rfl)) (fun _ _ _ h => h) (Or.inl ⟨by rfl, ?_⟩) ?_ ?_
                rotate_left
                ·intro w'
                 go_simp
                 with_reducible rfl
                rotate_left
                ·simp only [Act.put, sA_, sZ_, sS_, i64_w, i32_w]
                 rfl
                refine done_ (h7z HT_.1 (by kernel_rfl)) ?_
                try go_wp2
                have n0_ := a1z.mk (Kd.b3z HO_3.1)
                have n1_ := a1z.mk (Kd.b3z HO_117000.1)
                have n2_ := a1z.mk (Kd.b3z HO_117001.1)
                have n3_ := a1z.mk (Kd.b3z HO_117002.1)
                have n4_ := a1z.mk (a8z BK116.1)
                have n5_ := a1z.mk (a4z HB.1)
                clear HO_3
                clear HO_117000
                clear HO_117001
                clear HO_117002
                clear BK116
                clear HB
                have HO_3 := n0_
                have HO_117000 := n1_
                have HO_117001 := n2_
                have HO_117002 := n3_
                have BK116 := n4_
                have HB := n5_
                clear n0_ n1_ n2_ n3_ n4_ n5_
                have p121 : 0 ≤ (x5_1 : Int) := of_decide_eq_true (by first | (with_reducible assumption) | assumption)
                have q121 : x5_1 < (t107.length : Int) := of_decide_eq_true (by first | (with_reducible assumption) | assumption)
                obtain ⟨ad121, e121, hx121_0⟩ := Kd.g9z (Kd.b9z HO_117000.1).2.2 x5_1 p121 q121
                obtain rfl : ad117 = ad121 := (by injection e121)
                replace p121 := eq_true p121
                replace q121 := eq_true q121
                have p123 : 0 ≤ (x6_2 : Int) := of_decide_eq_true (by first | (with_reducible assumption) | assumption)
                have q123 : x6_2 < (t110.length : Int) := of_decide_eq_true (by first | (with_reducible assumption) | assumption)
                obtain ⟨ad123, e123, hx123_0⟩ := Kd.g9z (Kd.b9z HO_117001.1).2.2 x6_2 p123 q123
                obtain rfl : ad118 = ad123 := (by injection e123)
                replace p123 := eq_true p123
                replace q123 := eq_true q123
                have p125 : 0 ≤ (x7_3 : Int) := of_decide_eq_true (by first | (with_reducible assumption) | assumption)
                have q125 : x7_3 < (t113.length : Int) := of_decide_eq_true (by first | (with_reducible assumption) | assumption)
                obtain ⟨ad125, e125, hx125_0⟩ := Kd.g9z (Kd.b9z HO_117002.1).2.2 x7_3 p125 q125
                obtain rfl : ad119 = ad125 := (by injection e125)
                replace p125 := eq_true p125
                replace q125 := eq_true q125
                refine h9z (n := 32) (S := fun w' => w'.cell? ⟨gb116, 0, none⟩ = some (.slice (some ad117) t107.length co10) ∧ w'.cell? ⟨gb116, 1, none⟩ = some (.slice (some ad118) t110.length co12) ∧ w'.cell? ⟨gb116, 2, none⟩ = some (.slice (some ad119) t113.length co13) ∧ w'.cell? (ad117.add (x5_1).toNat) = some (.int .i64 (rd t107 x5_1)) ∧ w'.cell? (ad118.add (x6_2).toNat) = some (.int .i64 (rd t110 x6_2)) ∧ w'.cell? (ad119.add (x7_3).toNat) = some (.int .i64 (rd t113 x7_3))) (ds := []) #[false, false, false, false, false, false, false, false, false, false, false, false, false, false, false, false, false, false, false, false, false, false, false, false, false, false, false, false, false, false, false, false] (by kernel_rfl) rfl rfl ⟨(a0z BK116.1 0).trans rfl, (a0z BK116.1 1).trans rfl, (a0z BK116.1 2).trans rfl, hx121_0, hx123_0, hx125_0⟩ (fun hHeld => ?_); refine g7z spec_l5Cells.tab14 spec_l5Cells.bits14 (fun HT_ HW_ => ?_)
                generalize w32.drew = w33 at HO_3 HO_117000 HO_117001 HO_117002 BK116 HB hx121_0 hx123_0 hx125_0 hHeld ⊢
                refine pure_ (i := 0) (N := some 54) (v := ?_) (a' := ?_) #[true, false, false, false, false, false, false, false, false, false, false, false, false, false, false, false, false, false, false, false, false, false, false, false, false, false, false, false, false, false, false, false] rfl rfl (c9z HT_.1 (by kernel_rfl)) (fun _ _ _ h => h) (Or.inl ⟨by rfl, ?_⟩) ?_ ?_
                rotate_left
                ·intro w'
                 go_simp
                 with_reducible rfl
                rotate_left
                ·simp only [Act.put, sA_, sZ_, sS_, i64_w, i32_w]
                 rfl
                refine pure_ (i := 1) (N := some 55) (v := ?_) (a' := ?_) #[true, true, false, false, false, false, false, false, false, false, false, false, false, false, false, false, false, false, false, false, false, false, false, false, false, false, false, false, false, false, false, false] rfl rfl (c9z HT_.1 (by kernel_rfl)) (fun _ _ _ h => h) (Or.inl ⟨by rfl, ?_⟩) ?_ ?_
                rotate_left
                ·intro w'
                 go_simp
                 with_reducible rfl
                rotate_left
                ·simp only [Act.put, sA_, sZ_, sS_, i64_w, i32_w]
                 rfl
                refine pure_ (i := 3) (N := some 57) (v := ?_) (a' := ?_) #[true, true, false, true, false, false, false, false, false, false, false, false, false, false, false, false, false, false, false, false, false, false, false, false, false, false, false, false, false, false, false, false] rfl rfl (c9z HT_.1 (by kernel_rfl)) (fun _ _ _ h => h) (Or.inl ⟨by rfl, ?_⟩) ?_ ?_
                rotate_left
                ·intro w'
                 go_simp
                 with_reducible rfl
                rotate_left
                ·simp only [Act.put, sA_, sZ_, sS_, i64_w, i32_w]
                 rfl
                refine pure_ (i := 6) (N := some 60) (v := ?_) (a' := ?_) #[true, true, false, true, false, false, true, false, false, false, false, false, false, false, false, false, false, false, false, false, false, false, false, false, false, false, false, false, false, false, false, false] rfl rfl (c9z HT_.1 (by kernel_rfl)) (fun _ _ _ h => h) (Or.inl ⟨by rfl, ?_⟩) ?_ ?_
                rotate_left
                ·intro w'
                 go_simp
                 with_reducible rfl
                rotate_left
                ·simp only [Act.put, sA_, sZ_, sS_, i64_w, i32_w]
                 rfl
                refine pure_ (i := 8) (N := some 62) (v := ?_) (a' := ?_) #[true, true, false, true, false, false, true, false, true, false, false, false, false, false, false, false, false, false, false, false, false, false, false, false, false, false, false, false, false, false, false, false] rfl rfl (c9z HT_.1 (by kernel_rfl)) (fun _ _ _ h => h) (Or.inl ⟨by rfl, ?_⟩) ?_ ?_
                rotate_left
                ·intro w'
                 go_simp
                 with_reducible rfl
                rotate_left
                ·simp only [Act.put, sA_, sZ_, sS_, i64_w, i32_w]
                 rfl
                refine pure_ (i := 10) (N := some 64) (v := ?_) (a' := ?_) #[true, true, false, true, false, false, true, false, true, false, true, false, false, false, false, false, false, false, false, false, false, false, false, false, false, false, false, false, false, false, false, false] rfl rfl (c9z HT_.1 (by kernel_rfl)) (fun _ _ _ h => h) (Or.inl ⟨by rfl, ?_⟩) ?_ ?_
                rotate_left
                ·intro w'
                 go_simp
                 with_reducible rfl
                rotate_left
                ·simp only [Act.put, sA_, sZ_, sS_, i64_w, i32_w]
                 rfl
                refine pure_ (i := 12) (N := some 66) (v := ?_) (a' := ?_) #[true, true, false, true, false, false, true, false, true, false, true, false, true, false, false, false, false, false, false, false, false, false, false, false, false, false, false, false, false, false, false, false] rfl rfl (c9z HT_.1 (by kernel_rfl)) (fun _ _ _ h => h) (Or.inl ⟨by rfl, ?_⟩) ?_ ?_
                rotate_left
                ·intro w'
                 go_simp
                 with_reducible rfl
                rotate_left
                ·simp only [Act.put, sA_, sZ_, sS_, i64_w, i32_w]
                 rfl
                refine pure_ (i := 15) (N := some 69) (v := ?_) (a' := ?_) #[true, true, false, true, false, false, true, false, true, false, true, false, true, false, false, true, false, false, false, false, false, false, false, false, false, false, false, false, false, false, false, false] rfl rfl (c9z HT_.1 (by kernel_rfl)) (fun _ _ _ h => h) (Or.inl ⟨by rfl, ?_⟩) ?_ ?_
                rotate_left
                ·intro w'
                 go_simp
                 with_reducible rfl
                rotate_left
                ·simp only [Act.put, sA_, sZ_, sS_, i64_w, i32_w]
                 rfl
                refine pure_ (i := 17) (N := some 71) (v := ?_) (a' := ?_) #[true, true, false, true, false, false, true, false, true, false, true, false, true, false, false, true, false, true, false, false, false, false, false, false, false, false, false, false, false, false, false, false] rfl rfl (c9z HT_.1 (by kernel_rfl)) (fun _ _ _ h => h) (Or.inl ⟨by rfl, ?_⟩) ?_ ?_
                rotate_left
                ·intro w'
                 go_simp
                 with_reducible rfl
                rotate_left
                ·simp only [Act.put, sA_, sZ_, sS_, i64_w, i32_w]
                 rfl
                refine pure_ (i := 19) (N := some 73) (v := ?_) (a' := ?_) #[true, true, false, true, false, false, true, false, true, false, true, false, true, false, false, true, false, true, false, true, false, false, false, false, false, false, false, false, false, false, false, false] rfl rfl (c9z HT_.1 (by kernel_rfl)) (fun _ _ _ h => h) (Or.inl ⟨by rfl, ?_⟩) ?_ ?_
                rotate_left
                ·intro w'
                 go_simp
                 with_reducible rfl
                rotate_left
                ·simp only [Act.put, sA_, sZ_, sS_, i64_w, i32_w]
                 rfl
                refine pure_ (i := 21) (N := some 75) (v := ?_) (a' := ?_) #[true, true, false, true, false, false, true, false, true, false, true, false, true, false, false, true, false, true, false, true, false, true, false, false, false, false, false, false, false, false, false, false] rfl rfl (c9z HT_.1 (by kernel_rfl)) (fun _ _ _ h => h) (Or.inl ⟨by rfl, ?_⟩) ?_ ?_
                rotate_left
                ·intro w'
                 go_simp
                 with_reducible rfl
                rotate_left
                ·simp only [Act.put, sA_, sZ_, sS_, i64_w, i32_w]
                 rfl
                refine pure_ (i := 24) (N := some 78) (v := ?_) (a' := ?_) #[true, true, false, true, false, false, true, false, true, false, true, false, true, false, false, true, false, true, false, true, false, true, false, false, true, false, false, false, false, false, false, false] rfl rfl (c9z HT_.1 (by kernel_rfl)) (fun _ _ _ h => h) (Or.inl ⟨by rfl, ?_⟩) ?_ ?_
                rotate_left
                ·intro w'
                 go_simp
                 with_reducible rfl
                rotate_left
                ·simp only [Act.put, sA_, sZ_, sS_, i64_w, i32_w]
                 rfl
                refine pure_ (i := 26) (N := some 80) (v := ?_) (a' := ?_) #[true, true, false, true, false, false, true, false, true, false, true, false, true, false, false, true, false, true, false, true, false, true, false, false, true, false, true, false, false, false, false, false] rfl rfl (c9z HT_.1 (by kernel_rfl)) (fun _ _ _ h => h) (Or.inl ⟨by rfl, ?_⟩) ?_ ?_
                rotate_left
                ·intro w'
                 go_simp
                 with_reducible rfl
                rotate_left
                ·simp only [Act.put, sA_, sZ_, sS_, i64_w, i32_w]
                 rfl
                refine pure_ (i := 28) (N := some 82) (v := ?_) (a' := ?_) #[true, true, false, true, false, false, true, false, true, false, true, false, true, false, false, true, false, true, false, true, false, true, false, false, true, false, true, false, true, false, false, false] rfl rfl (c9z HT_.1 (by kernel_rfl)) (fun _ _ _ h => h) (Or.inl ⟨by rfl, ?_⟩) ?_ ?_
                rotate_left
                ·intro w'
                 go_simp
                 with_reducible rfl
                rotate_left
                ·simp only [Act.put, sA_, sZ_, sS_, i64_w, i32_w]
                 rfl
                refine take_ (i := 2) (N := some 56) (v := ?_) (a' := ?_) #[true, true, true, true, false, false, true, false, true, false, true, false, true, false, false, true, false, true, false, true, false, true, false, false, true, false, true, false, true, false, false, false] rfl rfl (d8z HT_.1 HW_.1 (by kernel_rfl)) (fun _ _ _ h => h) (Or.inl ⟨by rfl, ?_⟩) hHeld ?_ ?_
                rotate_left
                ·rintro w' ⟨s0, s1, s2, s3, s4, s5⟩
                 go_simp
                 with_reducible rfl
                rotate_left
                ·simp only [Act.put, sA_, sZ_, sS_, i64_w, i32_w]
                 rfl
                refine pure_ (i := 4) (N := some 58) (v := ?_) (a' := ?_) #[true, true, true, true, true, false, true, false, true, false, true, false, true, false, false, true, false, true, false, true, false, true, false, false, true, false, true, false, true, false, false, false] rfl rfl (c9z HT_.1 (by kernel_rfl)) (fun _ _ _ h => h) (Or.inl ⟨by rfl, ?_⟩) ?_ ?_
                rotate_left
                ·intro w'
                 go_simp
                 with_reducible rfl
                rotate_left
                ·simp only [Act.put, sA_, sZ_, sS_, i64_w, i32_w]
                 rfl
                refine take_ (i := 5) (N := some 59) (v := ?_) (a' := ?_) #[true, true, true, true, true, true, true, false, true, false, true, false, true, false, false, true, false, true, false, true, false, true, false, false, true, false, true, false, true, false, false, false] rfl rfl (d8z HT_.1 HW_.1 (by kernel_rfl)) (fun _ _ _ h => h) (Or.inl ⟨by rfl, ?_⟩) hHeld ?_ ?_
                rotate_left
                ·rintro w' ⟨s0, s1, s2, s3, s4, s5⟩
                 go_simp
                 with_reducible rfl
                rotate_left
                ·simp only [Act.put, sA_, sZ_, sS_, i64_w, i32_w]
                 rfl
                refine take_ (i := 7) (N := some 61) (v := ?_) (a' := ?_) #[true, true, true, true, true, true, true, true, true, false, true, false, true, false, false, true, false, true, false, true, false, true, false, false, true, false, true, false, true, false, false, false] rfl rfl (d8z HT_.1 HW_.1 (by kernel_rfl)) (fun _ _ _ h => h) (Or.inl ⟨by rfl, ?_⟩) hHeld ?_ ?_
                rotate_left
                ·rintro w' ⟨s0, s1, s2, s3, s4, s5⟩
                 go_simp
                 with_reducible rfl
                rotate_left
                ·simp only [Act.put, sA_, sZ_, sS_, i64_w, i32_w]
                 rfl
                refine take_ (i := 11) (N := some 65) (v := ?_) (a' := ?_) #[true, true, true, true, true, true, true, true, true, false, true, true, true, false, false, true, false, true, false, true, false, true, false, false, true, false, true, false, true, false, false, false] rfl rfl (d8z HT_.1 HW_.1 (by kernel_rfl)) (fun _ _ _ h => h) (Or.inl ⟨by rfl, ?_⟩) hHeld ?_ ?_
                rotate_left
                ·rintro w' ⟨s0, s1, s2, s3, s4, s5⟩
                 go_simp
                 with_reducible rfl
                rotate_left
                ·simp only [Act.put, sA_, sZ_, sS_, i64_w, i32_w]
                 rfl
                refine pure_ (i := 13) (N := some 67) (v := ?_) (a' := ?_) #[true, true, true, true, true, true, true, true, true, false, true, true, true, true, false, true, false, true, false, true, false, true, false, false, true, false, true, false, true, false, false, false] rfl rfl (c9z HT_.1 (by kernel_rfl)) (fun _ _ _ h => h) (Or.inl ⟨by rfl, ?_⟩) ?_ ?_
                rotate_left
                ·intro w'
                 go_simp
                 with_reducible rfl
                rotate_left
                ·simp only [Act.put, sA_, sZ_, sS_, i64_w, i32_w]
                 rfl
                refine take_ (i := 14) (N := some 68) (v := ?_) (a' := ?_) #[true, true, true, true, true, true, true, true, true, false, true, true, true, true, true, true, false, true, false, true, false, true, false, false, true, false, true, false, true, false, false, false] rfl rfl (d8z HT_.1 HW_.1 (by kernel_rfl)) (fun _ _ _ h => h) (Or.inl ⟨by rfl, ?_⟩) hHeld ?_ ?_
                rotate_left
                ·rintro w' ⟨s0, s1, s2, s3, s4, s5⟩
                 go_simp
                 with_reducible rfl
                rotate_left
                ·simp only [Act.put, sA_, sZ_, sS_, i64_w, i32_w]
                 rfl
                refine take_ (i := 16) (N := some 70) (v := ?_) (a' := ?_) #[true, true, true, true, true, true, true, true, true, false, true, true, true, true, true, true, true, true, false, true, false, true, false, false, true, false, true, false, true, false, false, false] rfl rfl (d8z HT_.1 HW_.1 (by kernel_rfl)) (fun _ _ _ h => h) (Or.inl ⟨by rfl, ?_⟩) hHeld ?_ ?_
                rotate_left
                ·rintro w' ⟨s0, s1, s2, s3, s4, s5⟩
                 go_simp
                 with_reducible rfl
                rotate_left
                ·simp only [Act.put, sA_, sZ_, sS_, i64_w, i32_w]
                 rfl
                refine take_ (i := 20) (N := some 74) (v := ?_) (a' := ?_) #[true, true, true, true, true, true, true, true, true, false, true, true, true, true, true, true, true, true, false, true, true, true, false, false, true, false, true, false, true, false, false, false] rfl rfl (d8z HT_.1 HW_.1 (by kernel_rfl)) (fun _ _ _ h => h) (Or.inl ⟨by rfl, ?_⟩) hHeld ?_ ?_
                rotate_left
                ·rintro w' ⟨s0, s1, s2, s3, s4, s5⟩
                 go_simp
                 with_reducible rfl
                rotate_left
                ·simp only [Act.put, sA_, sZ_, sS_, i64_w, i32_w]
                 rfl
                refine pure_ (i := 22) (N := some 76) (v := ?_) (a' := ?_) #[true, true, true, true, true, true, true, true, true, false, true, true, true, true, true, true, true, true, false, true, true, true, true, false, true, false, true, false, true, false, false, false] rfl rfl (c9z HT_.1 (by kernel_rfl)) (fun _ _ _ h => h) (Or.inl ⟨by rfl, ?_⟩) ?_ ?_
                rotate_left
                ·intro w'
                 go_simp
                 with_reducible rfl
                rotate_left
                ·simp only [Act.put, sA_, sZ_, sS_, i64_w, i32_w]
                 rfl
                refine take_ (i := 23) (N := some 77) (v := ?_) (a' := ?_) #[true, true, true, true, true, true, true, true, true, false, true, true, true, true, true, true, true, true, false, true, true, true, true, true, true, false, true, false, true, false, false, false] rfl rfl (d8z HT_.1 HW_.1 (by kernel_rfl)) (fun _ _ _ h => h) (Or.inl ⟨by rfl, ?_⟩) hHeld ?_ ?_
                rotate_left
                ·rintro w' ⟨s0, s1, s2, s3, s4, s5⟩
                 go_simp
                 with_reducible rfl
                rotate_left
                ·simp only [Act.put, sA_, sZ_, sS_, i64_w, i32_w]
                 rfl
                refine take_ (i := 25) (N := some 79) (v := ?_) (a' := ?_) #[true, true, true, true, true, true, true, true, true, false, true, true, true, true, true, true, true, true, false, true, true, true, true, true, true, true, true, false, true, false, false, false] rfl rfl (d8z HT_.1 HW_.1 (by kernel_rfl)) (fun _ _ _ h => h) (Or.inl ⟨by rfl, ?_⟩) hHeld ?_ ?_
                rotate_left
                ·rintro w' ⟨s0, s1, s2, s3, s4, s5⟩
                 go_simp
                 with_reducible rfl
                rotate_left
                ·simp only [Act.put, sA_, sZ_, sS_, i64_w, i32_w]
                 rfl
                refine one_ (i := 9) (N := some 63) #[true, true, true, true, true, true, true, true, true, true, true, true, true, true, true, true, true, true, false, true, true, true, true, true, true, true, true, false, true, false, false, false] rfl rfl (f1z HT_.1 (by kernel_rfl)) (by decide) (fun K hK => ?_)
                refine goes_ Try.func123 (by kernel_rfl) rfl #[.slice (some ad117) t107.length co10, .int .i64 x5_1, .int .i64 4294967295] (by rfl) rfl rfl (by (try simp only [List.map_toArray, List.map_cons, List.map_nil]); first | done | rfl | (simp only [List.length_drop, List.length_take]; rfl)) ?_
                with_reducible refine (spec_l5To.calls _ _ t107 x5_1 4294967295 t122 _ ?side1 ?side2 A26.1).mono ?_
                (case side1 => repeat (first | exact (Kd.b9z HO_117000.1).2.2 | (with_reducible refine Kd.C_alloc ?_ _) | (with_reducible refine Kd.C_drewN ?_ _) | (with_reducible refine Kd.C_drew ?_)))
                (case side2 => exact (Kd.b9z HO_117000.1).2.1)
                rintro e w' ⟨rfl, ⟨nd, rfl⟩⟩
                refine ⟨_, rfl, ?_⟩
                refine hK.out _ _ ⟨(a0z BK116.1 0).trans rfl, (a0z BK116.1 1).trans rfl, (a0z BK116.1 2).trans rfl, hHeld.2.2.2.1, hHeld.2.2.2.2.1, hHeld.2.2.2.2.2⟩ (fun hHeld => ?_)
                clear hK K
                refine norm_ (a' := ?_) ?_ ?_
                rotate_left
                ·show Act.put _ (some 63) _ = _
                 simp only [Act.put, sA_, sZ_, sS_, i64_w, i32_w]
                 rfl
                refine one_ (i := 18) (N := some 72) #[true, true, true, true, true, true, true, true, true, true, true, true, true, true, true, true, true, true, true, true, true, true, true, true, true, true, true, false, true, false, false, false] rfl rfl (f1z HT_.1 (by kernel_rfl)) (by decide) (fun K hK => ?_)
                refine goes_ Try.func123 (by kernel_rfl) rfl #[.slice (some ad118) t110.length co12, .int .i64 x6_2, .int .i64 4294967295] (by rfl) rfl rfl (by (try simp only [List.map_toArray, List.map_cons, List.map_nil]); first | done | rfl | (simp only [List.length_drop, List.length_take]; rfl)) ?_
                with_reducible refine (spec_l5To.calls _ _ t110 x6_2 4294967295 t124 _ ?side1 ?side2 A27.1).mono ?_
                (case side1 => repeat (first | exact (Kd.b9z HO_117001.1).2.2 | (with_reducible refine Kd.C_alloc ?_ _) | (with_reducible refine Kd.C_drewN ?_ _) | (with_reducible refine Kd.C_drew ?_)))
                (case side2 => exact (Kd.b9z HO_117001.1).2.1)
                rintro e w' ⟨rfl, ⟨nd, rfl⟩⟩
                refine ⟨_, rfl, ?_⟩
                refine hK.out _ _ ⟨(a0z BK116.1 0).trans rfl, (a0z BK116.1 1).trans rfl, (a0z BK116.1 2).trans rfl, hHeld.2.2.2.1, hHeld.2.2.2.2.1, hHeld.2.2.2.2.2⟩ (fun hHeld => ?_)
                clear hK K
                refine norm_ (a' := ?_) ?_ ?_
                rotate_left
                ·show Act.put _ (some 72) _ = _
                 simp only [Act.put, sA_, sZ_, sS_, i64_w, i32_w]
                 rfl
                refine one_ (i := 27) (N := some 81) #[true, true, true, true, true, true, true, true, true, true, true, true, true, true, true, true, true, true, true, true, true, true, true, true, true, true, true, true, true, false, false, false] rfl rfl (f1z HT_.1 (by kernel_rfl)) (by decide) (fun K hK => ?_)
                refine goes_ Try.func123 (by kernel_rfl) rfl #[.slice (some ad119) t113.length co13, .int .i64 x7_3, .int .i64 65535] (by rfl) rfl rfl (by (try simp only [List.map_toArray, List.map_cons, List.map_nil]); first | done | rfl | (simp only [List.length_drop, List.length_take]; rfl)) ?_
                with_reducible refine (spec_l5To.calls _ _ t113 x7_3 65535 t126 _ ?side1 ?side2 A28.1).mono ?_
                (case side1 => repeat (first | exact (Kd.b9z HO_117002.1).2.2 | (with_reducible refine Kd.C_alloc ?_ _) | (with_reducible refine Kd.C_drewN ?_ _) | (with_reducible refine Kd.C_drew ?_)))
                (case side2 => exact (Kd.b9z HO_117002.1).2.1)
                rintro e w' ⟨rfl, ⟨nd, rfl⟩⟩
                refine ⟨_, rfl, ?_⟩
                obtain ⟨Ao34, co34, eo34⟩ := Kd.d6z HO_3.1
                (first | subst eo34 | (injection eo34 with f1_ f2_ f3_; have f4_ := f1_.symm; have f5_ := f3_.symm; clear f1_ f2_ f3_; subst f4_; subst f5_))
                refine hK.out _ _ ⟨(a0z BK116.1 0).trans rfl, (a0z BK116.1 1).trans rfl, (a0z BK116.1 2).trans rfl, hHeld.2.2.2.1, hHeld.2.2.2.2.1, hHeld.2.2.2.2.2⟩ (fun hHeld => ?_)
                clear hK K
                refine norm_ (a' := ?_) ?_ ?_
                rotate_left
                ·show Act.put _ (some 81) _ = _
                 simp only [Act.put, sA_, sZ_, sS_, i64_w, i32_w]
                 rfl
                refine pure_ (i := 29) (N := some 83) (v := ?_) (a' := ?_) #[true, true, true, true, true, true, true, true, true, true, true, true, true, true, true, true, true, true, true, true, true, true, true, true, true, true, true, true, true, true, false, false] rfl rfl (c9z HT_.1 (by kernel_rfl)) (fun _ _ _ h => h) (Or.inl ⟨by rfl, ?_⟩) ?_ ?_
                rotate_left
                ·intro w'
                 go_simp
                 with_reducible rfl
                rotate_left
                ·simp only [Act.put, sA_, sZ_, sS_, i64_w, i32_w]
                 rfl
                refine one_ (i := 30) (N := some 84) #[true, true, true, true, true, true, true, true, true, true, true, true, true, true, true, true, true, true, true, true, true, true, true, true, true, true, true, true, true, true, true, false] rfl rfl (f1z HT_.1 (by kernel_rfl)) (by decide) (fun K hK => ?_)
                refine goes_ Try.func122 (by kernel_rfl) rfl #[.slice Ao34 x3_3.length co34, .agg #[.int .i64 (rd t107 x5_1), .int .i64 t122, .int .i64 (rd t110 x6_2), .int .i64 t124, .int .i64 (rd t113 x7_3), .int .i64 t126, .int .i64 t120]] (by rfl) rfl rfl (by (try simp only [List.map_toArray, List.map_cons, List.map_nil]); first | done | rfl | (simp only [List.length_drop, List.length_take]; rfl)) ?_
                with_reducible refine (spec_l5Join.calls (fun k_ => some k_ = (.slice Ao34 x3_3.length co34 : Value).ownBlock) (.slice Ao34 x3_3.length co34) x3_3 (rd t107 x5_1) t122 (rd t110 x6_2) t124 (rd t113 x7_3) t126 t120 t127 w _ ?side1 ?side2 A29.1).mono ?_
                (case side1 => repeat (first | (with_reducible first | exact HB.1 | apply a5z | apply a2z | apply a4z | refine a9z ?_ GE116.1) | exact HB.1))
                (case side2 => exact Kd.R_tight rfl HO_3.1)
                rintro e w35 ⟨v128, rfl, ho0, hb, hkp⟩
                have HS3_ := cell_kept (hHeld.2.2.2.1) hkp (by first | (rw [b0z]; exact (fun hs_ => ((((Kd.h0z HO_117000.1 (Kd.h4z HO_3.1) (by decide))).1 _ rfl).2) hs_)) | (show ¬ _; simp only [b0z]; exact (fun hs_ => ((((Kd.h0z HO_117000.1 (Kd.h4z HO_3.1) (by decide))).1 _ rfl).2) hs_)) | exact (fun hs_ => ((((Kd.h0z HO_117000.1 (Kd.h4z HO_3.1) (by decide))).1 _ rfl).2) hs_))
                have HS4_ := cell_kept (hHeld.2.2.2.2.1) hkp (by first | (rw [b0z]; exact (fun hs_ => ((((Kd.h0z HO_117001.1 (Kd.h4z HO_3.1) (by decide))).1 _ rfl).2) hs_)) | (show ¬ _; simp only [b0z]; exact (fun hs_ => ((((Kd.h0z HO_117001.1 (Kd.h4z HO_3.1) (by decide))).1 _ rfl).2) hs_)) | exact (fun hs_ => ((((Kd.h0z HO_117001.1 (Kd.h4z HO_3.1) (by decide))).1 _ rfl).2) hs_))
                have HS5_ := cell_kept (hHeld.2.2.2.2.2) hkp (by first | (rw [b0z]; exact (fun hs_ => ((((Kd.h0z HO_117002.1 (Kd.h4z HO_3.1) (by decide))).1 _ rfl).2) hs_)) | (show ¬ _; simp only [b0z]; exact (fun hs_ => ((((Kd.h0z HO_117002.1 (Kd.h4z HO_3.1) (by decide))).1 _ rfl).2) hs_)) | exact (fun hs_ => ((((Kd.h0z HO_117002.1 (Kd.h4z HO_3.1) (by decide))).1 _ rfl).2) hs_))
                refine ⟨_, rfl, ?_⟩
                have n0_ := a1z.mk (Kd.c6z (ok' := fun k_ => some k_ ≠ (.slice (some ad118) t110.length co12 : Value).ownBlock ∧ some k_ ≠ (.slice (some ad119) t113.length co13 : Value).ownBlock) (Kd.R_keptB ((Kd.h0z HO_117000.1 (Kd.h4z HO_3.1) (by decide))) hkp (fun k_ hk_ hs_ => (hk_.2) hs_)) (fun k_ hk_ => ⟨hk_.1.1.1, hk_.1.1.2⟩))
                have n1_ := a1z.mk (Kd.c6z (ok' := fun k_ => some k_ ≠ (.slice (some ad117) t107.length co10 : Value).ownBlock ∧ some k_ ≠ (.slice (some ad119) t113.length co13 : Value).ownBlock) (Kd.R_keptB ((Kd.h0z HO_117001.1 (Kd.h4z HO_3.1) (by decide))) hkp (fun k_ hk_ hs_ => (hk_.2) hs_)) (fun k_ hk_ => ⟨hk_.1.1.1, hk_.1.1.2⟩))
                have n2_ := a1z.mk (Kd.c6z (ok' := fun k_ => some k_ ≠ (.slice (some ad117) t107.length co10 : Value).ownBlock ∧ some k_ ≠ (.slice (some ad118) t110.length co12 : Value).ownBlock) (Kd.R_keptB ((Kd.h0z HO_117002.1 (Kd.h4z HO_3.1) (by decide))) hkp (fun k_ hk_ hs_ => (hk_.2) hs_)) (fun k_ hk_ => ⟨hk_.1.1.1, hk_.1.1.2⟩))
                have n3_ := a1z.mk (blk_kept (by (with_reducible repeat (first | refine a7z ?_ _ | refine a8z ?_ | refine blk_alloc ?_ _)); exact BK116.1) hkp (fun hs_ => (fun e_ => (Kd.R_ne HO_3.1 BK116.1 (by decide)) e_) hs_))
                have n4_ := a1z.mk (Kd.c6z (ok' := fun k_ => True) ho0 (fun k_ hk_ => trivial))
                have n5_ := a1z.mk (hb)
                clear HO_117000
                clear HO_117001
                clear HO_117002
                clear BK116
                clear HB
                clear HO_3
                have HO_117000 := n0_
                have HO_117001 := n1_
                have HO_117002 := n2_
                have BK116 := n3_
                have HO129 := n4_
                have HB := n5_
                clear n0_ n1_ n2_ n3_ n4_ n5_
                (try clear hb)
                (try clear hkp)
                (try clear ho0)
                refine hK.out _ _ ⟨(a0z BK116.1 0).trans rfl, (a0z BK116.1 1).trans rfl, (a0z BK116.1 2).trans rfl, HS3_, HS4_, HS5_⟩ (fun hHeld => ?_)
                clear hK K
                refine norm_ (a' := ?_) ?_ ?_
                rotate_left
                ·show Act.put _ (some 84) _ = _
                 simp only [Act.put, sA_, sZ_, sS_, i64_w, i32_w]
                 rfl
                refine pure_ (i := 31) (N := some 3) (v := ?_) (a' := ?_) #[true, true, true, true, true, true, true, true, true, true, true, true, true, true, true, true, true, true, true, true, true, true, true, true, true, true, true, true, true, true, true, true] rfl rfl (c9z HT_.1 (by kernel_rfl)) (fun _ _ _ h => h) (Or.inl ⟨by rfl, ?_⟩) ?_ ?_
                rotate_left
                ·intro w'
                 go_simp
                 with_reducible rfl
                rotate_left
                ·simp only [Act.put, sA_, sZ_, sS_, i64_w, i32_w]
                 rfl
                refine done_ (h7z HT_.1 (by kernel_rfl)) ?_
                try go_wp2
                go_roundg k3
                case measure => have := HK1.1; have := HK2.1; have := HK3.1; omega
                case rel => exact ⟨(t127), (wrap64 (x7_3 + 1)), (by first | rfl | (simp; done) | (simp [*]; done)), H', ⟨by have := HK1.1; have := HK2.1; have := HK3.1; omega⟩, ⟨by (with_reducible repeat (first | apply Kd.R_alloc | apply Kd.b1z | apply Kd.b3z)); exact HO129.1⟩, ⟨by (with_reducible repeat (first | apply Kd.R_alloc | apply Kd.b1z | apply Kd.b3z)); exact HO_117000.1⟩, ⟨by (with_reducible repeat (first | apply Kd.R_alloc | apply Kd.b1z | apply Kd.b3z)); exact HO_117001.1⟩, ⟨by (with_reducible repeat (first | apply Kd.R_alloc | apply Kd.b1z | apply Kd.b3z)); exact HO_117002.1⟩, ⟨by (with_reducible repeat (first | refine a7z ?_ _ | refine a8z ?_ | refine blk_alloc ?_ _)); exact BK116.1⟩, ⟨by repeat (first | (with_reducible first | exact HB.1 | apply a5z | apply a2z | apply a4z | refine a9z ?_ GE116.1) | exact HB.1)⟩⟩
               ·rw [if_neg c25] at H
                have c25b0 : decide (0 ≤ t120) = false := decide_eq_false c25
                clear c25
                have H' := a1z.mk H
                clear H
                have hcz36_0 : wr.cell? ⟨gb116, 0, none⟩ = some (.slice Ao10 t107.length co10) := (a0z BK116.1 0).trans rfl
                have hcz36_1 : wr.cell? ⟨gb116, 1, none⟩ = some (.slice Ao12 t110.length co12) := (a0z BK116.1 1).trans rfl
                have hcz36_2 : wr.cell? ⟨gb116, 2, none⟩ = some (.slice Ao13 t113.length co13) := (a0z BK116.1 2).trans rfl
                have hfz36_0 := a3z BK116.1 0
                have hfz36_1 := a3z BK116.1 1
                have hfz36_2 := a3z BK116.1 2
                try go_wp2
                have n0_ := a1z.mk (Kd.b3z HO_3.1)
                have n1_ := a1z.mk (Kd.b3z HO_117000.1)
                have n2_ := a1z.mk (Kd.b3z HO_117001.1)
                have n3_ := a1z.mk (Kd.b3z HO_117002.1)
                have n4_ := a1z.mk (a8z BK116.1)
                have n5_ := a1z.mk (a4z HB.1)
                clear HO_3
                clear HO_117000
                clear HO_117001
                clear HO_117002
                clear BK116
                clear HB
                have HO_3 := n0_
                have HO_117000 := n1_
                have HO_117001 := n2_
                have HO_117002 := n3_
                have BK116 := n4_
                have HB := n5_
                clear n0_ n1_ n2_ n3_ n4_ n5_
                have p117 : 0 ≤ (x5_1 : Int) := of_decide_eq_true (by first | (with_reducible assumption) | assumption)
                have q117 : x5_1 < (t107.length : Int) := of_decide_eq_true (by first | (with_reducible assumption) | assumption)
                obtain ⟨ad117, e117, hx117_0⟩ := Kd.g9z (Kd.b9z HO_117000.1).2.2 x5_1 p117 q117
                cases e117
                replace p117 := eq_true p117
                replace q117 := eq_true q117
                have p118 : 0 ≤ (x6_2 : Int) := of_decide_eq_true (by first | (with_reducible assumption) | assumption)
                have q118 : x6_2 < (t110.length : Int) := of_decide_eq_true (by first | (with_reducible assumption) | assumption)
                obtain ⟨ad118, e118, hx118_0⟩ := Kd.g9z (Kd.b9z HO_117001.1).2.2 x6_2 p118 q118
                cases e118
                replace p118 := eq_true p118
                replace q118 := eq_true q118
                have p119 : 0 ≤ (x7_3 : Int) := of_decide_eq_true (by first | (with_reducible assumption) | assumption)
                have q119 : x7_3 < (t113.length : Int) := of_decide_eq_true (by first | (with_reducible assumption) | assumption)
                obtain ⟨ad119, e119, hx119_0⟩ := Kd.g9z (Kd.b9z HO_117002.1).2.2 x7_3 p119 q119
                cases e119
                replace p119 := eq_true p119
                replace q119 := eq_true q119
                refine h9z (n := 19) (S := fun w' => w'.cell? ⟨gb116, 0, none⟩ = some (.slice (some ad117) t107.length co10) ∧ w'.cell? ⟨gb116, 1, none⟩ = some (.slice (some ad118) t110.length co12) ∧ w'.cell? ⟨gb116, 2, none⟩ = some (.slice (some ad119) t113.length co13) ∧ w'.cell? (ad117.add (x5_1).toNat) = some (.int .i64 (rd t107 x5_1)) ∧ w'.cell? (ad118.add (x6_2).toNat) = some (.int .i64 (rd t110 x6_2)) ∧ w'.cell? (ad119.add (x7_3).toNat) = some (.int .i64 (rd t113 x7_3))) (ds := []) #[false, false, false, false, false, false, false, false, false, false, false, false, false, false, false, false, false, false, false] (by kernel_rfl) rfl rfl ⟨(a0z BK116.1 0).trans rfl, (a0z BK116.1 1).trans rfl, (a0z BK116.1 2).trans rfl, hx117_0, hx118_0, hx119_0⟩ (fun hHeld => ?_); refine g7z spec_l5Cells.tab12 spec_l5Cells.bits12 (fun HT_ HW_ => ?_)
                generalize wr.drew = w37 at HO_3 HO_117000 HO_117001 HO_117002 BK116 HB hx117_0 hx118_0 hx119_0 hHeld ⊢
                refine pure_ (i := 0) (N := some 34) (v := ?_) (a' := ?_) #[true, false, false, false, false, false, false, false, false, false, false, false, false, false, false, false, false, false, false] rfl rfl (c9z HT_.1 (by kernel_rfl)) (fun _ _ _ h => h) (Or.inl ⟨by rfl, ?_⟩) ?_ ?_
                rotate_left
                ·intro w'
                 go_simp
                 with_reducible rfl
                rotate_left
                ·simp only [Act.put, sA_, sZ_, sS_, i64_w, i32_w]
                 rfl
                refine pure_ (i := 1) (N := some 35) (v := ?_) (a' := ?_) #[true, true, false, false, false, false, false, false, false, false, false, false, false, false, false, false, false, false, false] rfl rfl (c9z HT_.1 (by kernel_rfl)) (fun _ _ _ h => h) (Or.inl ⟨by rfl, ?_⟩) ?_ ?_
                rotate_left
                ·intro w'
                 go_simp
                 with_reducible rfl
                rotate_left
                ·simp only [Act.put, sA_, sZ_, sS_, i64_w, i32_w]
                 rfl
                refine pure_ (i := 3) (N := some 37) (v := ?_) (a' := ?_) #[true, true, false, true, false, false, false, false, false, false, false, false, false, false, false, false, false, false, false] rfl rfl (c9z HT_.1 (by kernel_rfl)) (fun _ _ _ h => h) (Or.inl ⟨by rfl, ?_⟩) ?_ ?_
                rotate_left
                ·intro w'
                 go_simp
                 with_reducible rfl
                rotate_left
                ·simp only [Act.put, sA_, sZ_, sS_, i64_w, i32_w]
                 rfl
                refine pure_ (i := 6) (N := some 40) (v := ?_) (a' := ?_) #[true, true, false, true, false, false, true, false, false, false, false, false, false, false, false, false, false, false, false] rfl rfl (c9z HT_.1 (by kernel_rfl)) (fun _ _ _ h => h) (Or.inl ⟨by rfl, ?_⟩) ?_ ?_
                rotate_left
                ·intro w'
                 go_simp
                 with_reducible rfl
                rotate_left
                ·simp only [Act.put, sA_, sZ_, sS_, i64_w, i32_w]
                 rfl
                refine pure_ (i := 8) (N := some 42) (v := ?_) (a' := ?_) #[true, true, false, true, false, false, true, false, true, false, false, false, false, false, false, false, false, false, false] rfl rfl (c9z HT_.1 (by kernel_rfl)) (fun _ _ _ h => h) (Or.inl ⟨by rfl, ?_⟩) ?_ ?_
                rotate_left
                ·intro w'
                 go_simp
                 with_reducible rfl
                rotate_left
                ·simp only [Act.put, sA_, sZ_, sS_, i64_w, i32_w]
                 rfl
                refine pure_ (i := 11) (N := some 45) (v := ?_) (a' := ?_) #[true, true, false, true, false, false, true, false, true, false, false, true, false, false, false, false, false, false, false] rfl rfl (c9z HT_.1 (by kernel_rfl)) (fun _ _ _ h => h) (Or.inl ⟨by rfl, ?_⟩) ?_ ?_
                rotate_left
                ·intro w'
                 go_simp
                 with_reducible rfl
                rotate_left
                ·simp only [Act.put, sA_, sZ_, sS_, i64_w, i32_w]
                 rfl
                refine pure_ (i := 13) (N := some 47) (v := ?_) (a' := ?_) #[true, true, false, true, false, false, true, false, true, false, false, true, false, true, false, false, false, false, false] rfl rfl (c9z HT_.1 (by kernel_rfl)) (fun _ _ _ h => h) (Or.inl ⟨by rfl, ?_⟩) ?_ ?_
                rotate_left
                ·intro w'
                 go_simp
                 with_reducible rfl
                rotate_left
                ·simp only [Act.put, sA_, sZ_, sS_, i64_w, i32_w]
                 rfl
                refine take_ (i := 2) (N := some 36) (v := ?_) (a' := ?_) #[true, true, true, true, false, false, true, false, true, false, false, true, false, true, false, false, false, false, false] rfl rfl (d8z HT_.1 HW_.1 (by kernel_rfl)) (fun _ _ _ h => h) (Or.inl ⟨by rfl, ?_⟩) hHeld ?_ ?_
                rotate_left
                ·rintro w' ⟨s0, s1, s2, s3, s4, s5⟩
                 go_simp
                 with_reducible rfl
                rotate_left
                ·simp only [Act.put, sA_, sZ_, sS_, i64_w, i32_w]
                 rfl
                refine pure_ (i := 4) (N := some 38) (v := ?_) (a' := ?_) #[true, true, true, true, true, false, true, false, true, false, false, true, false, true, false, false, false, false, false] rfl rfl (c9z HT_.1 (by kernel_rfl)) (fun _ _ _ h => h) (Or.inl ⟨by rfl, ?_⟩) ?_ ?_
                rotate_left
                ·intro w'
                 go_simp
                 with_reducible rfl
                rotate_left
                ·simp only [Act.put, sA_, sZ_, sS_, i64_w, i32_w]
                 rfl
                refine take_ (i := 5) (N := some 39) (v := ?_) (a' := ?_) #[true, true, true, true, true, true, true, false, true, false, false, true, false, true, false, false, false, false, false] rfl rfl (d8z HT_.1 HW_.1 (by kernel_rfl)) (fun _ _ _ h => h) (Or.inl ⟨by rfl, ?_⟩) hHeld ?_ ?_
                rotate_left
                ·rintro w' ⟨s0, s1, s2, s3, s4, s5⟩
                 go_simp
                 with_reducible rfl
                rotate_left
                ·simp only [Act.put, sA_, sZ_, sS_, i64_w, i32_w]
                 rfl
                refine take_ (i := 7) (N := some 41) (v := ?_) (a' := ?_) #[true, true, true, true, true, true, true, true, true, false, false, true, false, true, false, false, false, false, false] rfl rfl (d8z HT_.1 HW_.1 (by kernel_rfl)) (fun _ _ _ h => h) (Or.inl ⟨by rfl, ?_⟩) hHeld ?_ ?_
                rotate_left
                ·rintro w' ⟨s0, s1, s2, s3, s4, s5⟩
                 go_simp
                 with_reducible rfl
                rotate_left
                ·simp only [Act.put, sA_, sZ_, sS_, i64_w, i32_w]
                 rfl
                refine pure_ (i := 9) (N := some 43) (v := ?_) (a' := ?_) #[true, true, true, true, true, true, true, true, true, true, false, true, false, true, false, false, false, false, false] rfl rfl (c9z HT_.1 (by kernel_rfl)) (fun _ _ _ h => h) (Or.inl ⟨by rfl, ?_⟩) ?_ ?_
                rotate_left
                ·intro w'
                 go_simp
                 with_reducible rfl
                rotate_left
                ·simp only [Act.put, sA_, sZ_, sS_, i64_w, i32_w]
                 rfl
                refine take_ (i := 10) (N := some 44) (v := ?_) (a' := ?_) #[true, true, true, true, true, true, true, true, true, true, true, true, false, true, false, false, false, false, false] rfl rfl (d8z HT_.1 HW_.1 (by kernel_rfl)) (fun _ _ _ h => h) (Or.inl ⟨by rfl, ?_⟩) hHeld ?_ ?_
                rotate_left
                ·rintro w' ⟨s0, s1, s2, s3, s4, s5⟩
                 go_simp
                 with_reducible rfl
                rotate_left
                ·simp only [Act.put, sA_, sZ_, sS_, i64_w, i32_w]
                 rfl
                refine take_ (i := 12) (N := some 46) (v := ?_) (a' := ?_) #[true, true, true, true, true, true, true, true, true, true, true, true, true, true, false, false, false, false, false] rfl rfl (d8z HT_.1 HW_.1 (by kernel_rfl)) (fun _ _ _ h => h) (Or.inl ⟨by rfl, ?_⟩) hHeld ?_ ?_
                rotate_left
                ·rintro w' ⟨s0, s1, s2, s3, s4, s5⟩
                 go_simp
                 with_reducible rfl
                rotate_left
                ·simp only [Act.put, sA_, sZ_, sS_, i64_w, i32_w]
                 rfl
                refine pure_ (i := 14) (N := some 48) (v := ?_) (a' := ?_) #[true, true, true, true, true, true, true, true, true, true, true, true, true, true, true, false, false, false, false] rfl rfl (c9z HT_.1 (by kernel_rfl)) (fun _ _ _ h => h) (Or.inl ⟨by rfl, ?_⟩) ?_ ?_
                rotate_left
                ·intro w'
                 go_simp
                 with_reducible rfl
                rotate_left
                ·simp only [Act.put, sA_, sZ_, sS_, i64_w, i32_w]
                 rfl
                refine take_ (i := 15) (N := some 49) (v := ?_) (a' := ?_) #[true, true, true, true, true, true, true, true, true, true, true, true, true, true, true, true, false, false, false] rfl rfl (d8z HT_.1 HW_.1 (by kernel_rfl)) (fun _ _ _ h => h) (Or.inl ⟨by rfl, ?_⟩) hHeld ?_ ?_
                rotate_left
                ·rintro w' ⟨s0, s1, s2, s3, s4, s5⟩
                 go_simp
                 with_reducible rfl
                rotate_left
                ·simp only [Act.put, sA_, sZ_, sS_, i64_w, i32_w]
                 rfl
                refine pure_ (i := 16) (N := some 50) (v := ?_) (a' := ?_) #[true, true, true, true, true, true, true, true, true, true, true, true, true, true, true, true, true, false, false] rfl rfl (c9z HT_.1 (by kernel_rfl)) (fun _ _ _ h => h) (Or.inl ⟨by rfl, ?_⟩) ?_ ?_
                rotate_left
                ·intro w'
                 go_simp
                 with_reducible rfl
                rotate_left
                ·simp only [Act.put, sA_, sZ_, sS_, i64_w, i32_w]
                 rfl
                refine one_ (i := 17) (N := some 51) #[true, true, true, true, true, true, true, true, true, true, true, true, true, true, true, true, true, true, false] rfl rfl (f1z HT_.1 (by kernel_rfl)) (by decide) (fun K hK => ?_)
                refine goes_ Try.func121 (by kernel_rfl) rfl #[.slice A0 l0.length c0, .agg #[.int .i64 (rd t107 x5_1), .int .i64 (rd t110 x6_2), .int .i64 (rd t113 x7_3)]] (by rfl) rfl rfl (by (try simp only [List.map_toArray, List.map_cons, List.map_nil]); first | done | rfl | (simp only [List.length_drop, List.length_take]; rfl)) ?_
                with_reducible refine (spec_l4First.calls k3 _ _ l0 (rd t107 x5_1) (rd t110 x6_2) (rd t113 x7_3) t120 _ ?side1 ?side2 A24.1).mono ?_
                (case side1 => repeat (first | exact (Kd.g1z HR0.1 HB.1) | (with_reducible refine Kd.C_alloc ?_ _) | (with_reducible refine Kd.C_drewN ?_ _) | (with_reducible refine Kd.C_drew ?_)))
                (case side2 => exact HC0.1)
                rintro e w38 ⟨rfl, hb⟩
                have HS3_ := (hb.cell (World.block_lt_of_cell? _ _ (hHeld.2.2.2.1))).trans (hHeld.2.2.2.1)
                have HS4_ := (hb.cell (World.block_lt_of_cell? _ _ (hHeld.2.2.2.2.1))).trans (hHeld.2.2.2.2.1)
                have HS5_ := (hb.cell (World.block_lt_of_cell? _ _ (hHeld.2.2.2.2.2))).trans (hHeld.2.2.2.2.2)
                refine ⟨_, rfl, ?_⟩
                have n0_ := a1z.mk (Kd.d7z (by (with_reducible repeat (first | apply Kd.R_alloc | apply Kd.b1z | apply Kd.b3z)); exact HO_3.1) hb)
                have n1_ := a1z.mk (Kd.d7z (by (with_reducible repeat (first | apply Kd.R_alloc | apply Kd.b1z | apply Kd.b3z)); exact HO_117000.1) hb)
                have n2_ := a1z.mk (Kd.d7z (by (with_reducible repeat (first | apply Kd.R_alloc | apply Kd.b1z | apply Kd.b3z)); exact HO_117001.1) hb)
                have n3_ := a1z.mk (Kd.d7z (by (with_reducible repeat (first | apply Kd.R_alloc | apply Kd.b1z | apply Kd.b3z)); exact HO_117002.1) hb)
                have n4_ := a1z.mk (c4z (g := gb116) (o := .cells #[.slice (some ad117) t107.length co10, .slice (some ad118) t110.length co12, .slice (some ad119) t113.length co13] 146 (0, 0)) (by (with_reducible repeat (first | refine a7z ?_ _ | refine a8z ?_ | refine blk_alloc ?_ _)); exact BK116.1) hb)
                have n5_ := a1z.mk (b7z (by repeat (first | (with_reducible first | exact HB.1 | apply a5z | apply a2z | apply a4z | refine a9z ?_ GE116.1) | exact HB.1)) hb)
                clear HO_3
                clear HO_117000
                clear HO_117001
                clear HO_117002
                clear BK116
                clear HB
                have HO_3 := n0_
                have HO_117000 := n1_
                have HO_117001 := n2_
                have HO_117002 := n3_
                have BK116 := n4_
                have HB := n5_
                clear n0_ n1_ n2_ n3_ n4_ n5_
                (try clear hb)
                (try clear hb2)
                (try clear hk)
                (try clear hi)
                refine hK.out _ _ ⟨(a0z BK116.1 0).trans rfl, (a0z BK116.1 1).trans rfl, (a0z BK116.1 2).trans rfl, HS3_, HS4_, HS5_⟩ (fun hHeld => ?_)
                clear hK K
                refine norm_ (a' := ?_) ?_ ?_
                rotate_left
                ·show Act.put _ (some 51) _ = _
                 simp only [Act.put, sA_, sZ_, sS_, i64_w, i32_w]
                 rfl
                refine pure_ (i := 18) (N := some 8) (v := ?_) (a' := ?_) #[true, true, true, true, true, true, true, true, true, true, true, true, true, true, true, true, true, true, true] rfl rfl (c9z HT_.1 (by kernel_rfl)) (fun _ _ _ h => h) (Or.inl ⟨by rfl, ?_⟩) ?_ ?_
                rotate_left
                ·intro w'
                 go_simp
                 with_reducible rfl
                rotate_left
                ·simp only [Act.put, sA_, sZ_, sS_, i64_w, i32_w]
                 rfl
                refine done_ (h7z HT_.1 (by kernel_rfl)) ?_
                try go_wp2
                go_roundg k3
                case measure => have := HK1.1; have := HK2.1; have := HK3.1; omega
                case rel => exact ⟨(x3_3), (wrap64 (x7_3 + 1)), (by first | rfl | (simp; done) | (simp [*]; done)), H', ⟨by have := HK1.1; have := HK2.1; have := HK3.1; omega⟩, ⟨by (with_reducible repeat (first | apply Kd.R_alloc | apply Kd.b1z | apply Kd.b3z)); exact HO_3.1⟩, ⟨by (with_reducible repeat (first | apply Kd.R_alloc | apply Kd.b1z | apply Kd.b3z)); exact HO_117000.1⟩, ⟨by (with_reducible repeat (first | apply Kd.R_alloc | apply Kd.b1z | apply Kd.b3z)); exact HO_117001.1⟩, ⟨by (with_reducible repeat (first | apply Kd.R_alloc | apply Kd.b1z | apply Kd.b3z)); exact HO_117002.1⟩, ⟨by (with_reducible repeat (first | refine a7z ?_ _ | refine a8z ?_ | refine blk_alloc ?_ _)); exact BK116.1⟩, ⟨by repeat (first | (with_reducible first | exact HB.1 | apply a5z | apply a2z | apply a4z | refine a9z ?_ GE116.1) | exact HB.1)⟩⟩
              ·rw [if_neg c23] at H
               exact absurd H (by simp)
             ·rw [if_neg c22] at H
              exact absurd H (by simp)
            ·rw [if_neg c21] at H
             exact absurd H (by simp)
           ·rw [if_neg c20] at H
            exact absurd H (by simp)
          ·rw [if_neg c19] at H
           exact absurd H (by simp)
         ·rw [if_neg c18] at H
          have c18b0 : decide (x7_3 < (t113.length : Int)) = false := decide_eq_false c18
          clear c18
          have H' := a1z.mk H
          clear H
          have hcz39_0 : wr.cell? ⟨gb116, 0, none⟩ = some (.slice Ao10 t107.length co10) := (a0z BK116.1 0).trans rfl
          have hcz39_1 : wr.cell? ⟨gb116, 1, none⟩ = some (.slice Ao12 t110.length co12) := (a0z BK116.1 1).trans rfl
          have hcz39_2 : wr.cell? ⟨gb116, 2, none⟩ = some (.slice Ao13 t113.length co13) := (a0z BK116.1 2).trans rfl
          have hfz39_0 := a3z BK116.1 0
          have hfz39_1 := a3z BK116.1 1
          have hfz39_2 := a3z BK116.1 2
          go_wp2
          go_roundg k3
          case measure => have := HK1.1; have := HK2.1; have := HK3.1; omega
          case rel => exact ⟨(x3_3), (wrap64 (x6_2 + 1)), (by first | rfl | (simp; done) | (simp [*]; done)), H', ⟨by have := HK1.1; have := HK2.1; have := HK3.1; omega⟩, ⟨by (with_reducible repeat (first | apply Kd.R_alloc | apply Kd.b1z | apply Kd.b3z)); exact HO_3.1⟩, ⟨by (with_reducible repeat (first | apply Kd.R_alloc | apply Kd.b1z | apply Kd.b3z)); exact HO_117000.1⟩, ⟨by (with_reducible repeat (first | apply Kd.R_alloc | apply Kd.b1z | apply Kd.b3z)); exact HO_117001.1⟩, ⟨by (with_reducible repeat (first | apply Kd.R_alloc | apply Kd.b1z | apply Kd.b3z)); exact HO_117002.1⟩, ⟨by (with_reducible repeat (first | refine a7z ?_ _ | refine a8z ?_ | refine blk_alloc ?_ _)); exact BK116.1⟩, ⟨by repeat (first | (with_reducible first | exact HB.1 | apply a5z | apply a2z | apply a4z | refine a9z ?_ GE116.1) | exact HB.1)⟩⟩
      ·rw [if_neg c16] at H
       have c16b0 : decide (x6_2 < (t110.length : Int)) = false := decide_eq_false c16
       clear c16
       have H' := a1z.mk H
       clear H
       have hcz40_0 : wr.cell? ⟨gb116, 0, none⟩ = some (.slice Ao10 t107.length co10) := (a0z BK116.1 0).trans rfl
       have hcz40_1 : wr.cell? ⟨gb116, 1, none⟩ = some (.slice Ao12 t110.length co12) := (a0z BK116.1 1).trans rfl
       have hcz40_2 : wr.cell? ⟨gb116, 2, none⟩ = some (.slice Ao13 t113.length co13) := (a0z BK116.1 2).trans rfl
       have hfz40_0 := a3z BK116.1 0
       have hfz40_1 := a3z BK116.1 1
       have hfz40_2 := a3z BK116.1 2
       go_wp2
       go_roundg k2
       case measure => have := HK1.1; have := HK2.1; omega
       case rel => exact ⟨(x3_2), (wrap64 (x5_1 + 1)), (by first | rfl | (simp; done) | (simp [*]; done)), H', ⟨by have := HK1.1; have := HK2.1; omega⟩, ⟨by (with_reducible repeat (first | apply Kd.R_alloc | apply Kd.b1z | apply Kd.b3z)); exact HO_3.1⟩, ⟨by (with_reducible repeat (first | apply Kd.R_alloc | apply Kd.b1z | apply Kd.b3z)); exact HO_117000.1⟩, ⟨by (with_reducible repeat (first | apply Kd.R_alloc | apply Kd.b1z | apply Kd.b3z)); exact HO_117001.1⟩, ⟨by (with_reducible repeat (first | apply Kd.R_alloc | apply Kd.b1z | apply Kd.b3z)); exact HO_117002.1⟩, ⟨by (with_reducible repeat (first | refine a7z ?_ _ | refine a8z ?_ | refine blk_alloc ?_ _)); exact BK116.1⟩, ⟨by repeat (first | (with_reducible first | exact HB.1 | apply a5z | apply a2z | apply a4z | refine a9z ?_ GE116.1) | exact HB.1)⟩⟩
   ·rw [if_neg c14] at H
    have c14b0 : decide (x5_1 < (t107.length : Int)) = false := decide_eq_false c14
    clear c14
    obtain rfl := Option.some.inj H
    have hcz41_0 : wr.cell? ⟨gb116, 0, none⟩ = some (.slice Ao10 t107.length co10) := (a0z BK116.1 0).trans rfl
    have hcz41_1 : wr.cell? ⟨gb116, 1, none⟩ = some (.slice Ao12 t110.length co12) := (a0z BK116.1 1).trans rfl
    have hcz41_2 : wr.cell? ⟨gb116, 2, none⟩ = some (.slice Ao13 t113.length co13) := (a0z BK116.1 2).trans rfl
    have hfz41_0 := a3z BK116.1 0
    have hfz41_1 := a3z BK116.1 1
    have hfz41_2 := a3z BK116.1 2
    go_wp2
    go_ret
    exact ⟨_, by first | rfl | (simp [c2z, c1z] <;> rfl) | (simp [*, c2z, c1z] <;> rfl), by (with_reducible repeat (first | apply Kd.R_alloc | apply Kd.b1z | apply Kd.b3z)); exact HO_3.1, by repeat (first | (with_reducible first | exact HB.1 | apply a5z | apply a2z | apply a4z | refine a9z ?_ GE116.1) | exact HB.1)⟩
end Go.Proofs.Ytbhgkpfbggkgdaa.Q

namespace Go.Proofs.Ytbhgkpfbggkgdaa.Q
open Go.RowKit Go.Proofs.YtbhgkpfbggkgdaaW.PrintWords Go.Proofs.YtbhgkpfbggkgdaaW.PrintLast Go.Proofs.YtbhgkpfbggkgdaaW.PrintMore
attribute [local go_sem] e8z e6z f5z f4z e1z e0z e7z e5z
set_option linter.unusedVariables false
set_option linter.unusedSimpArgs false
def spec_Cells.f (k : Nat) (l0 : List (S109)) : Option ((List (S67)) × Bool) := (spec_RulesOk.f k l0).bind fun t101 => (if t101 = true then ((spec_l5Cells.f k l0).bind fun t102 => (if (t102.length : Int) > 400 then (some ((([] : List (S67))), false)) else (some (t102, true)))) else (some ((([] : List (S67))), false)))
set_option maxHeartbeats 8000000 in
set_option maxRecDepth 100000 in
theorem spec_Cells.calls (k : Nat) (A0 : Option Addr) (c0 : Nat) (l0 : List (S109)) (r1 : List (S67)) (r2 : Bool) (w : World) (hr0 : Kd.C k109 w A0 l0.length l0) (hc0 : l0.length ≤ c0) (h : spec_Cells.f k l0 = some (r1, r2)) :
  Calls Try.prog 87 #[.slice A0 l0.length c0] w fun e w' => ∃ v0_ : Value, e = .returned (.tuple #[v0_, .bool r2]) ∧ Kd.R k67 67 w' w.heap.size (fun _ => True) v0_ r1 ∧ Below w.heap.size w w' := by
 have HR0 := a1z.mk hr0
 have HC0 := a1z.mk hc0
 clear hr0 hc0
 have HB := a1z.mk (Below.refl w.heap.size w)
 have H : ((spec_RulesOk.f k l0).bind fun t101 => (if t101 = true then ((spec_l5Cells.f k l0).bind fun t102 => (if (t102.length : Int) > 400 then (some ((([] : List (S67))), false)) else (some (t102, true)))) else (some ((([] : List (S67))), false)))) = some (r1, r2) := h
 clear h
 replace H := Option.bind_eq_some_iff.mp H
 obtain ⟨t101, A20, H⟩ := H
 replace H : (if t101 = true then ((spec_l5Cells.f k l0).bind fun t102 => (if (t102.length : Int) > 400 then (some ((([] : List (S67))), false)) else (some (t102, true)))) else (some ((([] : List (S67))), false))) = some (r1, r2) := H
 have A2 := a1z.mk A20
 clear A20
 by_cases c3 : t101 = true
 ·subst c3
  have H1 : ((spec_l5Cells.f k l0).bind fun t102 => (if (t102.length : Int) > 400 then (some ((([] : List (S67))), false)) else (some (t102, true)))) = some (r1, r2) := by rw [if_pos rfl] at H; exact H
  clear H
  have H := H1
  clear H1
  replace H := Option.bind_eq_some_iff.mp H
  obtain ⟨t102, A40, H⟩ := H
  replace H : (if (t102.length : Int) > 400 then (some ((([] : List (S67))), false)) else (some (t102, true))) = some (r1, r2) := H
  have A4 := a1z.mk A40
  clear A40
  by_cases c5 : (t102.length : Int) > 400
  ·rw [if_pos c5] at H
   have c5b0 : decide (400 < (t102.length : Int)) = true := decide_eq_true c5
   have c5b1 : decide (400 < t102.length) = true := decide_eq_true (by omega)
   clear c5
   obtain ⟨y105, hy105⟩ : ∃ y_ : List (S67), y_ = (([] : List (S67))) := ⟨_, rfl⟩
   replace H : (some (y105, false)) = some (r1, r2) := by first | (rw [hy105]; with_reducible exact H) | (have H2_ := (Option.bind_some _ _).symm.trans H; rw [hy105]; with_reducible exact H2_) | (have H2_ := (Option.bind_some _ _).symm.trans H; with_reducible exact H2_) | with_reducible exact H | (rw [hy105]; exact H) | exact H
   have Ny105 := a1z.mk hy105
   clear hy105
   simp only [Option.some.injEq, Prod.mk.injEq] at H
   obtain ⟨rfl, rfl⟩ := H
   go_enter Try.func87, Try.ntmps87
   go_wp2_with (first | ((with_reducible refine c5z (f := 36) rfl ?_); refine d5z (some 6) rfl rfl Try.func36 (by kernel_rfl) rfl #[.slice A0 l0.length c0] rfl (by (try simp only [List.map_toArray, List.map_cons, List.map_nil]); first | done | rfl | (simp only [List.length_drop, List.length_take]; rfl)) ?_; (with_reducible refine (spec_RulesOk.calls k _ _ l0 true _ ?side1 ?side2 A2.1).mono ?_); (case side1 => repeat (first | exact HR0.1 | (with_reducible refine Kd.C_alloc ?_ _) | (with_reducible refine Kd.C_drewN ?_ _) | (with_reducible refine Kd.C_drew ?_))); (case side2 => exact HC0.1); rintro e w6 ⟨rfl, hb⟩; refine ⟨_, rfl, ?_⟩; have n0_ := a1z.mk (b7z (by repeat (first | (with_reducible first | exact HB.1 | apply a5z | apply a2z | apply a4z) | exact HB.1)) hb); clear HB; have HB := n0_; clear n0_; (try clear hb); (try clear hb2); (try clear hk); (try clear hi)) | ((with_reducible refine c5z (f := 109) rfl ?_); refine d5z (some 10) rfl rfl Try.func109 (by kernel_rfl) rfl #[.slice A0 l0.length c0] rfl (by (try simp only [List.map_toArray, List.map_cons, List.map_nil]); first | done | rfl | (simp only [List.length_drop, List.length_take]; rfl)) ?_; (with_reducible refine (spec_l5Cells.calls k _ _ l0 t102 _ ?side1 ?side2 A4.1).mono ?_); (case side1 => repeat (first | exact (Kd.g1z HR0.1 HB.1) | (with_reducible refine Kd.C_alloc ?_ _) | (with_reducible refine Kd.C_drewN ?_ _) | (with_reducible refine Kd.C_drew ?_))); (case side2 => exact HC0.1); rintro e w7 ⟨v103, rfl, ho0, hb⟩; refine ⟨_, rfl, ?_⟩; have n0_ := a1z.mk (Kd.e4z ho0 (b5z (by repeat (first | (with_reducible first | exact HB.1 | apply a5z | apply a2z | apply a4z) | exact HB.1)))); have n1_ := a1z.mk (b7z (by repeat (first | (with_reducible first | exact HB.1 | apply a5z | apply a2z | apply a4z) | exact HB.1)) hb); clear HB; have HO104 := n0_; have HB := n1_; clear n0_ n1_; (try clear hb); (try clear hb2); (try clear hk); (try clear hi); (try clear ho0); obtain ⟨Ao8, co8, eo8⟩ := Kd.d6z HO104.1; subst eo8) | ((with_reducible refine d1z (N := 14) rfl ?_); refine Kd.R_lit k67 _ 67 ?hg (N := 14) ?hd (xs := ([] : List (S67))) (inner := []) (ok := fun _ => True) (okp := fun _ => True) ?hr ?hp (fun _ hk => hk) trivial (Below.refl _ _) (Nat.le_refl _) (by simp) ?_; (case hd => rfl); (case hg => rfl); (case hr => first | (go_simp; done) | (go_simp; rfl)); (case hp => exact (Reps.none _ _)); intro v106 w9 ho10 hb hg_ hnew_; clear hg_ hnew_; (first | rw [← Ny105.1] at ho10 | (simp only [Int.reduceToNat] at ho10; rw [← Ny105.1] at ho10)); have n0_ := a1z.mk (Kd.f0z (by (with_reducible repeat (first | apply Kd.R_alloc | apply Kd.b1z | apply Kd.b3z)); exact HO104.1) (Kd.f8z ho10) hb); have n1_ := a1z.mk (Kd.e4z (Kd.f9z ho10 (Kd.R_lt (by (with_reducible repeat (first | apply Kd.R_alloc | apply Kd.b1z | apply Kd.b3z)); exact HO104.1))) (b5z (by repeat (first | (with_reducible first | exact HB.1 | apply a5z | apply a2z | apply a4z) | exact HB.1)))); have n2_ := a1z.mk (b7z (by repeat (first | (with_reducible first | exact HB.1 | apply a5z | apply a2z | apply a4z) | exact HB.1)) hb); clear HO104; clear HB; have HO104 := n0_; have HO107 := n1_; have HB := n2_; clear n0_ n1_ n2_; clear hb ho10))
   go_ret2
   exact ⟨_, by first | rfl | (simp [c2z, c1z] <;> rfl) | (simp [*, c2z, c1z] <;> rfl), by (with_reducible repeat (first | apply Kd.R_alloc | apply Kd.b1z | apply Kd.b3z)); exact Kd.c6z HO107.1 (fun _ hk => trivial), by repeat (first | (with_reducible first | exact HB.1 | apply a5z | apply a2z | apply a4z) | exact HB.1)⟩
  ·rw [if_neg c5] at H
   have c5b0 : decide (400 < (t102.length : Int)) = false := decide_eq_false c5
   have c5b1 : decide (400 < t102.length) = false := decide_eq_false (by omega)
   clear c5
   simp only [Option.some.injEq, Prod.mk.injEq] at H
   obtain ⟨rfl, rfl⟩ := H
   go_enter Try.func87, Try.ntmps87
   go_wp2_with (first | ((with_reducible refine c5z (f := 36) rfl ?_); refine d5z (some 6) rfl rfl Try.func36 (by kernel_rfl) rfl #[.slice A0 l0.length c0] rfl (by (try simp only [List.map_toArray, List.map_cons, List.map_nil]); first | done | rfl | (simp only [List.length_drop, List.length_take]; rfl)) ?_; (with_reducible refine (spec_RulesOk.calls k _ _ l0 true _ ?side1 ?side2 A2.1).mono ?_); (case side1 => repeat (first | exact HR0.1 | (with_reducible refine Kd.C_alloc ?_ _) | (with_reducible refine Kd.C_drewN ?_ _) | (with_reducible refine Kd.C_drew ?_))); (case side2 => exact HC0.1); rintro e w11 ⟨rfl, hb⟩; refine ⟨_, rfl, ?_⟩; have n0_ := a1z.mk (b7z (by repeat (first | (with_reducible first | exact HB.1 | apply a5z | apply a2z | apply a4z) | exact HB.1)) hb); clear HB; have HB := n0_; clear n0_; (try clear hb); (try clear hb2); (try clear hk); (try clear hi)) | ((with_reducible refine c5z (f := 109) rfl ?_); refine d5z (some 10) rfl rfl Try.func109 (by kernel_rfl) rfl #[.slice A0 l0.length c0] rfl (by (try simp only [List.map_toArray, List.map_cons, List.map_nil]); first | done | rfl | (simp only [List.length_drop, List.length_take]; rfl)) ?_; (with_reducible refine (spec_l5Cells.calls k _ _ l0 t102 _ ?side1 ?side2 A4.1).mono ?_); (case side1 => repeat (first | exact (Kd.g1z HR0.1 HB.1) | (with_reducible refine Kd.C_alloc ?_ _) | (with_reducible refine Kd.C_drewN ?_ _) | (with_reducible refine Kd.C_drew ?_))); (case side2 => exact HC0.1); rintro e w12 ⟨v103, rfl, ho0, hb⟩; refine ⟨_, rfl, ?_⟩; have n0_ := a1z.mk (Kd.e4z ho0 (b5z (by repeat (first | (with_reducible first | exact HB.1 | apply a5z | apply a2z | apply a4z) | exact HB.1)))); have n1_ := a1z.mk (b7z (by repeat (first | (with_reducible first | exact HB.1 | apply a5z | apply a2z | apply a4z) | exact HB.1)) hb); clear HB; have HO104 := n0_; have HB := n1_; clear n0_ n1_; (try clear hb); (try clear hb2); (try clear hk); (try clear hi); (try clear ho0); obtain ⟨Ao13, co13, eo13⟩ := Kd.d6z HO104.1; subst eo13))
   go_ret2
   exact ⟨_, by first | rfl | (simp [c2z, c1z] <;> rfl) | (simp [*, c2z, c1z] <;> rfl), by (with_reducible repeat (first | apply Kd.R_alloc | apply Kd.b1z | apply Kd.b3z)); exact HO104.1, by repeat (first | (with_reducible first | exact HB.1 | apply a5z | apply a2z | apply a4z) | exact HB.1)⟩
 ·replace c3 := Bool.eq_false_iff.mpr c3
  subst c3
  have H1 : (some ((([] : List (S67))), false)) = some (r1, r2) := by rw [if_neg (show ¬ (false = true) by decide)] at H; exact H
  clear H
  have H := H1
  clear H1
  obtain ⟨y108, hy108⟩ : ∃ y_ : List (S67), y_ = (([] : List (S67))) := ⟨_, rfl⟩
  replace H : (some (y108, false)) = some (r1, r2) := by first | (rw [hy108]; with_reducible exact H) | (have H2_ := (Option.bind_some _ _).symm.trans H; rw [hy108]; with_reducible exact H2_) | (have H2_ := (Option.bind_some _ _).symm.trans H; with_reducible exact H2_) | with_reducible exact H | (rw [hy108]; exact H) | exact H
  have Ny108 := a1z.mk hy108
  clear hy108
  simp only [Option.some.injEq, Prod.mk.injEq] at H
  obtain ⟨rfl, rfl⟩ := H
  go_enter Try.func87, Try.ntmps87
  go_wp2_with (first | ((with_reducible refine c5z (f := 36) rfl ?_); refine d5z (some 6) rfl rfl Try.func36 (by kernel_rfl) rfl #[.slice A0 l0.length c0] rfl (by (try simp only [List.map_toArray, List.map_cons, List.map_nil]); first | done | rfl | (simp only [List.length_drop, List.length_take]; rfl)) ?_; (with_reducible refine (spec_RulesOk.calls k _ _ l0 false _ ?side1 ?side2 A2.1).mono ?_); (case side1 => repeat (first | exact HR0.1 | (with_reducible refine Kd.C_alloc ?_ _) | (with_reducible refine Kd.C_drewN ?_ _) | (with_reducible refine Kd.C_drew ?_))); (case side2 => exact HC0.1); rintro e w14 ⟨rfl, hb⟩; refine ⟨_, rfl, ?_⟩; have n0_ := a1z.mk (b7z (by repeat (first | (with_reducible first | exact HB.1 | apply a5z | apply a2z | apply a4z) | exact HB.1)) hb); clear HB; have HB := n0_; clear n0_; (try clear hb); (try clear hb2); (try clear hk); (try clear hi)) | ((with_reducible refine d1z (N := 8) rfl ?_); refine Kd.R_lit k67 _ 67 ?hg (N := 8) ?hd (xs := ([] : List (S67))) (inner := []) (ok := fun _ => True) (okp := fun _ => True) ?hr ?hp (fun _ hk => hk) trivial (Below.refl _ _) (Nat.le_refl _) (by simp) ?_; (case hd => rfl); (case hg => rfl); (case hr => first | (go_simp; done) | (go_simp; rfl)); (case hp => exact (Reps.none _ _)); intro v109 w15 ho16 hb hg_ hnew_; clear hg_ hnew_; (first | rw [← Ny108.1] at ho16 | (simp only [Int.reduceToNat] at ho16; rw [← Ny108.1] at ho16)); have n0_ := a1z.mk (Kd.e4z ho16 (b5z (by repeat (first | (with_reducible first | exact HB.1 | apply a5z | apply a2z | apply a4z) | exact HB.1)))); have n1_ := a1z.mk (b7z (by repeat (first | (with_reducible first | exact HB.1 | apply a5z | apply a2z | apply a4z) | exact HB.1)) hb); clear HB; have HO110 := n0_; have HB := n1_; clear n0_ n1_; clear hb ho16))
  go_ret2
  exact ⟨_, by first | rfl | (simp [c2z, c1z] <;> rfl) | (simp [*, c2z, c1z] <;> rfl), by (with_reducible repeat (first | apply Kd.R_alloc | apply Kd.b1z | apply Kd.b3z)); exact HO110.1, by repeat (first | (with_reducible first | exact HB.1 | apply a5z | apply a2z | apply a4z) | exact HB.1)⟩
end Go.Proofs.Ytbhgkpfbggkgdaa.Q

namespace Go.Proofs.Ytbhgkpfbggkgdaa.Q
open Go.RowKit Go.Proofs.YtbhgkpfbggkgdaaW.PrintWords Go.Proofs.YtbhgkpfbggkgdaaW.PrintLast Go.Proofs.YtbhgkpfbggkgdaaW.PrintMore
attribute [local go_sem] e8z e6z f5z f4z e1z e0z e7z e5z
set_option linter.unusedVariables false
set_option linter.unusedSimpArgs false
def spec_l1Over.f (k : Nat) (a0 : Int) (a1 : Int) : Option (Int × Int) := (spec_l1Size.f k a1).bind fun t102 => (if t102 = 0 then (none) else ((spec_l1Size.f k a1).bind fun t103 => (some (wrap64 ((wrap64 (Int.tdiv a0 t102)) * t103), a1))))
def spec_l1Over.T1 : Bool × List (List Nat × List Nat) := (true, [([], []), ([], []), ([1], [1]), ([0, 2], [0, 2]), ([], []), ([4, 2], [4]), ([3, 5], [3, 5]), ([], []), ([6, 7], [6, 7]), ([8, 5, 0, 1, 2, 3, 4, 5, 6, 7, 8], [8])])
def spec_l1Over.B1 : List Nat := [0, 0, 2, 7, 0, 22, 63, 0, 255, 511]
theorem spec_l1Over.tab1 : rtab .any (opsOf Try.f60 1) = spec_l1Over.T1 := by kernel_rfl
theorem spec_l1Over.bits1 : waitsOk spec_l1Over.T1.2 spec_l1Over.B1 = true := by kernel_rfl
set_option maxHeartbeats 8000000 in
set_option maxRecDepth 100000 in
theorem spec_l1Over.calls (k : Nat) (a0 : Int) (a1 : Int) (r1 : Int) (r2 : Int) (w : World) (h : spec_l1Over.f k a0 a1 = some (r1, r2)) :
  Calls Try.prog 60 #[.int .i64 a0, .int .i64 a1] w fun e w' => e = .returned (.agg #[.int .i64 r1, .int .i64 r2]) ∧ Below w.heap.size w w' := by
 have hu24 := Try.underlying24
 have HB := a1z.mk (Below.refl w.heap.size w)
 have H : ((spec_l1Size.f k a1).bind fun t102 => (if t102 = 0 then (none) else ((spec_l1Size.f k a1).bind fun t103 => (some (wrap64 ((wrap64 (Int.tdiv a0 t102)) * t103), a1))))) = some (r1, r2) := h
 clear h
 replace H := Option.bind_eq_some_iff.mp H
 obtain ⟨t102, A30, H⟩ := H
 replace H : (if t102 = 0 then (none) else ((spec_l1Size.f k a1).bind fun t103 => (some (wrap64 ((wrap64 (Int.tdiv a0 t102)) * t103), a1)))) = some (r1, r2) := H
 have A3 := a1z.mk A30
 clear A30
 by_cases c4 : t102 = 0
 ·rw [if_pos c4] at H
  exact absurd H (by simp)
 ·rw [if_neg c4] at H
  have c4b0 : (t102 == 0) = false := beq_eq_false_iff_ne.mpr c4
  have c4b1 : (t102 != 0) = true := bne_iff_ne.mpr c4
  replace H := Option.bind_eq_some_iff.mp H
  obtain ⟨t103, A50, H⟩ := H
  replace H : (some (wrap64 ((wrap64 (Int.tdiv a0 t102)) * t103), a1)) = some (r1, r2) := H
  have A5 := a1z.mk A50
  clear A50
  simp only [Option.some.injEq, Prod.mk.injEq] at H
  obtain ⟨rfl, rfl⟩ := H
  go_enter Try.func60, Try.ntmps60
  try go_wp2_with (first | ((with_reducible refine d1z (N := 4) rfl ?_); refine d3z ?hg (N := 4) ?hd (cs := #[.int .i64 0, .int .i64 0]) (t := 24) ?hr ?_; (case hd => rfl); (case hg => rfl); (case hr => first | (go_simp; done) | (go_simp; rfl)); intro gb101 hg w6 hbox hb; have n0_ := a1z.mk (b7z (by repeat (first | (with_reducible first | exact HB.1 | apply a5z | apply a2z | apply a4z) | exact HB.1)) hb); have n1_ := a1z.mk (hbox); have n2_ := a1z.mk ((by rw [hg]; exact (b5z (by repeat (first | (with_reducible first | exact HB.1 | apply a5z | apply a2z | apply a4z) | exact HB.1))) : w.heap.size ≤ gb101)); have n3_ := a1z.mk ((by rw [hg]; exact (b5z (by repeat (first | (with_reducible first | exact HB.1 | apply a5z | apply a2z | apply a4z) | exact HB.1))) : w.heap.size ≤ gb101)); clear HB; have HB := n0_; have BK101 := n1_; have GW101 := n2_; have GE101 := n3_; clear n0_ n1_ n2_ n3_; clear hb hbox hg))
  have n0_ := a1z.mk (a8z BK101.1)
  have n1_ := a1z.mk (a4z HB.1)
  clear BK101
  clear HB
  have BK101 := n0_
  have HB := n1_
  clear n0_ n1_
  refine h9z (n := 10) (S := fun w' => True) (ds := []) #[false, false, false, false, false, false, false, false, false, false] (by kernel_rfl) rfl rfl trivial (fun hHeld => ?_); refine g7z spec_l1Over.tab1 spec_l1Over.bits1 (fun HT_ HW_ => ?_)
  generalize w6.drew = w7 at BK101 HB hHeld ⊢
  refine pure_ (i := 0) (N := some 5) (v := ?_) (a' := ?_) #[true, false, false, false, false, false, false, false, false, false] rfl rfl (c9z HT_.1 (by kernel_rfl)) (fun _ _ _ h => h) (Or.inl ⟨by rfl, ?_⟩) ?_ ?_
  rotate_left
  ·intro w'
   go_simp
   with_reducible rfl
  rotate_left
  ·simp only [Act.put, sA_, sZ_, sS_, i64_w, i32_w]
   rfl
  refine pure_ (i := 1) (N := some 6) (v := ?_) (a' := ?_) #[true, true, false, false, false, false, false, false, false, false] rfl rfl (c9z HT_.1 (by kernel_rfl)) (fun _ _ _ h => h) (Or.inl ⟨by rfl, ?_⟩) ?_ ?_
  rotate_left
  ·intro w'
   go_simp
   with_reducible rfl
  rotate_left
  ·simp only [Act.put, sA_, sZ_, sS_, i64_w, i32_w]
   rfl
  refine pure_ (i := 4) (N := some 9) (v := ?_) (a' := ?_) #[true, true, false, false, true, false, false, false, false, false] rfl rfl (c9z HT_.1 (by kernel_rfl)) (fun _ _ _ h => h) (Or.inl ⟨by rfl, ?_⟩) ?_ ?_
  rotate_left
  ·intro w'
   go_simp
   with_reducible rfl
  rotate_left
  ·simp only [Act.put, sA_, sZ_, sS_, i64_w, i32_w]
   rfl
  refine pure_ (i := 7) (N := some 12) (v := ?_) (a' := ?_) #[true, true, false, false, true, false, false, true, false, false] rfl rfl (c9z HT_.1 (by kernel_rfl)) (fun _ _ _ h => h) (Or.inl ⟨by rfl, ?_⟩) ?_ ?_
  rotate_left
  ·intro w'
   go_simp
   with_reducible rfl
  rotate_left
  ·simp only [Act.put, sA_, sZ_, sS_, i64_w, i32_w]
   rfl
  refine one_ (i := 2) (N := some 7) #[true, true, true, false, true, false, false, true, false, false] rfl rfl (f1z HT_.1 (by kernel_rfl)) (by decide) (fun K hK => ?_)
  refine goes_ Try.func73 (by kernel_rfl) rfl #[.int .i64 a1] (by rfl) rfl rfl (by (try simp only [List.map_toArray, List.map_cons, List.map_nil]); first | done | rfl | (simp only [List.length_drop, List.length_take]; rfl)) ?_
  with_reducible refine (spec_l1Size.calls k a1 t102 _ A3.1).mono ?_
  rintro e w' ⟨rfl, ⟨nd, rfl⟩⟩
  refine ⟨_, rfl, ?_⟩
  refine hK.out _ _ trivial (fun hHeld => ?_)
  clear hK K
  refine norm_ (a' := ?_) ?_ ?_
  rotate_left
  ·show Act.put _ (some 7) _ = _
   simp only [Act.put, sA_, sZ_, sS_, i64_w, i32_w]
   rfl
  refine pure_ (i := 3) (N := some 8) (v := ?_) (a' := ?_) #[true, true, true, true, true, false, false, true, false, false] rfl rfl (c9z HT_.1 (by kernel_rfl)) (fun _ _ _ h => h) (Or.inl ⟨by rfl, ?_⟩) ?_ ?_
  rotate_left
  ·intro w'
   go_simp
   with_reducible rfl
  rotate_left
  ·simp only [Act.put, sA_, sZ_, sS_, i64_w, i32_w]
   rfl
  refine one_ (i := 5) (N := some 10) #[true, true, true, true, true, true, false, true, false, false] rfl rfl (f1z HT_.1 (by kernel_rfl)) (by decide) (fun K hK => ?_)
  refine goes_ Try.func73 (by kernel_rfl) rfl #[.int .i64 a1] (by rfl) rfl rfl (by (try simp only [List.map_toArray, List.map_cons, List.map_nil]); first | done | rfl | (simp only [List.length_drop, List.length_take]; rfl)) ?_
  with_reducible refine (spec_l1Size.calls k a1 t103 _ A5.1).mono ?_
  rintro e w' ⟨rfl, ⟨nd, rfl⟩⟩
  refine ⟨_, rfl, ?_⟩
  refine hK.out _ _ trivial (fun hHeld => ?_)
  clear hK K
  refine norm_ (a' := ?_) ?_ ?_
  rotate_left
  ·show Act.put _ (some 10) _ = _
   simp only [Act.put, sA_, sZ_, sS_, i64_w, i32_w]
   rfl
  refine pure_ (i := 6) (N := some 11) (v := ?_) (a' := ?_) #[true, true, true, true, true, true, true, true, false, false] rfl rfl (c9z HT_.1 (by kernel_rfl)) (fun _ _ _ h => h) (Or.inl ⟨by rfl, ?_⟩) ?_ ?_
  rotate_left
  ·intro w'
   go_simp
   with_reducible rfl
  rotate_left
  ·simp only [Act.put, sA_, sZ_, sS_, i64_w, i32_w]
   rfl
  refine pure_ (i := 8) (N := some 13) (v := ?_) (a' := ?_) #[true, true, true, true, true, true, true, true, true, false] rfl rfl (c9z HT_.1 (by kernel_rfl)) (fun _ _ _ h => h) (Or.inl ⟨by rfl, ?_⟩) ?_ ?_
  rotate_left
  ·intro w'
   go_simp
   with_reducible rfl
  rotate_left
  ·simp only [Act.put, sA_, sZ_, sS_, i64_w, i32_w]
   rfl
  refine one_ (i := 9) (N := none) #[true, true, true, true, true, true, true, true, true, true] rfl rfl (f1z HT_.1 (by kernel_rfl)) (by decide) (fun K hK => ?_)
  have hs8 : w7.cell? ⟨gb101, 0, none⟩ = some (.int .i64 0) := (a0z BK101.1 0).trans rfl
  have hfs8 := a3z BK101.1 0
  have hs9 : w7.cell? ⟨gb101, 1, none⟩ = some (.int .i64 0) := (a0z BK101.1 1).trans rfl
  have hfs9 := a3z BK101.1 1
  refine skip_ (w1 := ?_) (by rfl) rfl ?_ ?_
  rotate_left
  ·go_simp
   rfl
  refine hK.out _ _ trivial (fun hHeld => ?_)
  clear hK K
  refine done_ (h7z HT_.1 (by kernel_rfl)) ?_
  try go_wp2
  refine bodyPost_ret (results_cell_row rfl _ _ gb101 24 #[.int .i64 (wrap64 ((wrap64 (Int.tdiv a0 t102)) * t103)), .int .i64 a1] (0, 0) _ rfl (by (with_reducible repeat (first | refine a7z ?_ _ | refine a8z ?_ | refine blk_alloc ?_ _)); refine d0z (cs := #[.int .i64 (wrap64 ((wrap64 (Int.tdiv a0 t102)) * t103)), .int .i64 0]) ?_ 1 _ rfl; (with_reducible repeat (first | refine a7z ?_ _ | refine a8z ?_ | refine blk_alloc ?_ _)); refine d0z (cs := #[.int .i64 0, .int .i64 0]) ?_ 0 _ rfl; (with_reducible repeat (first | refine a7z ?_ _ | refine a8z ?_ | refine blk_alloc ?_ _)); exact BK101.1) Try.underlying24 rfl (by kernel_rfl)) rfl ?_
  exact ⟨by first | rfl | (simp [c2z, c1z] <;> rfl) | (simp [*, c2z, c1z] <;> rfl), by repeat (first | (with_reducible first | exact HB.1 | apply a5z | apply a2z | apply a4z | refine a9z ?_ GE101.1) | exact HB.1)⟩
end Go.Proofs.Ytbhgkpfbggkgdaa.Q

namespace Go.Proofs.Ytbhgkpfbggkgdaa.Q
open Go.RowKit Go.Proofs.YtbhgkpfbggkgdaaW.PrintWords Go.Proofs.YtbhgkpfbggkgdaaW.PrintLast Go.Proofs.YtbhgkpfbggkgdaaW.PrintMore
attribute [local go_sem] e8z e6z f5z f4z e1z e0z e7z e5z
set_option linter.unusedVariables false
set_option linter.unusedSimpArgs false
def spec_l1Rd_one.f (k : Nat) (s0_0 : List Int) (s0_1 : Int) (l1 : List Int) : Option (Int × Int) := (spec_l1Rd_pick.f k s0_0 s0_1 (l1.length : Int)).bind fun bt101 => (if 0 ≤ bt101.1 then (if bt101.1 < (l1.length : Int) then (some (rd l1 bt101.1, bt101.2)) else (none)) else (none))
set_option maxHeartbeats 8000000 in
set_option maxRecDepth 100000 in
theorem spec_l1Rd_one.calls (k : Nat) (g : Nat) (s0_0 : List Int) (s0_1 : Int) (A1 : Option Addr) (c1 : Nat) (l1 : List Int) (r1 : Int) (r2 : Int) (w0 w : World) (hI : a6z w0 w g s0_0 s0_1) (hB : Below w0.heap.size w0 w) (hr1 : Kd.C (Kd.int .i64) w A1 l1.length l1) (hc1 : l1.length ≤ c1) (hf1 : ∀ ad, A1 = some ad → 0 < l1.length → ad.block ≠ g) (h : spec_l1Rd_one.f k s0_0 s0_1 l1 = some (r1, r2)) :
  Calls Try.prog 102 #[.pointer (some ⟨g, 0, none⟩), .slice A1 l1.length c1] w fun e w' => e = .returned (.int .i64 r1) ∧ a6z w0 w' g s0_0 r2 ∧ Below w0.heap.size w0 w' ∧ b4z w w' g none := by
 have HR1 := a1z.mk hr1
 have HC1 := a1z.mk hc1
 clear hr1 hc1
 have HI0 := a1z.mk hI
 have HK := a1z.mk (b4z.refl w g none)
 have HL := a1z.mk hB.size
 clear hI
 have HW0 := a1z.mk hB.size
 have HB := a1z.mk hB
 clear hB
 have H : ((spec_l1Rd_pick.f k s0_0 s0_1 (l1.length : Int)).bind fun bt101 => (if 0 ≤ bt101.1 then (if bt101.1 < (l1.length : Int) then (some (rd l1 bt101.1, bt101.2)) else (none)) else (none))) = some (r1, r2) := h
 clear h
 replace H := Option.bind_eq_some_iff.mp H
 obtain ⟨⟨t101, t102⟩, A30, H⟩ := H
 replace H : (if 0 ≤ t101 then (if t101 < (l1.length : Int) then (some (rd l1 t101, t102)) else (none)) else (none)) = some (r1, r2) := H
 have A3 := a1z.mk A30
 clear A30
 by_cases c4 : 0 ≤ t101
 ·rw [if_pos c4] at H
  have c4b0 : decide (0 ≤ t101) = true := decide_eq_true c4
  clear c4
  by_cases c5 : t101 < (l1.length : Int)
  ·rw [if_pos c5] at H
   have c5b0 : decide (t101 < (l1.length : Int)) = true := decide_eq_true c5
   clear c5
   simp only [Option.some.injEq, Prod.mk.injEq] at H
   obtain ⟨rfl, rfl⟩ := H
   go_enter Try.func102, Try.ntmps102
   go_wp2_with (first | ((with_reducible refine c5z (f := 89) rfl ?_); refine d5z (some 9) rfl rfl Try.func89 (by kernel_rfl) rfl #[.pointer (some ⟨g, 0, none⟩), .int .i64 (l1.length : Int)] rfl (by (try simp only [List.map_toArray, List.map_cons, List.map_nil]); first | done | rfl | (simp only [List.length_drop, List.length_take]; rfl)) ?_; (with_reducible refine (spec_l1Rd_pick.calls k g s0_0 s0_1 (l1.length : Int) t101 t102 w0 _ ?side1 ?side2 A3.1).mono ?_); (case side1 => repeat (first | (with_reducible first | exact HI0.1 | apply a6z.alloc | apply a6z.drewN | apply a6z.drew | apply a6z.set_1) | exact HI0.1)); (case side2 => repeat (first | (with_reducible first | exact HB.1 | apply a5z | apply a2z | apply a4z | refine a9z ?_ (a6z.ge HI0.1)) | exact HB.1)); rintro e w6 ⟨rfl, hi, hb, hk⟩; refine ⟨_, rfl, ?_⟩; have n0_ := a1z.mk (b4z.trans (by repeat (first | (with_reducible first | exact HK.1 | apply b4z.set_ | apply c0z | apply keep_drew | apply keep_alloc) | exact HK.1)) hk (.inl rfl)); have n1_ := a1z.mk (hb); have n2_ := a1z.mk (hi); clear HK; clear HB; clear HI0; have HK := n0_; have HB := n1_; have HI0 := n2_; clear n0_ n1_ n2_; (try clear hb); (try clear hb2); (try clear hk); (try clear hi); have p103 : 0 ≤ (t101 : Int) := of_decide_eq_true (by first | (with_reducible assumption) | assumption); have q103 : t101 < (l1.length : Int) := of_decide_eq_true (by first | (with_reducible assumption) | assumption); obtain ⟨ad103, e103, hx103_0⟩ := Kd.g9z HR1.1 t101 p103 q103; cases e103; replace hx103_0 := f2z HK.1 hx103_0 (by first | (rw [b0z]; exact hf1 _ rfl (by omega)) | exact hf1 _ rfl (by omega) | exact hf1 ad103 rfl (by omega)); replace p103 := eq_true p103; replace q103 := eq_true q103))
   go_ret
   exact ⟨by first | rfl | (simp [c2z, c1z] <;> rfl) | (simp [*, c2z, c1z] <;> rfl), by repeat (first | (with_reducible first | exact HI0.1 | apply a6z.alloc | apply a6z.drewN | apply a6z.drew | apply a6z.set_1) | exact HI0.1), by repeat (first | (with_reducible first | exact HB.1 | apply a5z | apply a2z | apply a4z | refine a9z ?_ (a6z.ge HI0.1)) | exact HB.1), by repeat (first | (with_reducible first | exact HK.1 | apply b4z.set_ | apply c0z | apply keep_drew | apply keep_alloc) | exact HK.1)⟩
  ·rw [if_neg c5] at H
   exact absurd H (by simp)
 ·rw [if_neg c4] at H
  exact absurd H (by simp)
end Go.Proofs.Ytbhgkpfbggkgdaa.Q
