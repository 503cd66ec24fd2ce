/- The law FnExactRulesGet (part 6 of 6): for every input the call answers true and its arguments read afterwards as before. No condition beyond the row's own. -/
import Derived.Deep.Slices
import Derived.Deep.Fields
import Derived.ChangeSame
import Derived.ProofKit
import Derived.WideShapes
import Derived.Test.YtgbdnbbfgcogjaaGreatDoorTie
import Derived.Handed
import Derived.HandedShaped
import Derived.Shelf.Vars
import Derived.LaidMore
import Derived.Lay
import Derived.OpenShut
import Derived.Stop.Joined
import Derived.Stop.LaidErr
import Derived.Test.YtgbdnbbfgcogjaaGreatDoorRows
import Derived.WalkKit
import Derived.ShutString
import Derived.ChangeOld
import Derived.Below
import Derived.SizedLaws
import Derived.Test.YtgbdnbbfgcogjaaGreatDoorCards
import Derived.SevenTiedAt
import Derived.Test.YtgbdnbbfgcogjaaGreatDoorCFnExactRulesGet5
namespace Go.Proofs.YtgbdnbbfgcogjaaGreatDoor.Q
open Go.RowKit Go.Proofs.YtgbdnbbfgcogjaaGreatDoorW.PrintWords Go.Proofs.YtgbdnbbfgcogjaaGreatDoorW.PrintLast Go.Proofs.YtgbdnbbfgcogjaaGreatDoorW.PrintMore
attribute [local go_sem] max2_int min2_int max_two min_two max_three min_three max_four min_four
set_option linter.unusedVariables false
set_option linter.unusedSimpArgs false
def laws_eqRuleS.l0 : Nat → List (S39) → List (S39) → Int → Option (Bool)
 | 0, _, _, _ => none
 | k + 1, x0, x1, x5 => if x5 < (x0.length : Int) then (if 0 ≤ x5 then (if x5 < (x1.length : Int) then ((laws_eqRule.f ((rd_T39 x0 x5).f0) ((rd_T39 x0 x5).f1) ((rd_T39 x0 x5).f2.f0) ((rd_T39 x0 x5).f2.f1) ((rd_T39 x0 x5).f3.f0) ((rd_T39 x0 x5).f3.f1) ((rd_T39 x0 x5).f4) ((rd_T39 x0 x5).f5) ((rd_T39 x1 x5).f0) ((rd_T39 x1 x5).f1) ((rd_T39 x1 x5).f2.f0) ((rd_T39 x1 x5).f2.f1) ((rd_T39 x1 x5).f3.f0) ((rd_T39 x1 x5).f3.f1) ((rd_T39 x1 x5).f4) ((rd_T39 x1 x5).f5)).bind fun t103 => (if t103 = true then (laws_eqRuleS.l0 k x0 x1 (wrap64 (x5 + 1))) else (some false))) else (none)) else (none)) else (some true)
def laws_eqRuleS.f (k : Nat) (l0 : List (S39)) (l1 : List (S39)) : Option (Bool) := if (l0.length : Int) = (l1.length : Int) then (laws_eqRuleS.l0 k l0 l1 0) else (some false)
def laws_eqRuleS.T6 : Bool × List (List Nat × List Nat) := (true, [([], []), ([], []), ([0, 1], [0, 1]), ([2], [2]), ([], []), ([], []), ([4, 5], [4, 5]), ([6], [6]), ([3, 7], [3, 7]), ([8], [8])])
def laws_eqRuleS.B6 : List Nat := [0, 0, 3, 7, 0, 0, 48, 112, 255, 511]
theorem laws_eqRuleS.tab6 : rtab .any (opsOf Tryz.f7 6) = laws_eqRuleS.T6 := by kernel_rfl
theorem laws_eqRuleS.bits6 : waitsOk laws_eqRuleS.T6.2 laws_eqRuleS.B6 = true := by kernel_rfl
set_option maxHeartbeats 8000000 in
set_option maxRecDepth 100000 in
theorem laws_eqRuleS.calls (k : Nat) (A0 : Option Addr) (c0 : Nat) (l0 : List (S39)) (A1 : Option Addr) (c1 : Nat) (l1 : List (S39)) (r : Bool) (w : World) (hr0 : Kd.C k39 w A0 l0.length l0) (hc0 : l0.length ≤ c0) (hr1 : Kd.C k39 w A1 l1.length l1) (hc1 : l1.length ≤ c1) (h : laws_eqRuleS.f k l0 l1 = some r) :
  Calls Tryz.prog 7 #[.slice A0 l0.length c0, .slice A1 l1.length c1] w fun e w' => e = .returned (.bool r) ∧ Below w.heap.size w w' := by
 have hu39 := Tryz.underlying39
 have HR0 := Aside0.mk hr0
 have HC0 := Aside0.mk hc0
 clear hr0 hc0
 have HR1 := Aside0.mk hr1
 have HC1 := Aside0.mk hc1
 clear hr1 hc1
 have HB := Aside0.mk (Below.refl w.heap.size w)
 have H : (if (l0.length : Int) = (l1.length : Int) then (laws_eqRuleS.l0 k l0 l1 0) else (some false)) = some r := h
 clear h
 by_cases c3 : (l0.length : Int) = (l1.length : Int)
 ·rw [if_pos c3] at H
  have c3b0 : ((l0.length : Int) == (l1.length : Int)) = true := beq_iff_eq.mpr c3
  have c3b1 : ((l0.length : Int) != (l1.length : Int)) = false := bne_eq_false_iff_eq.mpr c3
  have c3b2 : (l0.length == l1.length) = true := by first | simpa using c3 | (simp at c3 ⊢; omega)
  clear c3
  have H' := Aside0.mk H
  clear H
  go_enter Tryz.func7, Tryz.ntmps7
  go_wp2
  go_loopg [5] k (fun kq v5 w' => ∃ (x5_1 : Int), v5 = .int .i64 x5_1 ∧ Aside0 (laws_eqRuleS.l0 kq l0 l1 x5_1 = some r) ∧ Aside0 (kq ≤ k) ∧ Aside0 (Below w.heap.size w w'))
  case atStart => exact ⟨(0), (by first | rfl | (simp; done) | (simp [*]; done)), H', ⟨Nat.le_refl _⟩, ⟨by repeat (first | (with_reducible first | exact HB.out | apply below_alloc | apply pw_below_drewN | apply below_drew1) | exact HB.out)⟩⟩
  case round =>
   clear H'
   try clear c1
   try clear p2
   try clear c3
   try clear c3b0
   try clear c3b1
   try clear c3b2
   obtain ⟨x5_1, rfl, HA, HK1, HB⟩ := hrel
   cases gk with
   | zero => exact absurd HA.out (by simp [laws_eqRuleS.l0])
   | succ k1 =>
    have H := HA.out
    clear HA
    simp only [laws_eqRuleS.l0] at H
    by_cases c4 : x5_1 < (l0.length : Int)
    ·rw [if_pos c4] at H
     have c4b0 : decide (x5_1 < (l0.length : Int)) = true := decide_eq_true c4
     clear c4
     by_cases c5 : 0 ≤ x5_1
     ·rw [if_pos c5] at H
      have c5b0 : decide (0 ≤ x5_1) = true := decide_eq_true c5
      clear c5
      by_cases c6 : x5_1 < (l1.length : Int)
      ·rw [if_pos c6] at H
       have c6b0 : decide (x5_1 < (l1.length : Int)) = true := decide_eq_true c6
       clear c6
       replace H := Option.bind_eq_some_iff.mp H
       obtain ⟨t103, A70, H⟩ := H
       replace H : (if t103 = true then (laws_eqRuleS.l0 k1 l0 l1 (wrap64 (x5_1 + 1))) else (some false)) = some r := H
       have A7 := Aside0.mk A70
       clear A70
       by_cases c8 : t103 = true
       ·subst c8
        have H1 : (laws_eqRuleS.l0 k1 l0 l1 (wrap64 (x5_1 + 1))) = some r := by rw [if_pos rfl] at H; exact H
        clear H
        have H := H1
        clear H1
        have H' := Aside0.mk H
        clear H
        try go_wp2
        have n0_ := Aside0.mk (below_drew1 HB.out)
        clear HB
        have HB := n0_
        clear n0_
        have p101 : 0 ≤ (x5_1 : Int) := of_decide_eq_true (by first | (with_reducible assumption) | assumption)
        have q101 : x5_1 < (l0.length : Int) := of_decide_eq_true (by first | (with_reducible assumption) | assumption)
        obtain ⟨ad101, e101, hx101_0, hx101_1, hx101_2, hx101_3, hx101_4, hx101_5, hx101_6, hx101_7⟩ := at_T39 HR0.out x5_1 p101 q101
        have hw101_7 := hx101_7
        have hw101_6 := hx101_6
        have hw101_5 := hx101_5
        have hw101_4 := hx101_4
        have hw101_3 := hx101_3
        have hw101_2 := hx101_2
        have hw101_1 := hx101_1
        have hw101_0 := hx101_0
        cases e101
        replace hx101_0 := (HB.out.cell (World.block_lt_of_cell? w _ hx101_0)).trans hx101_0
        replace hx101_1 := (HB.out.cell (World.block_lt_of_cell? w _ hx101_1)).trans hx101_1
        replace hx101_2 := (HB.out.cell (World.block_lt_of_cell? w _ hx101_2)).trans hx101_2
        replace hx101_3 := (HB.out.cell (World.block_lt_of_cell? w _ hx101_3)).trans hx101_3
        replace hx101_4 := (HB.out.cell (World.block_lt_of_cell? w _ hx101_4)).trans hx101_4
        replace hx101_5 := (HB.out.cell (World.block_lt_of_cell? w _ hx101_5)).trans hx101_5
        replace hx101_6 := (HB.out.cell (World.block_lt_of_cell? w _ hx101_6)).trans hx101_6
        replace hx101_7 := (HB.out.cell (World.block_lt_of_cell? w _ hx101_7)).trans hx101_7
        replace p101 := eq_true p101
        replace q101 := eq_true q101
        have p102 : 0 ≤ (x5_1 : Int) := of_decide_eq_true (by first | (with_reducible assumption) | assumption)
        have q102 : x5_1 < (l1.length : Int) := of_decide_eq_true (by first | (with_reducible assumption) | assumption)
        obtain ⟨ad102, e102, hx102_0, hx102_1, hx102_2, hx102_3, hx102_4, hx102_5, hx102_6, hx102_7⟩ := at_T39 HR1.out x5_1 p102 q102
        have hw102_7 := hx102_7
        have hw102_6 := hx102_6
        have hw102_5 := hx102_5
        have hw102_4 := hx102_4
        have hw102_3 := hx102_3
        have hw102_2 := hx102_2
        have hw102_1 := hx102_1
        have hw102_0 := hx102_0
        cases e102
        replace hx102_0 := (HB.out.cell (World.block_lt_of_cell? w _ hx102_0)).trans hx102_0
        replace hx102_1 := (HB.out.cell (World.block_lt_of_cell? w _ hx102_1)).trans hx102_1
        replace hx102_2 := (HB.out.cell (World.block_lt_of_cell? w _ hx102_2)).trans hx102_2
        replace hx102_3 := (HB.out.cell (World.block_lt_of_cell? w _ hx102_3)).trans hx102_3
        replace hx102_4 := (HB.out.cell (World.block_lt_of_cell? w _ hx102_4)).trans hx102_4
        replace hx102_5 := (HB.out.cell (World.block_lt_of_cell? w _ hx102_5)).trans hx102_5
        replace hx102_6 := (HB.out.cell (World.block_lt_of_cell? w _ hx102_6)).trans hx102_6
        replace hx102_7 := (HB.out.cell (World.block_lt_of_cell? w _ hx102_7)).trans hx102_7
        replace p102 := eq_true p102
        replace q102 := eq_true q102
        refine start_ (n := 10) (S := fun w' => w'.cell? (ad101.add ((x5_1).toNat * 8)) = some (.int .i64 ((rd_T39 l0 x5_1).f0)) ∧ w'.cell? ⟨(ad101.add ((x5_1).toNat * 8)).block, (ad101.add ((x5_1).toNat * 8)).off + 1, none⟩ = some (.int .i64 ((rd_T39 l0 x5_1).f1)) ∧ w'.cell? ⟨(ad101.add ((x5_1).toNat * 8)).block, (ad101.add ((x5_1).toNat * 8)).off + 2, none⟩ = some (.int .i64 ((rd_T39 l0 x5_1).f2.f0)) ∧ w'.cell? ⟨(ad101.add ((x5_1).toNat * 8)).block, (ad101.add ((x5_1).toNat * 8)).off + 3, none⟩ = some (.int .i64 ((rd_T39 l0 x5_1).f2.f1)) ∧ w'.cell? ⟨(ad101.add ((x5_1).toNat * 8)).block, (ad101.add ((x5_1).toNat * 8)).off + 4, none⟩ = some (.int .i64 ((rd_T39 l0 x5_1).f3.f0)) ∧ w'.cell? ⟨(ad101.add ((x5_1).toNat * 8)).block, (ad101.add ((x5_1).toNat * 8)).off + 5, none⟩ = some (.int .i64 ((rd_T39 l0 x5_1).f3.f1)) ∧ w'.cell? ⟨(ad101.add ((x5_1).toNat * 8)).block, (ad101.add ((x5_1).toNat * 8)).off + 6, none⟩ = some (.int .i64 ((rd_T39 l0 x5_1).f4)) ∧ w'.cell? ⟨(ad101.add ((x5_1).toNat * 8)).block, (ad101.add ((x5_1).toNat * 8)).off + 7, none⟩ = some (.int .i64 ((rd_T39 l0 x5_1).f5)) ∧ w'.cell? (ad102.add ((x5_1).toNat * 8)) = some (.int .i64 ((rd_T39 l1 x5_1).f0)) ∧ w'.cell? ⟨(ad102.add ((x5_1).toNat * 8)).block, (ad102.add ((x5_1).toNat * 8)).off + 1, none⟩ = some (.int .i64 ((rd_T39 l1 x5_1).f1)) ∧ w'.cell? ⟨(ad102.add ((x5_1).toNat * 8)).block, (ad102.add ((x5_1).toNat * 8)).off + 2, none⟩ = some (.int .i64 ((rd_T39 l1 x5_1).f2.f0)) ∧ w'.cell? ⟨(ad102.add ((x5_1).toNat * 8)).block, (ad102.add ((x5_1).toNat * 8)).off + 3, none⟩ = some (.int .i64 ((rd_T39 l1 x5_1).f2.f1)) ∧ w'.cell? ⟨(ad102.add ((x5_1).toNat * 8)).block, (ad102.add ((x5_1).toNat * 8)).off + 4, none⟩ = some (.int .i64 ((rd_T39 l1 x5_1).f3.f0)) ∧ w'.cell? ⟨(ad102.add ((x5_1).toNat * 8)).block, (ad102.add ((x5_1).toNat * 8)).off + 5, none⟩ = some (.int .i64 ((rd_T39 l1 x5_1).f3.f1)) ∧ w'.cell? ⟨(ad102.add ((x5_1).toNat * 8)).block, (ad102.add ((x5_1).toNat * 8)).off + 6, none⟩ = some (.int .i64 ((rd_T39 l1 x5_1).f4)) ∧ w'.cell? ⟨(ad102.add ((x5_1).toNat * 8)).block, (ad102.add ((x5_1).toNat * 8)).off + 7, none⟩ = some (.int .i64 ((rd_T39 l1 x5_1).f5))) (ds := []) #[false, false, false, false, false, false, false, false, false, false] (by kernel_rfl) rfl rfl ⟨((HB.out.cell (World.block_lt_of_cell? w _ hw101_0)).trans hw101_0), ((HB.out.cell (World.block_lt_of_cell? w _ hw101_1)).trans hw101_1), ((HB.out.cell (World.block_lt_of_cell? w _ hw101_2)).trans hw101_2), ((HB.out.cell (World.block_lt_of_cell? w _ hw101_3)).trans hw101_3), ((HB.out.cell (World.block_lt_of_cell? w _ hw101_4)).trans hw101_4), ((HB.out.cell (World.block_lt_of_cell? w _ hw101_5)).trans hw101_5), ((HB.out.cell (World.block_lt_of_cell? w _ hw101_6)).trans hw101_6), ((HB.out.cell (World.block_lt_of_cell? w _ hw101_7)).trans hw101_7), ((HB.out.cell (World.block_lt_of_cell? w _ hw102_0)).trans hw102_0), ((HB.out.cell (World.block_lt_of_cell? w _ hw102_1)).trans hw102_1), ((HB.out.cell (World.block_lt_of_cell? w _ hw102_2)).trans hw102_2), ((HB.out.cell (World.block_lt_of_cell? w _ hw102_3)).trans hw102_3), ((HB.out.cell (World.block_lt_of_cell? w _ hw102_4)).trans hw102_4), ((HB.out.cell (World.block_lt_of_cell? w _ hw102_5)).trans hw102_5), ((HB.out.cell (World.block_lt_of_cell? w _ hw102_6)).trans hw102_6), ((HB.out.cell (World.block_lt_of_cell? w _ hw102_7)).trans hw102_7)⟩ (fun hHeld => ?_); refine with_tabW laws_eqRuleS.tab6 laws_eqRuleS.bits6 (fun HT_ HW_ => ?_)
        generalize wr.drew = w9 at HB hx101_0 hx101_1 hx101_2 hx101_3 hx101_4 hx101_5 hx101_6 hx101_7 hx102_0 hx102_1 hx102_2 hx102_3 hx102_4 hx102_5 hx102_6 hx102_7 hHeld ⊢
        refine pure_ (i := 0) (N := some 17) (v := ?_) (a' := ?_) #[true, false, false, false, false, false, false, false, false, false] rfl rfl (any_of HT_.out (by kernel_rfl)) (fun _ _ _ h => h) (Or.inl ⟨by rfl, ?_⟩) ?_ ?_
        rotate_left
        ·intro w'
         go_simp
         with_reducible rfl
        rotate_left
        ·simp only [Act.put, List.setIfInBounds_toArray, List.set_cons_zero, List.set_cons_succ, i64_w, i32_w]
         rfl
        refine pure_ (i := 1) (N := some 18) (v := ?_) (a' := ?_) #[true, true, false, false, false, false, false, false, false, false] rfl rfl (any_of HT_.out (by kernel_rfl)) (fun _ _ _ h => h) (Or.inl ⟨by rfl, ?_⟩) ?_ ?_
        rotate_left
        ·intro w'
         go_simp
         with_reducible rfl
        rotate_left
        ·simp only [Act.put, List.setIfInBounds_toArray, List.set_cons_zero, List.set_cons_succ, i64_w, i32_w]
         rfl
        refine pure_ (i := 2) (N := some 19) (v := ?_) (a' := ?_) #[true, true, true, false, false, false, false, false, false, false] rfl rfl (any_of HT_.out (by kernel_rfl)) (fun _ _ _ h => h) (Or.inl ⟨by rfl, ?_⟩) ?_ ?_
        rotate_left
        ·intro w'
         go_simp
         with_reducible rfl
        rotate_left
        ·simp only [Act.put, List.setIfInBounds_toArray, List.set_cons_zero, List.set_cons_succ, i64_w, i32_w]
         rfl
        refine pure_ (i := 4) (N := some 21) (v := ?_) (a' := ?_) #[true, true, true, false, true, false, false, false, false, false] rfl rfl (any_of HT_.out (by kernel_rfl)) (fun _ _ _ h => h) (Or.inl ⟨by rfl, ?_⟩) ?_ ?_
        rotate_left
        ·intro w'
         go_simp
         with_reducible rfl
        rotate_left
        ·simp only [Act.put, List.setIfInBounds_toArray, List.set_cons_zero, List.set_cons_succ, i64_w, i32_w]
         rfl
        refine pure_ (i := 5) (N := some 22) (v := ?_) (a' := ?_) #[true, true, true, false, true, true, false, false, false, false] rfl rfl (any_of HT_.out (by kernel_rfl)) (fun _ _ _ h => h) (Or.inl ⟨by rfl, ?_⟩) ?_ ?_
        rotate_left
        ·intro w'
         go_simp
         with_reducible rfl
        rotate_left
        ·simp only [Act.put, List.setIfInBounds_toArray, List.set_cons_zero, List.set_cons_succ, i64_w, i32_w]
         rfl
        refine pure_ (i := 6) (N := some 23) (v := ?_) (a' := ?_) #[true, true, true, false, true, true, true, false, false, false] rfl rfl (any_of HT_.out (by kernel_rfl)) (fun _ _ _ h => h) (Or.inl ⟨by rfl, ?_⟩) ?_ ?_
        rotate_left
        ·intro w'
         go_simp
         with_reducible rfl
        rotate_left
        ·simp only [Act.put, List.setIfInBounds_toArray, List.set_cons_zero, List.set_cons_succ, i64_w, i32_w]
         rfl
        refine take_ (i := 3) (N := some 20) (v := ?_) (a' := ?_) #[true, true, true, true, true, true, true, false, false, false] rfl rfl (take_ofW HT_.out HW_.out (by kernel_rfl)) (fun _ _ _ h => h) (Or.inl ⟨by rfl, ?_⟩) hHeld ?_ ?_
        rotate_left
        ·rintro w' ⟨s0, s1, s2, s3, s4, s5, s6, s7, s8, s9, s10, s11, s12, s13, s14, s15⟩
         go_simp
         with_reducible rfl
        rotate_left
        ·simp only [Act.put, List.setIfInBounds_toArray, List.set_cons_zero, List.set_cons_succ, i64_w, i32_w]
         rfl
        refine take_ (i := 7) (N := some 24) (v := ?_) (a' := ?_) #[true, true, true, true, true, true, true, true, false, false] rfl rfl (take_ofW HT_.out HW_.out (by kernel_rfl)) (fun _ _ _ h => h) (Or.inl ⟨by rfl, ?_⟩) hHeld ?_ ?_
        rotate_left
        ·rintro w' ⟨s0, s1, s2, s3, s4, s5, s6, s7, s8, s9, s10, s11, s12, s13, s14, s15⟩
         go_simp
         with_reducible rfl
        rotate_left
        ·simp only [Act.put, List.setIfInBounds_toArray, List.set_cons_zero, List.set_cons_succ, i64_w, i32_w]
         rfl
        refine one_ (i := 8) (N := some 25) #[true, true, true, true, true, true, true, true, true, false] rfl rfl (one_of HT_.out (by kernel_rfl)) (by decide) (fun K hK => ?_)
        refine goes_ Tryz.func23 (by kernel_rfl) rfl #[.agg #[.int .i64 ((rd_T39 l0 x5_1).f0), .int .i64 ((rd_T39 l0 x5_1).f1), .int .i64 ((rd_T39 l0 x5_1).f2.f0), .int .i64 ((rd_T39 l0 x5_1).f2.f1), .int .i64 ((rd_T39 l0 x5_1).f3.f0), .int .i64 ((rd_T39 l0 x5_1).f3.f1), .int .i64 ((rd_T39 l0 x5_1).f4), .int .i64 ((rd_T39 l0 x5_1).f5)], .agg #[.int .i64 ((rd_T39 l1 x5_1).f0), .int .i64 ((rd_T39 l1 x5_1).f1), .int .i64 ((rd_T39 l1 x5_1).f2.f0), .int .i64 ((rd_T39 l1 x5_1).f2.f1), .int .i64 ((rd_T39 l1 x5_1).f3.f0), .int .i64 ((rd_T39 l1 x5_1).f3.f1), .int .i64 ((rd_T39 l1 x5_1).f4), .int .i64 ((rd_T39 l1 x5_1).f5)]] (by rfl) rfl rfl (by (try simp only [List.map_toArray, List.map_cons, List.map_nil]); first | done | rfl | (simp only [List.length_drop, List.length_take]; rfl)) ?_
        with_reducible refine (laws_eqRule.calls ((rd_T39 l0 x5_1).f0) ((rd_T39 l0 x5_1).f1) ((rd_T39 l0 x5_1).f2.f0) ((rd_T39 l0 x5_1).f2.f1) ((rd_T39 l0 x5_1).f3.f0) ((rd_T39 l0 x5_1).f3.f1) ((rd_T39 l0 x5_1).f4) ((rd_T39 l0 x5_1).f5) ((rd_T39 l1 x5_1).f0) ((rd_T39 l1 x5_1).f1) ((rd_T39 l1 x5_1).f2.f0) ((rd_T39 l1 x5_1).f2.f1) ((rd_T39 l1 x5_1).f3.f0) ((rd_T39 l1 x5_1).f3.f1) ((rd_T39 l1 x5_1).f4) ((rd_T39 l1 x5_1).f5) true _ A7.out).mono ?_
        rintro e w10 ⟨rfl, hb⟩
        refine ⟨_, rfl, ?_⟩
        have n0_ := Aside0.mk (below_step (by repeat (first | (with_reducible first | exact HB.out | apply below_alloc | apply pw_below_drewN | apply below_drew1) | exact HB.out)) hb)
        clear HB
        have HB := n0_
        clear n0_
        (try clear hb)
        (try clear hb2)
        (try clear hk)
        (try clear hi)
        refine hK.out _ _ ⟨((HB.out.cell (World.block_lt_of_cell? w _ hw101_0)).trans hw101_0), ((HB.out.cell (World.block_lt_of_cell? w _ hw101_1)).trans hw101_1), ((HB.out.cell (World.block_lt_of_cell? w _ hw101_2)).trans hw101_2), ((HB.out.cell (World.block_lt_of_cell? w _ hw101_3)).trans hw101_3), ((HB.out.cell (World.block_lt_of_cell? w _ hw101_4)).trans hw101_4), ((HB.out.cell (World.block_lt_of_cell? w _ hw101_5)).trans hw101_5), ((HB.out.cell (World.block_lt_of_cell? w _ hw101_6)).trans hw101_6), ((HB.out.cell (World.block_lt_of_cell? w _ hw101_7)).trans hw101_7), ((HB.out.cell (World.block_lt_of_cell? w _ hw102_0)).trans hw102_0), ((HB.out.cell (World.block_lt_of_cell? w _ hw102_1)).trans hw102_1), ((HB.out.cell (World.block_lt_of_cell? w _ hw102_2)).trans hw102_2), ((HB.out.cell (World.block_lt_of_cell? w _ hw102_3)).trans hw102_3), ((HB.out.cell (World.block_lt_of_cell? w _ hw102_4)).trans hw102_4), ((HB.out.cell (World.block_lt_of_cell? w _ hw102_5)).trans hw102_5), ((HB.out.cell (World.block_lt_of_cell? w _ hw102_6)).trans hw102_6), ((HB.out.cell (World.block_lt_of_cell? w _ hw102_7)).trans hw102_7)⟩ (fun hHeld => ?_)
        clear hK K
        refine norm_ (a' := ?_) ?_ ?_
        rotate_left
        ·show Act.put _ (some 25) _ = _
         simp only [Act.put, List.setIfInBounds_toArray, List.set_cons_zero, List.set_cons_succ, i64_w, i32_w]
         rfl
        refine pure_ (i := 9) (N := some 26) (v := ?_) (a' := ?_) #[true, true, true, true, true, true, true, true, true, true] rfl rfl (any_of HT_.out (by kernel_rfl)) (fun _ _ _ h => h) (Or.inl ⟨by rfl, ?_⟩) ?_ ?_
        rotate_left
        ·intro w'
         go_simp
         with_reducible rfl
        rotate_left
        ·simp only [Act.put, List.setIfInBounds_toArray, List.set_cons_zero, List.set_cons_succ, i64_w, i32_w]
         rfl
        refine done_ (done_of HT_.out (by kernel_rfl)) ?_
        try go_wp2
        go_roundg k1
        case measure => have := HK1.out; omega
        case rel => exact ⟨(wrap64 (x5_1 + 1)), (by first | rfl | (simp; done) | (simp [*]; done)), H', ⟨by have := HK1.out; omega⟩, ⟨by repeat (first | (with_reducible first | exact HB.out | apply below_alloc | apply pw_below_drewN | apply below_drew1) | exact HB.out)⟩⟩
       ·replace c8 := Bool.eq_false_iff.mpr c8
        subst c8
        have H1 : (some false) = some r := by rw [if_neg (show ¬ (false = true) by decide)] at H; exact H
        clear H
        have H := H1
        clear H1
        obtain rfl := Option.some.inj H
        try go_wp2
        have n0_ := Aside0.mk (below_drew1 HB.out)
        clear HB
        have HB := n0_
        clear n0_
        have p101 : 0 ≤ (x5_1 : Int) := of_decide_eq_true (by first | (with_reducible assumption) | assumption)
        have q101 : x5_1 < (l0.length : Int) := of_decide_eq_true (by first | (with_reducible assumption) | assumption)
        obtain ⟨ad101, e101, hx101_0, hx101_1, hx101_2, hx101_3, hx101_4, hx101_5, hx101_6, hx101_7⟩ := at_T39 HR0.out x5_1 p101 q101
        have hw101_7 := hx101_7
        have hw101_6 := hx101_6
        have hw101_5 := hx101_5
        have hw101_4 := hx101_4
        have hw101_3 := hx101_3
        have hw101_2 := hx101_2
        have hw101_1 := hx101_1
        have hw101_0 := hx101_0
        cases e101
        replace hx101_0 := (HB.out.cell (World.block_lt_of_cell? w _ hx101_0)).trans hx101_0
        replace hx101_1 := (HB.out.cell (World.block_lt_of_cell? w _ hx101_1)).trans hx101_1
        replace hx101_2 := (HB.out.cell (World.block_lt_of_cell? w _ hx101_2)).trans hx101_2
        replace hx101_3 := (HB.out.cell (World.block_lt_of_cell? w _ hx101_3)).trans hx101_3
        replace hx101_4 := (HB.out.cell (World.block_lt_of_cell? w _ hx101_4)).trans hx101_4
        replace hx101_5 := (HB.out.cell (World.block_lt_of_cell? w _ hx101_5)).trans hx101_5
        replace hx101_6 := (HB.out.cell (World.block_lt_of_cell? w _ hx101_6)).trans hx101_6
        replace hx101_7 := (HB.out.cell (World.block_lt_of_cell? w _ hx101_7)).trans hx101_7
        replace p101 := eq_true p101
        replace q101 := eq_true q101
        have p102 : 0 ≤ (x5_1 : Int) := of_decide_eq_true (by first | (with_reducible assumption) | assumption)
        have q102 : x5_1 < (l1.length : Int) := of_decide_eq_true (by first | (with_reducible assumption) | assumption)
        obtain ⟨ad102, e102, hx102_0, hx102_1, hx102_2, hx102_3, hx102_4, hx102_5, hx102_6, hx102_7⟩ := at_T39 HR1.out x5_1 p102 q102
        have hw102_7 := hx102_7
        have hw102_6 := hx102_6
        have hw102_5 := hx102_5
        have hw102_4 := hx102_4
        have hw102_3 := hx102_3
        have hw102_2 := hx102_2
        have hw102_1 := hx102_1
        have hw102_0 := hx102_0
        cases e102
        replace hx102_0 := (HB.out.cell (World.block_lt_of_cell? w _ hx102_0)).trans hx102_0
        replace hx102_1 := (HB.out.cell (World.block_lt_of_cell? w _ hx102_1)).trans hx102_1
        replace hx102_2 := (HB.out.cell (World.block_lt_of_cell? w _ hx102_2)).trans hx102_2
        replace hx102_3 := (HB.out.cell (World.block_lt_of_cell? w _ hx102_3)).trans hx102_3
        replace hx102_4 := (HB.out.cell (World.block_lt_of_cell? w _ hx102_4)).trans hx102_4
        replace hx102_5 := (HB.out.cell (World.block_lt_of_cell? w _ hx102_5)).trans hx102_5
        replace hx102_6 := (HB.out.cell (World.block_lt_of_cell? w _ hx102_6)).trans hx102_6
        replace hx102_7 := (HB.out.cell (World.block_lt_of_cell? w _ hx102_7)).trans hx102_7
        replace p102 := eq_true p102
        replace q102 := eq_true q102
        refine start_ (n := 10) (S := fun w' => w'.cell? (ad101.add ((x5_1).toNat * 8)) = some (.int .i64 ((rd_T39 l0 x5_1).f0)) ∧ w'.cell? ⟨(ad101.add ((x5_1).toNat * 8)).block, (ad101.add ((x5_1).toNat * 8)).off + 1, none⟩ = some (.int .i64 ((rd_T39 l0 x5_1).f1)) ∧ w'.cell? ⟨(ad101.add ((x5_1).toNat * 8)).block, (ad101.add ((x5_1).toNat * 8)).off + 2, none⟩ = some (.int .i64 ((rd_T39 l0 x5_1).f2.f0)) ∧ w'.cell? ⟨(ad101.add ((x5_1).toNat * 8)).block, (ad101.add ((x5_1).toNat * 8)).off + 3, none⟩ = some (.int .i64 ((rd_T39 l0 x5_1).f2.f1)) ∧ w'.cell? ⟨(ad101.add ((x5_1).toNat * 8)).block, (ad101.add ((x5_1).toNat * 8)).off + 4, none⟩ = some (.int .i64 ((rd_T39 l0 x5_1).f3.f0)) ∧ w'.cell? ⟨(ad101.add ((x5_1).toNat * 8)).block, (ad101.add ((x5_1).toNat * 8)).off + 5, none⟩ = some (.int .i64 ((rd_T39 l0 x5_1).f3.f1)) ∧ w'.cell? ⟨(ad101.add ((x5_1).toNat * 8)).block, (ad101.add ((x5_1).toNat * 8)).off + 6, none⟩ = some (.int .i64 ((rd_T39 l0 x5_1).f4)) ∧ w'.cell? ⟨(ad101.add ((x5_1).toNat * 8)).block, (ad101.add ((x5_1).toNat * 8)).off + 7, none⟩ = some (.int .i64 ((rd_T39 l0 x5_1).f5)) ∧ w'.cell? (ad102.add ((x5_1).toNat * 8)) = some (.int .i64 ((rd_T39 l1 x5_1).f0)) ∧ w'.cell? ⟨(ad102.add ((x5_1).toNat * 8)).block, (ad102.add ((x5_1).toNat * 8)).off + 1, none⟩ = some (.int .i64 ((rd_T39 l1 x5_1).f1)) ∧ w'.cell? ⟨(ad102.add ((x5_1).toNat * 8)).block, (ad102.add ((x5_1).toNat * 8)).off + 2, none⟩ = some (.int .i64 ((rd_T39 l1 x5_1).f2.f0)) ∧ w'.cell? ⟨(ad102.add ((x5_1).toNat * 8)).block, (ad102.add ((x5_1).toNat * 8)).off + 3, none⟩ = some (.int .i64 ((rd_T39 l1 x5_1).f2.f1)) ∧ w'.cell? ⟨(ad102.add ((x5_1).toNat * 8)).block, (ad102.add ((x5_1).toNat * 8)).off + 4, none⟩ = some (.int .i64 ((rd_T39 l1 x5_1).f3.f0)) ∧ w'.cell? ⟨(ad102.add ((x5_1).toNat * 8)).block, (ad102.add ((x5_1).toNat * 8)).off + 5, none⟩ = some (.int .i64 ((rd_T39 l1 x5_1).f3.f1)) ∧ w'.cell? ⟨(ad102.add ((x5_1).toNat * 8)).block, (ad102.add ((x5_1).toNat * 8)).off + 6, none⟩ = some (.int .i64 ((rd_T39 l1 x5_1).f4)) ∧ w'.cell? ⟨(ad102.add ((x5_1).toNat * 8)).block, (ad102.add ((x5_1).toNat * 8)).off + 7, none⟩ = some (.int .i64 ((rd_T39 l1 x5_1).f5))) (ds := []) #[false, false, false, false, false, false, false, false, false, false] (by kernel_rfl) rfl rfl ⟨((HB.out.cell (World.block_lt_of_cell? w _ hw101_0)).trans hw101_0), ((HB.out.cell (World.block_lt_of_cell? w _ hw101_1)).trans hw101_1), ((HB.out.cell (World.block_lt_of_cell? w _ hw101_2)).trans hw101_2), ((HB.out.cell (World.block_lt_of_cell? w _ hw101_3)).trans hw101_3), ((HB.out.cell (World.block_lt_of_cell? w _ hw101_4)).trans hw101_4), ((HB.out.cell (World.block_lt_of_cell? w _ hw101_5)).trans hw101_5), ((HB.out.cell (World.block_lt_of_cell? w _ hw101_6)).trans hw101_6), ((HB.out.cell (World.block_lt_of_cell? w _ hw101_7)).trans hw101_7), ((HB.out.cell (World.block_lt_of_cell? w _ hw102_0)).trans hw102_0), ((HB.out.cell (World.block_lt_of_cell? w _ hw102_1)).trans hw102_1), ((HB.out.cell (World.block_lt_of_cell? w _ hw102_2)).trans hw102_2), ((HB.out.cell (World.block_lt_of_cell? w _ hw102_3)).trans hw102_3), ((HB.out.cell (World.block_lt_of_cell? w _ hw102_4)).trans hw102_4), ((HB.out.cell (World.block_lt_of_cell? w _ hw102_5)).trans hw102_5), ((HB.out.cell (World.block_lt_of_cell? w _ hw102_6)).trans hw102_6), ((HB.out.cell (World.block_lt_of_cell? w _ hw102_7)).trans hw102_7)⟩ (fun hHeld => ?_); refine with_tabW laws_eqRuleS.tab6 laws_eqRuleS.bits6 (fun HT_ HW_ => ?_)
        generalize wr.drew = w11 at HB hx101_0 hx101_1 hx101_2 hx101_3 hx101_4 hx101_5 hx101_6 hx101_7 hx102_0 hx102_1 hx102_2 hx102_3 hx102_4 hx102_5 hx102_6 hx102_7 hHeld ⊢
        refine pure_ (i := 0) (N := some 17) (v := ?_) (a' := ?_) #[true, false, false, false, false, false, false, false, false, false] rfl rfl (any_of HT_.out (by kernel_rfl)) (fun _ _ _ h => h) (Or.inl ⟨by rfl, ?_⟩) ?_ ?_
        rotate_left
        ·intro w'
         go_simp
         with_reducible rfl
        rotate_left
        ·simp only [Act.put, List.setIfInBounds_toArray, List.set_cons_zero, List.set_cons_succ, i64_w, i32_w]
         rfl
        refine pure_ (i := 1) (N := some 18) (v := ?_) (a' := ?_) #[true, true, false, false, false, false, false, false, false, false] rfl rfl (any_of HT_.out (by kernel_rfl)) (fun _ _ _ h => h) (Or.inl ⟨by rfl, ?_⟩) ?_ ?_
        rotate_left
        ·intro w'
         go_simp
         with_reducible rfl
        rotate_left
        ·simp only [Act.put, List.setIfInBounds_toArray, List.set_cons_zero, List.set_cons_succ, i64_w, i32_w]
         rfl
        refine pure_ (i := 2) (N := some 19) (v := ?_) (a' := ?_) #[true, true, true, false, false, false, false, false, false, false] rfl rfl (any_of HT_.out (by kernel_rfl)) (fun _ _ _ h => h) (Or.inl ⟨by rfl, ?_⟩) ?_ ?_
        rotate_left
        ·intro w'
         go_simp
         with_reducible rfl
        rotate_left
        ·simp only [Act.put, List.setIfInBounds_toArray, List.set_cons_zero, List.set_cons_succ, i64_w, i32_w]
         rfl
        refine pure_ (i := 4) (N := some 21) (v := ?_) (a' := ?_) #[true, true, true, false, true, false, false, false, false, false] rfl rfl (any_of HT_.out (by kernel_rfl)) (fun _ _ _ h => h) (Or.inl ⟨by rfl, ?_⟩) ?_ ?_
        rotate_left
        ·intro w'
         go_simp
         with_reducible rfl
        rotate_left
        ·simp only [Act.put, List.setIfInBounds_toArray, List.set_cons_zero, List.set_cons_succ, i64_w, i32_w]
         rfl
        refine pure_ (i := 5) (N := some 22) (v := ?_) (a' := ?_) #[true, true, true, false, true, true, false, false, false, false] rfl rfl (any_of HT_.out (by kernel_rfl)) (fun _ _ _ h => h) (Or.inl ⟨by rfl, ?_⟩) ?_ ?_
        rotate_left
        ·intro w'
         go_simp
         with_reducible rfl
        rotate_left
        ·simp only [Act.put, List.setIfInBounds_toArray, List.set_cons_zero, List.set_cons_succ, i64_w, i32_w]
         rfl
        refine pure_ (i := 6) (N := some 23) (v := ?_) (a' := ?_) #[true, true, true, false, true, true, true, false, false, false] rfl rfl (any_of HT_.out (by kernel_rfl)) (fun _ _ _ h => h) (Or.inl ⟨by rfl, ?_⟩) ?_ ?_
        rotate_left
        ·intro w'
         go_simp
         with_reducible rfl
        rotate_left
        ·simp only [Act.put, List.setIfInBounds_toArray, List.set_cons_zero, List.set_cons_succ, i64_w, i32_w]
         rfl
        refine take_ (i := 3) (N := some 20) (v := ?_) (a' := ?_) #[true, true, true, true, true, true, true, false, false, false] rfl rfl (take_ofW HT_.out HW_.out (by kernel_rfl)) (fun _ _ _ h => h) (Or.inl ⟨by rfl, ?_⟩) hHeld ?_ ?_
        rotate_left
        ·rintro w' ⟨s0, s1, s2, s3, s4, s5, s6, s7, s8, s9, s10, s11, s12, s13, s14, s15⟩
         go_simp
         with_reducible rfl
        rotate_left
        ·simp only [Act.put, List.setIfInBounds_toArray, List.set_cons_zero, List.set_cons_succ, i64_w, i32_w]
         rfl
        refine take_ (i := 7) (N := some 24) (v := ?_) (a' := ?_) #[true, true, true, true, true, true, true, true, false, false] rfl rfl (take_ofW HT_.out HW_.out (by kernel_rfl)) (fun _ _ _ h => h) (Or.inl ⟨by rfl, ?_⟩) hHeld ?_ ?_
        rotate_left
        ·rintro w' ⟨s0, s1, s2, s3, s4, s5, s6, s7, s8, s9, s10, s11, s12, s13, s14, s15⟩
         go_simp
         with_reducible rfl
        rotate_left
        ·simp only [Act.put, List.setIfInBounds_toArray, List.set_cons_zero, List.set_cons_succ, i64_w, i32_w]
         rfl
        refine one_ (i := 8) (N := some 25) #[true, true, true, true, true, true, true, true, true, false] rfl rfl (one_of HT_.out (by kernel_rfl)) (by decide) (fun K hK => ?_)
        refine goes_ Tryz.func23 (by kernel_rfl) rfl #[.agg #[.int .i64 ((rd_T39 l0 x5_1).f0), .int .i64 ((rd_T39 l0 x5_1).f1), .int .i64 ((rd_T39 l0 x5_1).f2.f0), .int .i64 ((rd_T39 l0 x5_1).f2.f1), .int .i64 ((rd_T39 l0 x5_1).f3.f0), .int .i64 ((rd_T39 l0 x5_1).f3.f1), .int .i64 ((rd_T39 l0 x5_1).f4), .int .i64 ((rd_T39 l0 x5_1).f5)], .agg #[.int .i64 ((rd_T39 l1 x5_1).f0), .int .i64 ((rd_T39 l1 x5_1).f1), .int .i64 ((rd_T39 l1 x5_1).f2.f0), .int .i64 ((rd_T39 l1 x5_1).f2.f1), .int .i64 ((rd_T39 l1 x5_1).f3.f0), .int .i64 ((rd_T39 l1 x5_1).f3.f1), .int .i64 ((rd_T39 l1 x5_1).f4), .int .i64 ((rd_T39 l1 x5_1).f5)]] (by rfl) rfl rfl (by (try simp only [List.map_toArray, List.map_cons, List.map_nil]); first | done | rfl | (simp only [List.length_drop, List.length_take]; rfl)) ?_
        with_reducible refine (laws_eqRule.calls ((rd_T39 l0 x5_1).f0) ((rd_T39 l0 x5_1).f1) ((rd_T39 l0 x5_1).f2.f0) ((rd_T39 l0 x5_1).f2.f1) ((rd_T39 l0 x5_1).f3.f0) ((rd_T39 l0 x5_1).f3.f1) ((rd_T39 l0 x5_1).f4) ((rd_T39 l0 x5_1).f5) ((rd_T39 l1 x5_1).f0) ((rd_T39 l1 x5_1).f1) ((rd_T39 l1 x5_1).f2.f0) ((rd_T39 l1 x5_1).f2.f1) ((rd_T39 l1 x5_1).f3.f0) ((rd_T39 l1 x5_1).f3.f1) ((rd_T39 l1 x5_1).f4) ((rd_T39 l1 x5_1).f5) false _ A7.out).mono ?_
        rintro e w12 ⟨rfl, hb⟩
        refine ⟨_, rfl, ?_⟩
        have n0_ := Aside0.mk (below_step (by repeat (first | (with_reducible first | exact HB.out | apply below_alloc | apply pw_below_drewN | apply below_drew1) | exact HB.out)) hb)
        clear HB
        have HB := n0_
        clear n0_
        (try clear hb)
        (try clear hb2)
        (try clear hk)
        (try clear hi)
        refine hK.out _ _ ⟨((HB.out.cell (World.block_lt_of_cell? w _ hw101_0)).trans hw101_0), ((HB.out.cell (World.block_lt_of_cell? w _ hw101_1)).trans hw101_1), ((HB.out.cell (World.block_lt_of_cell? w _ hw101_2)).trans hw101_2), ((HB.out.cell (World.block_lt_of_cell? w _ hw101_3)).trans hw101_3), ((HB.out.cell (World.block_lt_of_cell? w _ hw101_4)).trans hw101_4), ((HB.out.cell (World.block_lt_of_cell? w _ hw101_5)).trans hw101_5), ((HB.out.cell (World.block_lt_of_cell? w _ hw101_6)).trans hw101_6), ((HB.out.cell (World.block_lt_of_cell? w _ hw101_7)).trans hw101_7), ((HB.out.cell (World.block_lt_of_cell? w _ hw102_0)).trans hw102_0), ((HB.out.cell (World.block_lt_of_cell? w _ hw102_1)).trans hw102_1), ((HB.out.cell (World.block_lt_of_cell? w _ hw102_2)).trans hw102_2), ((HB.out.cell (World.block_lt_of_cell? w _ hw102_3)).trans hw102_3), ((HB.out.cell (World.block_lt_of_cell? w _ hw102_4)).trans hw102_4), ((HB.out.cell (World.block_lt_of_cell? w _ hw102_5)).trans hw102_5), ((HB.out.cell (World.block_lt_of_cell? w _ hw102_6)).trans hw102_6), ((HB.out.cell (World.block_lt_of_cell? w _ hw102_7)).trans hw102_7)⟩ (fun hHeld => ?_)
        clear hK K
        refine norm_ (a' := ?_) ?_ ?_
        rotate_left
        ·show Act.put _ (some 25) _ = _
         simp only [Act.put, List.setIfInBounds_toArray, List.set_cons_zero, List.set_cons_succ, i64_w, i32_w]
         rfl
        refine pure_ (i := 9) (N := some 26) (v := ?_) (a' := ?_) #[true, true, true, true, true, true, true, true, true, true] rfl rfl (any_of HT_.out (by kernel_rfl)) (fun _ _ _ h => h) (Or.inl ⟨by rfl, ?_⟩) ?_ ?_
        rotate_left
        ·intro w'
         go_simp
         with_reducible rfl
        rotate_left
        ·simp only [Act.put, List.setIfInBounds_toArray, List.set_cons_zero, List.set_cons_succ, i64_w, i32_w]
         rfl
        refine done_ (done_of HT_.out (by kernel_rfl)) ?_
        try go_wp2
        go_ret
        exact ⟨by first | rfl | (simp [errW_none, errW_some] <;> rfl) | (simp [*, errW_none, errW_some] <;> rfl), by repeat (first | (with_reducible first | exact HB.out | apply below_alloc | apply pw_below_drewN | apply below_drew1) | exact HB.out)⟩
      ·rw [if_neg c6] at H
       exact absurd H (by simp)
     ·rw [if_neg c5] at H
      exact absurd H (by simp)
    ·rw [if_neg c4] at H
     have c4b0 : decide (x5_1 < (l0.length : Int)) = false := decide_eq_false c4
     clear c4
     obtain rfl := Option.some.inj H
     go_wp2
     go_ret
     exact ⟨by first | rfl | (simp [errW_none, errW_some] <;> rfl) | (simp [*, errW_none, errW_some] <;> rfl), by repeat (first | (with_reducible first | exact HB.out | apply below_alloc | apply pw_below_drewN | apply below_drew1) | exact HB.out)⟩
 ·rw [if_neg c3] at H
  have c3b0 : ((l0.length : Int) == (l1.length : Int)) = false := beq_eq_false_iff_ne.mpr c3
  have c3b1 : ((l0.length : Int) != (l1.length : Int)) = true := bne_iff_ne.mpr c3
  have c3b2 : (l0.length == l1.length) = false := by first | simpa using c3 | (simp at c3 ⊢; omega)
  obtain rfl := Option.some.inj H
  go_enter Tryz.func7, Tryz.ntmps7
  go_wp2
  go_ret
  exact ⟨by first | rfl | (simp [errW_none, errW_some] <;> rfl) | (simp [*, errW_none, errW_some] <;> rfl), by repeat (first | (with_reducible first | exact HB.out | apply below_alloc | apply pw_below_drewN | apply below_drew1) | exact HB.out)⟩
end Go.Proofs.YtgbdnbbfgcogjaaGreatDoor.Q

namespace Go.Proofs.YtgbdnbbfgcogjaaGreatDoor.Q
open Go.RowKit Go.Proofs.YtgbdnbbfgcogjaaGreatDoorW.PrintWords Go.Proofs.YtgbdnbbfgcogjaaGreatDoorW.PrintLast Go.Proofs.YtgbdnbbfgcogjaaGreatDoorW.PrintMore
attribute [local go_sem] max2_int min2_int max_two min_two max_three min_three max_four min_four
set_option linter.unusedVariables false
set_option linter.unusedSimpArgs false
def laws_markRuleS.l0 : Nat → List (S39) → Int → Int → Option (Int × (List (S39)))
 | 0, _, _, _ => none
 | k + 1, x0, x1, x5 => if x5 < (x0.length : Int) then (if 0 ≤ x5 then ((some (x0.set (x5 : Int).toNat (⟨x1, (rd_T39 x0 x5).f1, (⟨(rd_T39 x0 x5).f2.f0, (rd_T39 x0 x5).f2.f1⟩ : S37), (⟨(rd_T39 x0 x5).f3.f0, (rd_T39 x0 x5).f3.f1⟩ : S37), (rd_T39 x0 x5).f4, (rd_T39 x0 x5).f5⟩ : S39) : List (S39))).bind fun y101 => ((some (y101.set (x5 : Int).toNat (⟨(rd_T39 y101 x5).f0, wrap64 (x1 + 1), (⟨(rd_T39 y101 x5).f2.f0, (rd_T39 y101 x5).f2.f1⟩ : S37), (⟨(rd_T39 y101 x5).f3.f0, (rd_T39 y101 x5).f3.f1⟩ : S37), (rd_T39 y101 x5).f4, (rd_T39 y101 x5).f5⟩ : S39) : List (S39))).bind fun y102 => ((some (y102.set (x5 : Int).toNat (⟨(rd_T39 y102 x5).f0, (rd_T39 y102 x5).f1, (⟨wrap64 ((wrap64 (x1 + 1)) + 1), (rd_T39 y102 x5).f2.f1⟩ : S37), (⟨(rd_T39 y102 x5).f3.f0, (rd_T39 y102 x5).f3.f1⟩ : S37), (rd_T39 y102 x5).f4, (rd_T39 y102 x5).f5⟩ : S39) : List (S39))).bind fun y103 => ((some (y103.set (x5 : Int).toNat (⟨(rd_T39 y103 x5).f0, (rd_T39 y103 x5).f1, (⟨(rd_T39 y103 x5).f2.f0, wrap64 ((wrap64 ((wrap64 (x1 + 1)) + 1)) + 1)⟩ : S37), (⟨(rd_T39 y103 x5).f3.f0, (rd_T39 y103 x5).f3.f1⟩ : S37), (rd_T39 y103 x5).f4, (rd_T39 y103 x5).f5⟩ : S39) : List (S39))).bind fun y104 => ((some (y104.set (x5 : Int).toNat (⟨(rd_T39 y104 x5).f0, (rd_T39 y104 x5).f1, (⟨(rd_T39 y104 x5).f2.f0, (rd_T39 y104 x5).f2.f1⟩ : S37), (⟨wrap64 ((wrap64 ((wrap64 ((wrap64 (x1 + 1)) + 1)) + 1)) + 1), (rd_T39 y104 x5).f3.f1⟩ : S37), (rd_T39 y104 x5).f4, (rd_T39 y104 x5).f5⟩ : S39) : List (S39))).bind fun y105 => ((some (y105.set (x5 : Int).toNat (⟨(rd_T39 y105 x5).f0, (rd_T39 y105 x5).f1, (⟨(rd_T39 y105 x5).f2.f0, (rd_T39 y105 x5).f2.f1⟩ : S37), (⟨(rd_T39 y105 x5).f3.f0, wrap64 ((wrap64 ((wrap64 ((wrap64 ((wrap64 (x1 + 1)) + 1)) + 1)) + 1)) + 1)⟩ : S37), (rd_T39 y105 x5).f4, (rd_T39 y105 x5).f5⟩ : S39) : List (S39))).bind fun y106 => ((some (y106.set (x5 : Int).toNat (⟨(rd_T39 y106 x5).f0, (rd_T39 y106 x5).f1, (⟨(rd_T39 y106 x5).f2.f0, (rd_T39 y106 x5).f2.f1⟩ : S37), (⟨(rd_T39 y106 x5).f3.f0, (rd_T39 y106 x5).f3.f1⟩ : S37), wrap64 ((wrap64 ((wrap64 ((wrap64 ((wrap64 ((wrap64 (x1 + 1)) + 1)) + 1)) + 1)) + 1)) + 1), (rd_T39 y106 x5).f5⟩ : S39) : List (S39))).bind fun y107 => (laws_markRuleS.l0 k (y107.set (x5 : Int).toNat (⟨(rd_T39 y107 x5).f0, (rd_T39 y107 x5).f1, (⟨(rd_T39 y107 x5).f2.f0, (rd_T39 y107 x5).f2.f1⟩ : S37), (⟨(rd_T39 y107 x5).f3.f0, (rd_T39 y107 x5).f3.f1⟩ : S37), (rd_T39 y107 x5).f4, wrap64 ((wrap64 ((wrap64 ((wrap64 ((wrap64 ((wrap64 ((wrap64 (x1 + 1)) + 1)) + 1)) + 1)) + 1)) + 1)) + 1)⟩ : S39)) (wrap64 ((wrap64 ((wrap64 ((wrap64 ((wrap64 ((wrap64 ((wrap64 ((wrap64 (x1 + 1)) + 1)) + 1)) + 1)) + 1)) + 1)) + 1)) + 1)) (wrap64 (x5 + 1)))))))))) else (none)) else (some (x1, x0))
def laws_markRuleS.f (k : Nat) (l0 : List (S39)) (a1 : Int) : Option (Int × (List (S39))) := laws_markRuleS.l0 k l0 a1 0
set_option maxHeartbeats 8000000 in
set_option maxRecDepth 100000 in
theorem laws_markRuleS.calls (k : Nat) (P0_ : Nat → Prop) (u9000_ : Value) (l0 : List (S39)) (a1 : Int) (r1 : Int) (r2 : List (S39)) (w0 w : World) (hB : Below w0.heap.size w0 w) (ho0 : Kd.R k39 39 w w0.heap.size P0_ u9000_ l0) (h : laws_markRuleS.f k l0 a1 = some (r1, r2)) :
  Calls Tryz.prog 8 #[u9000_, .int .i64 a1] w fun e w' => e = .returned (.int .i64 r1) ∧ Kd.R k39 39 w' w0.heap.size (fun k_ => (P0_ k_ ∨ w.heap.size ≤ k_)) u9000_ r2 ∧ Below w0.heap.size w0 w' ∧ Kept w w' (fun k_ => P0_ k_) := by
 have HO0 := Aside0.mk (show Kd.R k39 39 w w0.heap.size (fun k_ => (P0_ k_ ∨ w.heap.size ≤ k_)) u9000_ l0 from Kd.R_mono ho0 (fun k_ hk => (.inl hk)))
 have HK := Aside0.mk (Kept.refl w (fun k_ => P0_ k_))
 have HW0 := Aside0.mk hB.size
 have HB := Aside0.mk hB
 clear hB
 have H : (laws_markRuleS.l0 k l0 a1 0) = some (r1, r2) := h
 clear h
 have H' := Aside0.mk H
 clear H
 go_enter Tryz.func8, Tryz.ntmps8
 go_wp2
 go_loopg [1, 5] k (fun kq v1 v5 w' => ∃ (x0_1 : List (S39)) (x1_1 : Int) (x5_1 : Int), v1 = .int .i64 x1_1 ∧ v5 = .int .i64 x5_1 ∧ Aside0 (laws_markRuleS.l0 kq x0_1 x1_1 x5_1 = some (r1, r2)) ∧ Aside0 (kq ≤ k) ∧ Aside0 (Kd.R k39 39 w' w0.heap.size (fun k_ => (P0_ k_ ∨ w.heap.size ≤ k_)) u9000_ x0_1) ∧ Aside0 (Kept w w' (fun k_ => P0_ k_)) ∧ Aside0 (Below w0.heap.size w0 w'))
 case atStart => exact ⟨(l0), (a1), (0), (by first | rfl | (simp; done) | (simp [*]; done)), (by first | rfl | (simp; done) | (simp [*]; done)), H', ⟨Nat.le_refl _⟩, ⟨by (with_reducible repeat (first | apply Kd.R_alloc | apply Kd.R_drewN | apply Kd.R_drew)); exact HO0.out⟩, ⟨by repeat (first | (with_reducible first | exact HK.out | apply Kept.alloc | apply Kept.drewN | apply Kept.drew) | exact HK.out)⟩, ⟨by repeat (first | (with_reducible first | exact HB.out | apply below_alloc | apply pw_below_drewN | apply below_drew1) | exact HB.out)⟩⟩
 case round =>
  clear H'
  try clear p2
  obtain ⟨x0_1, x1_1, x5_1, rfl, rfl, HA, HK1, HO_0, HK, HB⟩ := hrel
  cases gk with
  | zero => exact absurd HA.out (by simp [laws_markRuleS.l0])
  | succ k1 =>
   have H := HA.out
   clear HA
   simp only [laws_markRuleS.l0] at H
   by_cases c3 : x5_1 < (x0_1.length : Int)
   ·rw [if_pos c3] at H
    have c3b0 : decide (x5_1 < (x0_1.length : Int)) = true := decide_eq_true c3
    clear c3
    by_cases c4 : 0 ≤ x5_1
    ·rw [if_pos c4] at H
     have c4b0 : decide (0 ≤ x5_1) = true := decide_eq_true c4
     clear c4
     obtain ⟨y101, hy101⟩ : ∃ y_ : List (S39), y_ = (x0_1.set (x5_1 : Int).toNat (⟨x1_1, (rd_T39 x0_1 x5_1).f1, (⟨(rd_T39 x0_1 x5_1).f2.f0, (rd_T39 x0_1 x5_1).f2.f1⟩ : S37), (⟨(rd_T39 x0_1 x5_1).f3.f0, (rd_T39 x0_1 x5_1).f3.f1⟩ : S37), (rd_T39 x0_1 x5_1).f4, (rd_T39 x0_1 x5_1).f5⟩ : S39)) := ⟨_, rfl⟩
     replace H : ((some (y101.set (x5_1 : Int).toNat (⟨(rd_T39 y101 x5_1).f0, wrap64 (x1_1 + 1), (⟨(rd_T39 y101 x5_1).f2.f0, (rd_T39 y101 x5_1).f2.f1⟩ : S37), (⟨(rd_T39 y101 x5_1).f3.f0, (rd_T39 y101 x5_1).f3.f1⟩ : S37), (rd_T39 y101 x5_1).f4, (rd_T39 y101 x5_1).f5⟩ : S39) : List (S39))).bind fun y102 => ((some (y102.set (x5_1 : Int).toNat (⟨(rd_T39 y102 x5_1).f0, (rd_T39 y102 x5_1).f1, (⟨wrap64 ((wrap64 (x1_1 + 1)) + 1), (rd_T39 y102 x5_1).f2.f1⟩ : S37), (⟨(rd_T39 y102 x5_1).f3.f0, (rd_T39 y102 x5_1).f3.f1⟩ : S37), (rd_T39 y102 x5_1).f4, (rd_T39 y102 x5_1).f5⟩ : S39) : List (S39))).bind fun y103 => ((some (y103.set (x5_1 : Int).toNat (⟨(rd_T39 y103 x5_1).f0, (rd_T39 y103 x5_1).f1, (⟨(rd_T39 y103 x5_1).f2.f0, wrap64 ((wrap64 ((wrap64 (x1_1 + 1)) + 1)) + 1)⟩ : S37), (⟨(rd_T39 y103 x5_1).f3.f0, (rd_T39 y103 x5_1).f3.f1⟩ : S37), (rd_T39 y103 x5_1).f4, (rd_T39 y103 x5_1).f5⟩ : S39) : List (S39))).bind fun y104 => ((some (y104.set (x5_1 : Int).toNat (⟨(rd_T39 y104 x5_1).f0, (rd_T39 y104 x5_1).f1, (⟨(rd_T39 y104 x5_1).f2.f0, (rd_T39 y104 x5_1).f2.f1⟩ : S37), (⟨wrap64 ((wrap64 ((wrap64 ((wrap64 (x1_1 + 1)) + 1)) + 1)) + 1), (rd_T39 y104 x5_1).f3.f1⟩ : S37), (rd_T39 y104 x5_1).f4, (rd_T39 y104 x5_1).f5⟩ : S39) : List (S39))).bind fun y105 => ((some (y105.set (x5_1 : Int).toNat (⟨(rd_T39 y105 x5_1).f0, (rd_T39 y105 x5_1).f1, (⟨(rd_T39 y105 x5_1).f2.f0, (rd_T39 y105 x5_1).f2.f1⟩ : S37), (⟨(rd_T39 y105 x5_1).f3.f0, wrap64 ((wrap64 ((wrap64 ((wrap64 ((wrap64 (x1_1 + 1)) + 1)) + 1)) + 1)) + 1)⟩ : S37), (rd_T39 y105 x5_1).f4, (rd_T39 y105 x5_1).f5⟩ : S39) : List (S39))).bind fun y106 => ((some (y106.set (x5_1 : Int).toNat (⟨(rd_T39 y106 x5_1).f0, (rd_T39 y106 x5_1).f1, (⟨(rd_T39 y106 x5_1).f2.f0, (rd_T39 y106 x5_1).f2.f1⟩ : S37), (⟨(rd_T39 y106 x5_1).f3.f0, (rd_T39 y106 x5_1).f3.f1⟩ : S37), wrap64 ((wrap64 ((wrap64 ((wrap64 ((wrap64 ((wrap64 (x1_1 + 1)) + 1)) + 1)) + 1)) + 1)) + 1), (rd_T39 y106 x5_1).f5⟩ : S39) : List (S39))).bind fun y107 => (laws_markRuleS.l0 k1 (y107.set (x5_1 : Int).toNat (⟨(rd_T39 y107 x5_1).f0, (rd_T39 y107 x5_1).f1, (⟨(rd_T39 y107 x5_1).f2.f0, (rd_T39 y107 x5_1).f2.f1⟩ : S37), (⟨(rd_T39 y107 x5_1).f3.f0, (rd_T39 y107 x5_1).f3.f1⟩ : S37), (rd_T39 y107 x5_1).f4, wrap64 ((wrap64 ((wrap64 ((wrap64 ((wrap64 ((wrap64 ((wrap64 (x1_1 + 1)) + 1)) + 1)) + 1)) + 1)) + 1)) + 1)⟩ : S39)) (wrap64 ((wrap64 ((wrap64 ((wrap64 ((wrap64 ((wrap64 ((wrap64 ((wrap64 (x1_1 + 1)) + 1)) + 1)) + 1)) + 1)) + 1)) + 1)) + 1)) (wrap64 (x5_1 + 1))))))))) = some (r1, r2) := by first | (rw [hy101]; with_reducible exact H) | (have H2_ := (Option.bind_some _ _).symm.trans H; rw [hy101]; with_reducible exact H2_) | (have H2_ := (Option.bind_some _ _).symm.trans H; with_reducible exact H2_) | with_reducible exact H | (rw [hy101]; exact H) | exact H
     have Ny101 := Aside0.mk hy101
     clear hy101
     obtain ⟨y102, hy102⟩ : ∃ y_ : List (S39), y_ = (y101.set (x5_1 : Int).toNat (⟨(rd_T39 y101 x5_1).f0, wrap64 (x1_1 + 1), (⟨(rd_T39 y101 x5_1).f2.f0, (rd_T39 y101 x5_1).f2.f1⟩ : S37), (⟨(rd_T39 y101 x5_1).f3.f0, (rd_T39 y101 x5_1).f3.f1⟩ : S37), (rd_T39 y101 x5_1).f4, (rd_T39 y101 x5_1).f5⟩ : S39)) := ⟨_, rfl⟩
     replace H : ((some (y102.set (x5_1 : Int).toNat (⟨(rd_T39 y102 x5_1).f0, (rd_T39 y102 x5_1).f1, (⟨wrap64 ((wrap64 (x1_1 + 1)) + 1), (rd_T39 y102 x5_1).f2.f1⟩ : S37), (⟨(rd_T39 y102 x5_1).f3.f0, (rd_T39 y102 x5_1).f3.f1⟩ : S37), (rd_T39 y102 x5_1).f4, (rd_T39 y102 x5_1).f5⟩ : S39) : List (S39))).bind fun y103 => ((some (y103.set (x5_1 : Int).toNat (⟨(rd_T39 y103 x5_1).f0, (rd_T39 y103 x5_1).f1, (⟨(rd_T39 y103 x5_1).f2.f0, wrap64 ((wrap64 ((wrap64 (x1_1 + 1)) + 1)) + 1)⟩ : S37), (⟨(rd_T39 y103 x5_1).f3.f0, (rd_T39 y103 x5_1).f3.f1⟩ : S37), (rd_T39 y103 x5_1).f4, (rd_T39 y103 x5_1).f5⟩ : S39) : List (S39))).bind fun y104 => ((some (y104.set (x5_1 : Int).toNat (⟨(rd_T39 y104 x5_1).f0, (rd_T39 y104 x5_1).f1, (⟨(rd_T39 y104 x5_1).f2.f0, (rd_T39 y104 x5_1).f2.f1⟩ : S37), (⟨wrap64 ((wrap64 ((wrap64 ((wrap64 (x1_1 + 1)) + 1)) + 1)) + 1), (rd_T39 y104 x5_1).f3.f1⟩ : S37), (rd_T39 y104 x5_1).f4, (rd_T39 y104 x5_1).f5⟩ : S39) : List (S39))).bind fun y105 => ((some (y105.set (x5_1 : Int).toNat (⟨(rd_T39 y105 x5_1).f0, (rd_T39 y105 x5_1).f1, (⟨(rd_T39 y105 x5_1).f2.f0, (rd_T39 y105 x5_1).f2.f1⟩ : S37), (⟨(rd_T39 y105 x5_1).f3.f0, wrap64 ((wrap64 ((wrap64 ((wrap64 ((wrap64 (x1_1 + 1)) + 1)) + 1)) + 1)) + 1)⟩ : S37), (rd_T39 y105 x5_1).f4, (rd_T39 y105 x5_1).f5⟩ : S39) : List (S39))).bind fun y106 => ((some (y106.set (x5_1 : Int).toNat (⟨(rd_T39 y106 x5_1).f0, (rd_T39 y106 x5_1).f1, (⟨(rd_T39 y106 x5_1).f2.f0, (rd_T39 y106 x5_1).f2.f1⟩ : S37), (⟨(rd_T39 y106 x5_1).f3.f0, (rd_T39 y106 x5_1).f3.f1⟩ : S37), wrap64 ((wrap64 ((wrap64 ((wrap64 ((wrap64 ((wrap64 (x1_1 + 1)) + 1)) + 1)) + 1)) + 1)) + 1), (rd_T39 y106 x5_1).f5⟩ : S39) : List (S39))).bind fun y107 => (laws_markRuleS.l0 k1 (y107.set (x5_1 : Int).toNat (⟨(rd_T39 y107 x5_1).f0, (rd_T39 y107 x5_1).f1, (⟨(rd_T39 y107 x5_1).f2.f0, (rd_T39 y107 x5_1).f2.f1⟩ : S37), (⟨(rd_T39 y107 x5_1).f3.f0, (rd_T39 y107 x5_1).f3.f1⟩ : S37), (rd_T39 y107 x5_1).f4, wrap64 ((wrap64 ((wrap64 ((wrap64 ((wrap64 ((wrap64 ((wrap64 (x1_1 + 1)) + 1)) + 1)) + 1)) + 1)) + 1)) + 1)⟩ : S39)) (wrap64 ((wrap64 ((wrap64 ((wrap64 ((wrap64 ((wrap64 ((wrap64 ((wrap64 (x1_1 + 1)) + 1)) + 1)) + 1)) + 1)) + 1)) + 1)) + 1)) (wrap64 (x5_1 + 1)))))))) = some (r1, r2) := by first | (rw [hy102]; with_reducible exact H) | (have H2_ := (Option.bind_some _ _).symm.trans H; rw [hy102]; with_reducible exact H2_) | (have H2_ := (Option.bind_some _ _).symm.trans H; with_reducible exact H2_) | with_reducible exact H | (rw [hy102]; exact H) | exact H
     have Ny102 := Aside0.mk hy102
     clear hy102
     obtain ⟨y103, hy103⟩ : ∃ y_ : List (S39), y_ = (y102.set (x5_1 : Int).toNat (⟨(rd_T39 y102 x5_1).f0, (rd_T39 y102 x5_1).f1, (⟨wrap64 ((wrap64 (x1_1 + 1)) + 1), (rd_T39 y102 x5_1).f2.f1⟩ : S37), (⟨(rd_T39 y102 x5_1).f3.f0, (rd_T39 y102 x5_1).f3.f1⟩ : S37), (rd_T39 y102 x5_1).f4, (rd_T39 y102 x5_1).f5⟩ : S39)) := ⟨_, rfl⟩
     replace H : ((some (y103.set (x5_1 : Int).toNat (⟨(rd_T39 y103 x5_1).f0, (rd_T39 y103 x5_1).f1, (⟨(rd_T39 y103 x5_1).f2.f0, wrap64 ((wrap64 ((wrap64 (x1_1 + 1)) + 1)) + 1)⟩ : S37), (⟨(rd_T39 y103 x5_1).f3.f0, (rd_T39 y103 x5_1).f3.f1⟩ : S37), (rd_T39 y103 x5_1).f4, (rd_T39 y103 x5_1).f5⟩ : S39) : List (S39))).bind fun y104 => ((some (y104.set (x5_1 : Int).toNat (⟨(rd_T39 y104 x5_1).f0, (rd_T39 y104 x5_1).f1, (⟨(rd_T39 y104 x5_1).f2.f0, (rd_T39 y104 x5_1).f2.f1⟩ : S37), (⟨wrap64 ((wrap64 ((wrap64 ((wrap64 (x1_1 + 1)) + 1)) + 1)) + 1), (rd_T39 y104 x5_1).f3.f1⟩ : S37), (rd_T39 y104 x5_1).f4, (rd_T39 y104 x5_1).f5⟩ : S39) : List (S39))).bind fun y105 => ((some (y105.set (x5_1 : Int).toNat (⟨(rd_T39 y105 x5_1).f0, (rd_T39 y105 x5_1).f1, (⟨(rd_T39 y105 x5_1).f2.f0, (rd_T39 y105 x5_1).f2.f1⟩ : S37), (⟨(rd_T39 y105 x5_1).f3.f0, wrap64 ((wrap64 ((wrap64 ((wrap64 ((wrap64 (x1_1 + 1)) + 1)) + 1)) + 1)) + 1)⟩ : S37), (rd_T39 y105 x5_1).f4, (rd_T39 y105 x5_1).f5⟩ : S39) : List (S39))).bind fun y106 => ((some (y106.set (x5_1 : Int).toNat (⟨(rd_T39 y106 x5_1).f0, (rd_T39 y106 x5_1).f1, (⟨(rd_T39 y106 x5_1).f2.f0, (rd_T39 y106 x5_1).f2.f1⟩ : S37), (⟨(rd_T39 y106 x5_1).f3.f0, (rd_T39 y106 x5_1).f3.f1⟩ : S37), wrap64 ((wrap64 ((wrap64 ((wrap64 ((wrap64 ((wrap64 (x1_1 + 1)) + 1)) + 1)) + 1)) + 1)) + 1), (rd_T39 y106 x5_1).f5⟩ : S39) : List (S39))).bind fun y107 => (laws_markRuleS.l0 k1 (y107.set (x5_1 : Int).toNat (⟨(rd_T39 y107 x5_1).f0, (rd_T39 y107 x5_1).f1, (⟨(rd_T39 y107 x5_1).f2.f0, (rd_T39 y107 x5_1).f2.f1⟩ : S37), (⟨(rd_T39 y107 x5_1).f3.f0, (rd_T39 y107 x5_1).f3.f1⟩ : S37), (rd_T39 y107 x5_1).f4, wrap64 ((wrap64 ((wrap64 ((wrap64 ((wrap64 ((wrap64 ((wrap64 (x1_1 + 1)) + 1)) + 1)) + 1)) + 1)) + 1)) + 1)⟩ : S39)) (wrap64 ((wrap64 ((wrap64 ((wrap64 ((wrap64 ((wrap64 ((wrap64 ((wrap64 (x1_1 + 1)) + 1)) + 1)) + 1)) + 1)) + 1)) + 1)) + 1)) (wrap64 (x5_1 + 1))))))) = some (r1, r2) := by first | (rw [hy103]; with_reducible exact H) | (have H2_ := (Option.bind_some _ _).symm.trans H; rw [hy103]; with_reducible exact H2_) | (have H2_ := (Option.bind_some _ _).symm.trans H; with_reducible exact H2_) | with_reducible exact H | (rw [hy103]; exact H) | exact H
     have Ny103 := Aside0.mk hy103
     clear hy103
     obtain ⟨y104, hy104⟩ : ∃ y_ : List (S39), y_ = (y103.set (x5_1 : Int).toNat (⟨(rd_T39 y103 x5_1).f0, (rd_T39 y103 x5_1).f1, (⟨(rd_T39 y103 x5_1).f2.f0, wrap64 ((wrap64 ((wrap64 (x1_1 + 1)) + 1)) + 1)⟩ : S37), (⟨(rd_T39 y103 x5_1).f3.f0, (rd_T39 y103 x5_1).f3.f1⟩ : S37), (rd_T39 y103 x5_1).f4, (rd_T39 y103 x5_1).f5⟩ : S39)) := ⟨_, rfl⟩
     replace H : ((some (y104.set (x5_1 : Int).toNat (⟨(rd_T39 y104 x5_1).f0, (rd_T39 y104 x5_1).f1, (⟨(rd_T39 y104 x5_1).f2.f0, (rd_T39 y104 x5_1).f2.f1⟩ : S37), (⟨wrap64 ((wrap64 ((wrap64 ((wrap64 (x1_1 + 1)) + 1)) + 1)) + 1), (rd_T39 y104 x5_1).f3.f1⟩ : S37), (rd_T39 y104 x5_1).f4, (rd_T39 y104 x5_1).f5⟩ : S39) : List (S39))).bind fun y105 => ((some (y105.set (x5_1 : Int).toNat (⟨(rd_T39 y105 x5_1).f0, (rd_T39 y105 x5_1).f1, (⟨(rd_T39 y105 x5_1).f2.f0, (rd_T39 y105 x5_1).f2.f1⟩ : S37), (⟨(rd_T39 y105 x5_1).f3.f0, wrap64 ((wrap64 ((wrap64 ((wrap64 ((wrap64 (x1_1 + 1)) + 1)) + 1)) + 1)) + 1)⟩ : S37), (rd_T39 y105 x5_1).f4, (rd_T39 y105 x5_1).f5⟩ : S39) : List (S39))).bind fun y106 => ((some (y106.set (x5_1 : Int).toNat (⟨(rd_T39 y106 x5_1).f0, (rd_T39 y106 x5_1).f1, (⟨(rd_T39 y106 x5_1).f2.f0, (rd_T39 y106 x5_1).f2.f1⟩ : S37), (⟨(rd_T39 y106 x5_1).f3.f0, (rd_T39 y106 x5_1).f3.f1⟩ : S37), wrap64 ((wrap64 ((wrap64 ((wrap64 ((wrap64 ((wrap64 (x1_1 + 1)) + 1)) + 1)) + 1)) + 1)) + 1), (rd_T39 y106 x5_1).f5⟩ : S39) : List (S39))).bind fun y107 => (laws_markRuleS.l0 k1 (y107.set (x5_1 : Int).toNat (⟨(rd_T39 y107 x5_1).f0, (rd_T39 y107 x5_1).f1, (⟨(rd_T39 y107 x5_1).f2.f0, (rd_T39 y107 x5_1).f2.f1⟩ : S37), (⟨(rd_T39 y107 x5_1).f3.f0, (rd_T39 y107 x5_1).f3.f1⟩ : S37), (rd_T39 y107 x5_1).f4, wrap64 ((wrap64 ((wrap64 ((wrap64 ((wrap64 ((wrap64 ((wrap64 (x1_1 + 1)) + 1)) + 1)) + 1)) + 1)) + 1)) + 1)⟩ : S39)) (wrap64 ((wrap64 ((wrap64 ((wrap64 ((wrap64 ((wrap64 ((wrap64 ((wrap64 (x1_1 + 1)) + 1)) + 1)) + 1)) + 1)) + 1)) + 1)) + 1)) (wrap64 (x5_1 + 1)))))) = some (r1, r2) := by first | (rw [hy104]; with_reducible exact H) | (have H2_ := (Option.bind_some _ _).symm.trans H; rw [hy104]; with_reducible exact H2_) | (have H2_ := (Option.bind_some _ _).symm.trans H; with_reducible exact H2_) | with_reducible exact H | (rw [hy104]; exact H) | exact H
     have Ny104 := Aside0.mk hy104
     clear hy104
     obtain ⟨y105, hy105⟩ : ∃ y_ : List (S39), y_ = (y104.set (x5_1 : Int).toNat (⟨(rd_T39 y104 x5_1).f0, (rd_T39 y104 x5_1).f1, (⟨(rd_T39 y104 x5_1).f2.f0, (rd_T39 y104 x5_1).f2.f1⟩ : S37), (⟨wrap64 ((wrap64 ((wrap64 ((wrap64 (x1_1 + 1)) + 1)) + 1)) + 1), (rd_T39 y104 x5_1).f3.f1⟩ : S37), (rd_T39 y104 x5_1).f4, (rd_T39 y104 x5_1).f5⟩ : S39)) := ⟨_, rfl⟩
     replace H : ((some (y105.set (x5_1 : Int).toNat (⟨(rd_T39 y105 x5_1).f0, (rd_T39 y105 x5_1).f1, (⟨(rd_T39 y105 x5_1).f2.f0, (rd_T39 y105 x5_1).f2.f1⟩ : S37), (⟨(rd_T39 y105 x5_1).f3.f0, wrap64 ((wrap64 ((wrap64 ((wrap64 ((wrap64 (x1_1 + 1)) + 1)) + 1)) + 1)) + 1)⟩ : S37), (rd_T39 y105 x5_1).f4, (rd_T39 y105 x5_1).f5⟩ : S39) : List (S39))).bind fun y106 => ((some (y106.set (x5_1 : Int).toNat (⟨(rd_T39 y106 x5_1).f0, (rd_T39 y106 x5_1).f1, (⟨(rd_T39 y106 x5_1).f2.f0, (rd_T39 y106 x5_1).f2.f1⟩ : S37), (⟨(rd_T39 y106 x5_1).f3.f0, (rd_T39 y106 x5_1).f3.f1⟩ : S37), wrap64 ((wrap64 ((wrap64 ((wrap64 ((wrap64 ((wrap64 (x1_1 + 1)) + 1)) + 1)) + 1)) + 1)) + 1), (rd_T39 y106 x5_1).f5⟩ : S39) : List (S39))).bind fun y107 => (laws_markRuleS.l0 k1 (y107.set (x5_1 : Int).toNat (⟨(rd_T39 y107 x5_1).f0, (rd_T39 y107 x5_1).f1, (⟨(rd_T39 y107 x5_1).f2.f0, (rd_T39 y107 x5_1).f2.f1⟩ : S37), (⟨(rd_T39 y107 x5_1).f3.f0, (rd_T39 y107 x5_1).f3.f1⟩ : S37), (rd_T39 y107 x5_1).f4, wrap64 ((wrap64 ((wrap64 ((wrap64 ((wrap64 ((wrap64 ((wrap64 (x1_1 + 1)) + 1)) + 1)) + 1)) + 1)) + 1)) + 1)⟩ : S39)) (wrap64 ((wrap64 ((wrap64 ((wrap64 ((wrap64 ((wrap64 ((wrap64 ((wrap64 (x1_1 + 1)) + 1)) + 1)) + 1)) + 1)) + 1)) + 1)) + 1)) (wrap64 (x5_1 + 1))))) = some (r1, r2) := by first | (rw [hy105]; with_reducible exact H) | (have H2_ := (Option.bind_some _ _).symm.trans H; rw [hy105]; with_reducible exact H2_) | (have H2_ := (Option.bind_some _ _).symm.trans H; with_reducible exact H2_) | with_reducible exact H | (rw [hy105]; exact H) | exact H
     have Ny105 := Aside0.mk hy105
     clear hy105
     obtain ⟨y106, hy106⟩ : ∃ y_ : List (S39), y_ = (y105.set (x5_1 : Int).toNat (⟨(rd_T39 y105 x5_1).f0, (rd_T39 y105 x5_1).f1, (⟨(rd_T39 y105 x5_1).f2.f0, (rd_T39 y105 x5_1).f2.f1⟩ : S37), (⟨(rd_T39 y105 x5_1).f3.f0, wrap64 ((wrap64 ((wrap64 ((wrap64 ((wrap64 (x1_1 + 1)) + 1)) + 1)) + 1)) + 1)⟩ : S37), (rd_T39 y105 x5_1).f4, (rd_T39 y105 x5_1).f5⟩ : S39)) := ⟨_, rfl⟩
     replace H : ((some (y106.set (x5_1 : Int).toNat (⟨(rd_T39 y106 x5_1).f0, (rd_T39 y106 x5_1).f1, (⟨(rd_T39 y106 x5_1).f2.f0, (rd_T39 y106 x5_1).f2.f1⟩ : S37), (⟨(rd_T39 y106 x5_1).f3.f0, (rd_T39 y106 x5_1).f3.f1⟩ : S37), wrap64 ((wrap64 ((wrap64 ((wrap64 ((wrap64 ((wrap64 (x1_1 + 1)) + 1)) + 1)) + 1)) + 1)) + 1), (rd_T39 y106 x5_1).f5⟩ : S39) : List (S39))).bind fun y107 => (laws_markRuleS.l0 k1 (y107.set (x5_1 : Int).toNat (⟨(rd_T39 y107 x5_1).f0, (rd_T39 y107 x5_1).f1, (⟨(rd_T39 y107 x5_1).f2.f0, (rd_T39 y107 x5_1).f2.f1⟩ : S37), (⟨(rd_T39 y107 x5_1).f3.f0, (rd_T39 y107 x5_1).f3.f1⟩ : S37), (rd_T39 y107 x5_1).f4, wrap64 ((wrap64 ((wrap64 ((wrap64 ((wrap64 ((wrap64 ((wrap64 (x1_1 + 1)) + 1)) + 1)) + 1)) + 1)) + 1)) + 1)⟩ : S39)) (wrap64 ((wrap64 ((wrap64 ((wrap64 ((wrap64 ((wrap64 ((wrap64 ((wrap64 (x1_1 + 1)) + 1)) + 1)) + 1)) + 1)) + 1)) + 1)) + 1)) (wrap64 (x5_1 + 1)))) = some (r1, r2) := by first | (rw [hy106]; with_reducible exact H) | (have H2_ := (Option.bind_some _ _).symm.trans H; rw [hy106]; with_reducible exact H2_) | (have H2_ := (Option.bind_some _ _).symm.trans H; with_reducible exact H2_) | with_reducible exact H | (rw [hy106]; exact H) | exact H
     have Ny106 := Aside0.mk hy106
     clear hy106
     obtain ⟨y107, hy107⟩ : ∃ y_ : List (S39), y_ = (y106.set (x5_1 : Int).toNat (⟨(rd_T39 y106 x5_1).f0, (rd_T39 y106 x5_1).f1, (⟨(rd_T39 y106 x5_1).f2.f0, (rd_T39 y106 x5_1).f2.f1⟩ : S37), (⟨(rd_T39 y106 x5_1).f3.f0, (rd_T39 y106 x5_1).f3.f1⟩ : S37), wrap64 ((wrap64 ((wrap64 ((wrap64 ((wrap64 ((wrap64 (x1_1 + 1)) + 1)) + 1)) + 1)) + 1)) + 1), (rd_T39 y106 x5_1).f5⟩ : S39)) := ⟨_, rfl⟩
     replace H : (laws_markRuleS.l0 k1 (y107.set (x5_1 : Int).toNat (⟨(rd_T39 y107 x5_1).f0, (rd_T39 y107 x5_1).f1, (⟨(rd_T39 y107 x5_1).f2.f0, (rd_T39 y107 x5_1).f2.f1⟩ : S37), (⟨(rd_T39 y107 x5_1).f3.f0, (rd_T39 y107 x5_1).f3.f1⟩ : S37), (rd_T39 y107 x5_1).f4, wrap64 ((wrap64 ((wrap64 ((wrap64 ((wrap64 ((wrap64 ((wrap64 (x1_1 + 1)) + 1)) + 1)) + 1)) + 1)) + 1)) + 1)⟩ : S39)) (wrap64 ((wrap64 ((wrap64 ((wrap64 ((wrap64 ((wrap64 ((wrap64 ((wrap64 (x1_1 + 1)) + 1)) + 1)) + 1)) + 1)) + 1)) + 1)) + 1)) (wrap64 (x5_1 + 1))) = some (r1, r2) := by first | (rw [hy107]; with_reducible exact H) | (have H2_ := (Option.bind_some _ _).symm.trans H; rw [hy107]; with_reducible exact H2_) | (have H2_ := (Option.bind_some _ _).symm.trans H; with_reducible exact H2_) | with_reducible exact H | (rw [hy107]; exact H) | exact H
     have Ny107 := Aside0.mk hy107
     clear hy107
     obtain ⟨y108, hy108⟩ : ∃ y_ : List (S39), y_ = (y107.set (x5_1 : Int).toNat (⟨(rd_T39 y107 x5_1).f0, (rd_T39 y107 x5_1).f1, (⟨(rd_T39 y107 x5_1).f2.f0, (rd_T39 y107 x5_1).f2.f1⟩ : S37), (⟨(rd_T39 y107 x5_1).f3.f0, (rd_T39 y107 x5_1).f3.f1⟩ : S37), (rd_T39 y107 x5_1).f4, wrap64 ((wrap64 ((wrap64 ((wrap64 ((wrap64 ((wrap64 ((wrap64 (x1_1 + 1)) + 1)) + 1)) + 1)) + 1)) + 1)) + 1)⟩ : S39)) := ⟨_, rfl⟩
     replace H : (laws_markRuleS.l0 k1 y108 (wrap64 ((wrap64 ((wrap64 ((wrap64 ((wrap64 ((wrap64 ((wrap64 ((wrap64 (x1_1 + 1)) + 1)) + 1)) + 1)) + 1)) + 1)) + 1)) + 1)) (wrap64 (x5_1 + 1))) = some (r1, r2) := by first | (rw [hy108]; with_reducible exact H) | (have H2_ := (Option.bind_some _ _).symm.trans H; rw [hy108]; with_reducible exact H2_) | (have H2_ := (Option.bind_some _ _).symm.trans H; with_reducible exact H2_) | with_reducible exact H | (rw [hy108]; exact H) | exact H
     have Ny108 := Aside0.mk hy108
     clear hy108
     have H' := Aside0.mk H
     clear H
     obtain ⟨Ao13, co13, eo13⟩ := Kd.R_slice HO_0.out
     subst eo13
     have p5 : 0 ≤ (x5_1 : Int) := of_decide_eq_true (by first | (with_reducible assumption) | assumption)
     have q5 : (x5_1 : Int) < ((x0_1.length : Int) : Int) := of_decide_eq_true (by first | (with_reducible assumption) | assumption)
     obtain ⟨go5, co5, eo5, gb5, gl5, cl5, HG5⟩ := Kd.R_form HO_0.out (by omega)
     (first | cases eo5 | (injection eo5 with ea_ en_ ec_; (first | subst ea_ | (injection ea_ with ea_; subst ea_)); subst ec_; clear en_))
     have GB5 := Aside0.mk gb5
     have GG5 := Aside0.mk HG5
     clear gb5 gl5 HG5
     have HMgo5 := Aside0.mk (show (P0_ go5 ∨ w.heap.size ≤ go5) from (HO_0.out.1 _ rfl))
     obtain ⟨ce5, hcl5, hM5, hcc5, hfr5⟩ := Kd.R_elem HO_0.out z39 (x5_1 : Int) p5 q5
     obtain rfl := k39_openM hM5
     have hx5_0 : wr.cell? ⟨go5, (x5_1 : Int).toNat * 8, none⟩ = some (.int .i64 ((rd_T39 x0_1 x5_1).f0)) := hcc5 0 _ rfl
     have hx5_1 : wr.cell? ⟨go5, (x5_1 : Int).toNat * 8 + 1, none⟩ = some (.int .i64 ((rd_T39 x0_1 x5_1).f1)) := hcc5 1 _ rfl
     have hx5_2 : wr.cell? ⟨go5, (x5_1 : Int).toNat * 8 + 2, none⟩ = some (.int .i64 ((rd_T39 x0_1 x5_1).f2.f0)) := hcc5 2 _ rfl
     have hx5_3 : wr.cell? ⟨go5, (x5_1 : Int).toNat * 8 + 3, none⟩ = some (.int .i64 ((rd_T39 x0_1 x5_1).f2.f1)) := hcc5 3 _ rfl
     have hx5_4 : wr.cell? ⟨go5, (x5_1 : Int).toNat * 8 + 4, none⟩ = some (.int .i64 ((rd_T39 x0_1 x5_1).f3.f0)) := hcc5 4 _ rfl
     have hx5_5 : wr.cell? ⟨go5, (x5_1 : Int).toNat * 8 + 5, none⟩ = some (.int .i64 ((rd_T39 x0_1 x5_1).f3.f1)) := hcc5 5 _ rfl
     have hx5_6 : wr.cell? ⟨go5, (x5_1 : Int).toNat * 8 + 6, none⟩ = some (.int .i64 ((rd_T39 x0_1 x5_1).f4)) := hcc5 6 _ rfl
     have hx5_7 : wr.cell? ⟨go5, (x5_1 : Int).toNat * 8 + 7, none⟩ = some (.int .i64 ((rd_T39 x0_1 x5_1).f5)) := hcc5 7 _ rfl
     have hf5_0 : wr.frozen? ⟨go5, (x5_1 : Int).toNat * 8, none⟩ = false := hfr5 0
     have hf5_1 : wr.frozen? ⟨go5, (x5_1 : Int).toNat * 8 + 1, none⟩ = false := hfr5 1
     have hf5_2 : wr.frozen? ⟨go5, (x5_1 : Int).toNat * 8 + 2, none⟩ = false := hfr5 2
     have hf5_3 : wr.frozen? ⟨go5, (x5_1 : Int).toNat * 8 + 3, none⟩ = false := hfr5 3
     have hf5_4 : wr.frozen? ⟨go5, (x5_1 : Int).toNat * 8 + 4, none⟩ = false := hfr5 4
     have hf5_5 : wr.frozen? ⟨go5, (x5_1 : Int).toNat * 8 + 5, none⟩ = false := hfr5 5
     have hf5_6 : wr.frozen? ⟨go5, (x5_1 : Int).toNat * 8 + 6, none⟩ = false := hfr5 6
     have hf5_7 : wr.frozen? ⟨go5, (x5_1 : Int).toNat * 8 + 7, none⟩ = false := hfr5 7
     clear hcl5 hcc5 hfr5 hM5
     replace p5 := eq_true p5
     replace q5 := eq_true q5
     have HX14 := Aside0.mk (show Kd.R k39 39 wr w0.heap.size (fun k_ => (P0_ k_ ∨ w.heap.size ≤ k_)) (.slice (some ⟨go5, 0, none⟩) x0_1.length co13) x0_1 from (by (with_reducible repeat (first | apply Kd.R_alloc | apply Kd.R_drewN | apply Kd.R_drew)); exact HO_0.out))
     obtain ⟨ce14, hcl14, hM14, hcc14, hfr14⟩ := Kd.R_elem HX14.out z39 (x5_1 : Int) (of_decide_eq_true (by first | (with_reducible assumption) | assumption)) (by have h_ : (x5_1 : Int) < ((x0_1.length : Int) : Int) := of_decide_eq_true (by first | (with_reducible assumption) | assumption); first | exact h_ | (have e_ := (Kd.R_reads' HO_0.out).1; omega) | simpa using h_)
     obtain rfl := k39_openM hM14
     have HP14 := Kd.R_seg HX14.out (x5_1 : Int) (of_decide_eq_true (by first | (with_reducible assumption) | assumption)) (by have h_ : (x5_1 : Int) < ((x0_1.length : Int) : Int) := of_decide_eq_true (by first | (with_reducible assumption) | assumption); first | exact h_ | (have e_ := (Kd.R_reads' HO_0.out).1; omega) | simpa using h_) (seg := [.int .i64 x1_1]) (j := 0) hcl14 hcc14 (show 1 ≤ 8 from by decide) (x' := (⟨x1_1, (rd_T39 x0_1 x5_1).f1, (⟨(rd_T39 x0_1 x5_1).f2.f0, (rd_T39 x0_1 x5_1).f2.f1⟩ : S37), (⟨(rd_T39 x0_1 x5_1).f3.f0, (rd_T39 x0_1 x5_1).f3.f1⟩ : S37), (rd_T39 x0_1 x5_1).f4, (rd_T39 x0_1 x5_1).f5⟩ : S39)) (k39_mkM _ _ _ (⟨x1_1, (rd_T39 x0_1 x5_1).f1, (⟨(rd_T39 x0_1 x5_1).f2.f0, (rd_T39 x0_1 x5_1).f2.f1⟩ : S37), (⟨(rd_T39 x0_1 x5_1).f3.f0, (rd_T39 x0_1 x5_1).f3.f1⟩ : S37), (rd_T39 x0_1 x5_1).f4, (rd_T39 x0_1 x5_1).f5⟩ : S39) ) (fun _ hk => hk)
     have hx14_0 := hcc14 0 _ rfl
     (try simp only [show (k39).sz = 8 from rfl, Nat.mul_one, Nat.add_zero] at hx14_0)
     have hf14_0 := hfr14 0
     (try simp only [show (k39).sz = 8 from rfl, Nat.mul_one, Nat.add_zero] at hf14_0)
     clear hcl14 hcc14 hfr14 hM14
     go_wp2_with (first | ((with_reducible refine gate_store (t := 3) (p := 16) rfl ?_); refine store_event (t := 3) (p := 16) (v := ?vo_w15) (w1 := (wr.setCell ⟨go5, (x5_1 : Int).toNat * 8, none⟩ (.int .i64 x1_1))) ?hg ?ho ?hn ?hr ?_; (case ho => rfl); (case hg => rfl); (case hn => rfl); (case hr => first | (go_simp; done) | (go_simp; rfl)); intro w15 hw; have hg : wr.grownBy w15 (some go5) := (by rw [hw]; exact HP14.2); have hp_ : Kd.R k39 39 w15 w0.heap.size (fun k_ => (P0_ k_ ∨ w.heap.size ≤ k_)) (.slice (some ⟨go5, 0, none⟩) x0_1.length co13) y101 := (by rw [hw, Ny101.out]; exact HP14.1); clear HP14; have n0_ := Aside0.mk (hp_); have n1_ := Aside0.mk ((by rw [hw]; exact below_set (HB.out) GB5.out : Below w0.heap.size w0 w15)); have n2_ := Aside0.mk (Kept.of_grown (S := (fun k_ => P0_ k_)) hg (by repeat (first | (with_reducible first | exact HK.out | apply Kept.alloc | apply Kept.drewN | apply Kept.drew) | exact HK.out)) (fun k_ e_ => (HO_0.out.1 k_ e_))); clear HO_0; clear HB; clear HK; have HO_0 := n0_; have HB := n1_; have HK := n2_; clear n0_ n1_ n2_; clear hg hw hp_; have p6 : 0 ≤ (x5_1 : Int) := of_decide_eq_true (by first | (with_reducible assumption) | assumption); have q6 : (x5_1 : Int) < ((x0_1.length : Int) : Int) := of_decide_eq_true (by first | (with_reducible assumption) | assumption); obtain ⟨ce6, hcl6, hM6, hcc6, hfr6⟩ := Kd.R_elem HO_0.out z39 (x5_1 : Int) p6 q6; obtain rfl := k39_openM hM6; have hx6_0 : w15.cell? ⟨go5, (x5_1 : Int).toNat * 8, none⟩ = some (.int .i64 ((rd_T39 y101 x5_1).f0)) := hcc6 0 _ rfl; have hx6_1 : w15.cell? ⟨go5, (x5_1 : Int).toNat * 8 + 1, none⟩ = some (.int .i64 ((rd_T39 y101 x5_1).f1)) := hcc6 1 _ rfl; have hx6_2 : w15.cell? ⟨go5, (x5_1 : Int).toNat * 8 + 2, none⟩ = some (.int .i64 ((rd_T39 y101 x5_1).f2.f0)) := hcc6 2 _ rfl; have hx6_3 : w15.cell? ⟨go5, (x5_1 : Int).toNat * 8 + 3, none⟩ = some (.int .i64 ((rd_T39 y101 x5_1).f2.f1)) := hcc6 3 _ rfl; have hx6_4 : w15.cell? ⟨go5, (x5_1 : Int).toNat * 8 + 4, none⟩ = some (.int .i64 ((rd_T39 y101 x5_1).f3.f0)) := hcc6 4 _ rfl; have hx6_5 : w15.cell? ⟨go5, (x5_1 : Int).toNat * 8 + 5, none⟩ = some (.int .i64 ((rd_T39 y101 x5_1).f3.f1)) := hcc6 5 _ rfl; have hx6_6 : w15.cell? ⟨go5, (x5_1 : Int).toNat * 8 + 6, none⟩ = some (.int .i64 ((rd_T39 y101 x5_1).f4)) := hcc6 6 _ rfl; have hx6_7 : w15.cell? ⟨go5, (x5_1 : Int).toNat * 8 + 7, none⟩ = some (.int .i64 ((rd_T39 y101 x5_1).f5)) := hcc6 7 _ rfl; have hf6_0 : w15.frozen? ⟨go5, (x5_1 : Int).toNat * 8, none⟩ = false := hfr6 0; have hf6_1 : w15.frozen? ⟨go5, (x5_1 : Int).toNat * 8 + 1, none⟩ = false := hfr6 1; have hf6_2 : w15.frozen? ⟨go5, (x5_1 : Int).toNat * 8 + 2, none⟩ = false := hfr6 2; have hf6_3 : w15.frozen? ⟨go5, (x5_1 : Int).toNat * 8 + 3, none⟩ = false := hfr6 3; have hf6_4 : w15.frozen? ⟨go5, (x5_1 : Int).toNat * 8 + 4, none⟩ = false := hfr6 4; have hf6_5 : w15.frozen? ⟨go5, (x5_1 : Int).toNat * 8 + 5, none⟩ = false := hfr6 5; have hf6_6 : w15.frozen? ⟨go5, (x5_1 : Int).toNat * 8 + 6, none⟩ = false := hfr6 6; have hf6_7 : w15.frozen? ⟨go5, (x5_1 : Int).toNat * 8 + 7, none⟩ = false := hfr6 7; clear hcl6 hcc6 hfr6 hM6; replace p6 := eq_true p6; replace q6 := eq_true q6; have HX16 := Aside0.mk (show Kd.R k39 39 w15 w0.heap.size (fun k_ => (P0_ k_ ∨ w.heap.size ≤ k_)) (.slice (some ⟨go5, 0, none⟩) x0_1.length co13) y101 from (by (with_reducible repeat (first | apply Kd.R_alloc | apply Kd.R_drewN | apply Kd.R_drew)); exact HO_0.out)); obtain ⟨ce16, hcl16, hM16, hcc16, hfr16⟩ := Kd.R_elem HX16.out z39 (x5_1 : Int) (of_decide_eq_true (by first | (with_reducible assumption) | assumption)) (by have h_ : (x5_1 : Int) < ((x0_1.length : Int) : Int) := of_decide_eq_true (by first | (with_reducible assumption) | assumption); first | exact h_ | (have e_ := (Kd.R_reads' HO_0.out).1; omega) | simpa using h_); obtain rfl := k39_openM hM16; have HP16 := Kd.R_seg HX16.out (x5_1 : Int) (of_decide_eq_true (by first | (with_reducible assumption) | assumption)) (by have h_ : (x5_1 : Int) < ((x0_1.length : Int) : Int) := of_decide_eq_true (by first | (with_reducible assumption) | assumption); first | exact h_ | (have e_ := (Kd.R_reads' HO_0.out).1; omega) | simpa using h_) (seg := [.int .i64 (wrap64 (x1_1 + 1))]) (j := 1) hcl16 hcc16 (show 2 ≤ 8 from by decide) (x' := (⟨(rd_T39 y101 x5_1).f0, wrap64 (x1_1 + 1), (⟨(rd_T39 y101 x5_1).f2.f0, (rd_T39 y101 x5_1).f2.f1⟩ : S37), (⟨(rd_T39 y101 x5_1).f3.f0, (rd_T39 y101 x5_1).f3.f1⟩ : S37), (rd_T39 y101 x5_1).f4, (rd_T39 y101 x5_1).f5⟩ : S39)) (k39_mkM _ _ _ (⟨(rd_T39 y101 x5_1).f0, wrap64 (x1_1 + 1), (⟨(rd_T39 y101 x5_1).f2.f0, (rd_T39 y101 x5_1).f2.f1⟩ : S37), (⟨(rd_T39 y101 x5_1).f3.f0, (rd_T39 y101 x5_1).f3.f1⟩ : S37), (rd_T39 y101 x5_1).f4, (rd_T39 y101 x5_1).f5⟩ : S39) ) (fun _ hk => hk); have hx16_1 := hcc16 1 _ rfl; (try simp only [show (k39).sz = 8 from rfl, Nat.mul_one, Nat.add_zero] at hx16_1); have hf16_1 := hfr16 1; (try simp only [show (k39).sz = 8 from rfl, Nat.mul_one, Nat.add_zero] at hf16_1); clear hcl16 hcc16 hfr16 hM16) | ((with_reducible refine gate_store (t := 3) (p := 23) rfl ?_); refine store_event (t := 3) (p := 23) (v := ?vo_w17) (w1 := (w15.setCell ⟨go5, (x5_1 : Int).toNat * 8 + 1, none⟩ (.int .i64 (wrap64 (x1_1 + 1))))) ?hg ?ho ?hn ?hr ?_; (case ho => rfl); (case hg => rfl); (case hn => rfl); (case hr => first | (go_simp; done) | (go_simp; rfl)); intro w17 hw; have hg : w15.grownBy w17 (some go5) := (by rw [hw]; exact HP16.2); have hp_ : Kd.R k39 39 w17 w0.heap.size (fun k_ => (P0_ k_ ∨ w.heap.size ≤ k_)) (.slice (some ⟨go5, 0, none⟩) x0_1.length co13) y102 := (by rw [hw, Ny102.out]; exact HP16.1); clear HP16; have n0_ := Aside0.mk (hp_); have n1_ := Aside0.mk ((by rw [hw]; exact below_set (HB.out) GB5.out : Below w0.heap.size w0 w17)); have n2_ := Aside0.mk (Kept.of_grown (S := (fun k_ => P0_ k_)) hg (by repeat (first | (with_reducible first | exact HK.out | apply Kept.alloc | apply Kept.drewN | apply Kept.drew) | exact HK.out)) (fun k_ e_ => (HO_0.out.1 k_ e_))); clear HO_0; clear HB; clear HK; have HO_0 := n0_; have HB := n1_; have HK := n2_; clear n0_ n1_ n2_; clear hg hw hp_; have p7 : 0 ≤ (x5_1 : Int) := of_decide_eq_true (by first | (with_reducible assumption) | assumption); have q7 : (x5_1 : Int) < ((x0_1.length : Int) : Int) := of_decide_eq_true (by first | (with_reducible assumption) | assumption); obtain ⟨ce7, hcl7, hM7, hcc7, hfr7⟩ := Kd.R_elem HO_0.out z39 (x5_1 : Int) p7 q7; obtain rfl := k39_openM hM7; have hx7_0 : w17.cell? ⟨go5, (x5_1 : Int).toNat * 8, none⟩ = some (.int .i64 ((rd_T39 y102 x5_1).f0)) := hcc7 0 _ rfl; have hx7_1 : w17.cell? ⟨go5, (x5_1 : Int).toNat * 8 + 1, none⟩ = some (.int .i64 ((rd_T39 y102 x5_1).f1)) := hcc7 1 _ rfl; have hx7_2 : w17.cell? ⟨go5, (x5_1 : Int).toNat * 8 + 2, none⟩ = some (.int .i64 ((rd_T39 y102 x5_1).f2.f0)) := hcc7 2 _ rfl; have hx7_3 : w17.cell? ⟨go5, (x5_1 : Int).toNat * 8 + 3, none⟩ = some (.int .i64 ((rd_T39 y102 x5_1).f2.f1)) := hcc7 3 _ rfl; have hx7_4 : w17.cell? ⟨go5, (x5_1 : Int).toNat * 8 + 4, none⟩ = some (.int .i64 ((rd_T39 y102 x5_1).f3.f0)) := hcc7 4 _ rfl; have hx7_5 : w17.cell? ⟨go5, (x5_1 : Int).toNat * 8 + 5, none⟩ = some (.int .i64 ((rd_T39 y102 x5_1).f3.f1)) := hcc7 5 _ rfl; have hx7_6 : w17.cell? ⟨go5, (x5_1 : Int).toNat * 8 + 6, none⟩ = some (.int .i64 ((rd_T39 y102 x5_1).f4)) := hcc7 6 _ rfl; have hx7_7 : w17.cell? ⟨go5, (x5_1 : Int).toNat * 8 + 7, none⟩ = some (.int .i64 ((rd_T39 y102 x5_1).f5)) := hcc7 7 _ rfl; have hf7_0 : w17.frozen? ⟨go5, (x5_1 : Int).toNat * 8, none⟩ = false := hfr7 0; have hf7_1 : w17.frozen? ⟨go5, (x5_1 : Int).toNat * 8 + 1, none⟩ = false := hfr7 1; have hf7_2 : w17.frozen? ⟨go5, (x5_1 : Int).toNat * 8 + 2, none⟩ = false := hfr7 2; have hf7_3 : w17.frozen? ⟨go5, (x5_1 : Int).toNat * 8 + 3, none⟩ = false := hfr7 3; have hf7_4 : w17.frozen? ⟨go5, (x5_1 : Int).toNat * 8 + 4, none⟩ = false := hfr7 4; have hf7_5 : w17.frozen? ⟨go5, (x5_1 : Int).toNat * 8 + 5, none⟩ = false := hfr7 5; have hf7_6 : w17.frozen? ⟨go5, (x5_1 : Int).toNat * 8 + 6, none⟩ = false := hfr7 6; have hf7_7 : w17.frozen? ⟨go5, (x5_1 : Int).toNat * 8 + 7, none⟩ = false := hfr7 7; clear hcl7 hcc7 hfr7 hM7; replace p7 := eq_true p7; replace q7 := eq_true q7; have HX18 := Aside0.mk (show Kd.R k39 39 w17 w0.heap.size (fun k_ => (P0_ k_ ∨ w.heap.size ≤ k_)) (.slice (some ⟨go5, 0, none⟩) x0_1.length co13) y102 from (by (with_reducible repeat (first | apply Kd.R_alloc | apply Kd.R_drewN | apply Kd.R_drew)); exact HO_0.out)); obtain ⟨ce18, hcl18, hM18, hcc18, hfr18⟩ := Kd.R_elem HX18.out z39 (x5_1 : Int) (of_decide_eq_true (by first | (with_reducible assumption) | assumption)) (by have h_ : (x5_1 : Int) < ((x0_1.length : Int) : Int) := of_decide_eq_true (by first | (with_reducible assumption) | assumption); first | exact h_ | (have e_ := (Kd.R_reads' HO_0.out).1; omega) | simpa using h_); obtain rfl := k39_openM hM18; have HP18 := Kd.R_seg HX18.out (x5_1 : Int) (of_decide_eq_true (by first | (with_reducible assumption) | assumption)) (by have h_ : (x5_1 : Int) < ((x0_1.length : Int) : Int) := of_decide_eq_true (by first | (with_reducible assumption) | assumption); first | exact h_ | (have e_ := (Kd.R_reads' HO_0.out).1; omega) | simpa using h_) (seg := [.int .i64 (wrap64 ((wrap64 (x1_1 + 1)) + 1))]) (j := 2) hcl18 hcc18 (show 3 ≤ 8 from by decide) (x' := (⟨(rd_T39 y102 x5_1).f0, (rd_T39 y102 x5_1).f1, (⟨wrap64 ((wrap64 (x1_1 + 1)) + 1), (rd_T39 y102 x5_1).f2.f1⟩ : S37), (⟨(rd_T39 y102 x5_1).f3.f0, (rd_T39 y102 x5_1).f3.f1⟩ : S37), (rd_T39 y102 x5_1).f4, (rd_T39 y102 x5_1).f5⟩ : S39)) (k39_mkM _ _ _ (⟨(rd_T39 y102 x5_1).f0, (rd_T39 y102 x5_1).f1, (⟨wrap64 ((wrap64 (x1_1 + 1)) + 1), (rd_T39 y102 x5_1).f2.f1⟩ : S37), (⟨(rd_T39 y102 x5_1).f3.f0, (rd_T39 y102 x5_1).f3.f1⟩ : S37), (rd_T39 y102 x5_1).f4, (rd_T39 y102 x5_1).f5⟩ : S39) ) (fun _ hk => hk); have hx18_2 := hcc18 2 _ rfl; (try simp only [show (k39).sz = 8 from rfl, Nat.mul_one, Nat.add_zero] at hx18_2); have hf18_2 := hfr18 2; (try simp only [show (k39).sz = 8 from rfl, Nat.mul_one, Nat.add_zero] at hf18_2); clear hcl18 hcc18 hfr18 hM18) | ((with_reducible refine gate_store (t := 3) (p := 31) rfl ?_); refine store_event (t := 3) (p := 31) (v := ?vo_w19) (w1 := (w17.setCell ⟨go5, (x5_1 : Int).toNat * 8 + 2, none⟩ (.int .i64 (wrap64 ((wrap64 (x1_1 + 1)) + 1))))) ?hg ?ho ?hn ?hr ?_; (case ho => rfl); (case hg => rfl); (case hn => rfl); (case hr => first | (go_simp; done) | (go_simp; rfl)); intro w19 hw; have hg : w17.grownBy w19 (some go5) := (by rw [hw]; exact HP18.2); have hp_ : Kd.R k39 39 w19 w0.heap.size (fun k_ => (P0_ k_ ∨ w.heap.size ≤ k_)) (.slice (some ⟨go5, 0, none⟩) x0_1.length co13) y103 := (by rw [hw, Ny103.out]; exact HP18.1); clear HP18; have n0_ := Aside0.mk (hp_); have n1_ := Aside0.mk ((by rw [hw]; exact below_set (HB.out) GB5.out : Below w0.heap.size w0 w19)); have n2_ := Aside0.mk (Kept.of_grown (S := (fun k_ => P0_ k_)) hg (by repeat (first | (with_reducible first | exact HK.out | apply Kept.alloc | apply Kept.drewN | apply Kept.drew) | exact HK.out)) (fun k_ e_ => (HO_0.out.1 k_ e_))); clear HO_0; clear HB; clear HK; have HO_0 := n0_; have HB := n1_; have HK := n2_; clear n0_ n1_ n2_; clear hg hw hp_; have p8 : 0 ≤ (x5_1 : Int) := of_decide_eq_true (by first | (with_reducible assumption) | assumption); have q8 : (x5_1 : Int) < ((x0_1.length : Int) : Int) := of_decide_eq_true (by first | (with_reducible assumption) | assumption); obtain ⟨ce8, hcl8, hM8, hcc8, hfr8⟩ := Kd.R_elem HO_0.out z39 (x5_1 : Int) p8 q8; obtain rfl := k39_openM hM8; have hx8_0 : w19.cell? ⟨go5, (x5_1 : Int).toNat * 8, none⟩ = some (.int .i64 ((rd_T39 y103 x5_1).f0)) := hcc8 0 _ rfl; have hx8_1 : w19.cell? ⟨go5, (x5_1 : Int).toNat * 8 + 1, none⟩ = some (.int .i64 ((rd_T39 y103 x5_1).f1)) := hcc8 1 _ rfl; have hx8_2 : w19.cell? ⟨go5, (x5_1 : Int).toNat * 8 + 2, none⟩ = some (.int .i64 ((rd_T39 y103 x5_1).f2.f0)) := hcc8 2 _ rfl; have hx8_3 : w19.cell? ⟨go5, (x5_1 : Int).toNat * 8 + 3, none⟩ = some (.int .i64 ((rd_T39 y103 x5_1).f2.f1)) := hcc8 3 _ rfl; have hx8_4 : w19.cell? ⟨go5, (x5_1 : Int).toNat * 8 + 4, none⟩ = some (.int .i64 ((rd_T39 y103 x5_1).f3.f0)) := hcc8 4 _ rfl; have hx8_5 : w19.cell? ⟨go5, (x5_1 : Int).toNat * 8 + 5, none⟩ = some (.int .i64 ((rd_T39 y103 x5_1).f3.f1)) := hcc8 5 _ rfl; have hx8_6 : w19.cell? ⟨go5, (x5_1 : Int).toNat * 8 + 6, none⟩ = some (.int .i64 ((rd_T39 y103 x5_1).f4)) := hcc8 6 _ rfl; have hx8_7 : w19.cell? ⟨go5, (x5_1 : Int).toNat * 8 + 7, none⟩ = some (.int .i64 ((rd_T39 y103 x5_1).f5)) := hcc8 7 _ rfl; have hf8_0 : w19.frozen? ⟨go5, (x5_1 : Int).toNat * 8, none⟩ = false := hfr8 0; have hf8_1 : w19.frozen? ⟨go5, (x5_1 : Int).toNat * 8 + 1, none⟩ = false := hfr8 1; have hf8_2 : w19.frozen? ⟨go5, (x5_1 : Int).toNat * 8 + 2, none⟩ = false := hfr8 2; have hf8_3 : w19.frozen? ⟨go5, (x5_1 : Int).toNat * 8 + 3, none⟩ = false := hfr8 3; have hf8_4 : w19.frozen? ⟨go5, (x5_1 : Int).toNat * 8 + 4, none⟩ = false := hfr8 4; have hf8_5 : w19.frozen? ⟨go5, (x5_1 : Int).toNat * 8 + 5, none⟩ = false := hfr8 5; have hf8_6 : w19.frozen? ⟨go5, (x5_1 : Int).toNat * 8 + 6, none⟩ = false := hfr8 6; have hf8_7 : w19.frozen? ⟨go5, (x5_1 : Int).toNat * 8 + 7, none⟩ = false := hfr8 7; clear hcl8 hcc8 hfr8 hM8; replace p8 := eq_true p8; replace q8 := eq_true q8; have HX20 := Aside0.mk (show Kd.R k39 39 w19 w0.heap.size (fun k_ => (P0_ k_ ∨ w.heap.size ≤ k_)) (.slice (some ⟨go5, 0, none⟩) x0_1.length co13) y103 from (by (with_reducible repeat (first | apply Kd.R_alloc | apply Kd.R_drewN | apply Kd.R_drew)); exact HO_0.out)); obtain ⟨ce20, hcl20, hM20, hcc20, hfr20⟩ := Kd.R_elem HX20.out z39 (x5_1 : Int) (of_decide_eq_true (by first | (with_reducible assumption) | assumption)) (by have h_ : (x5_1 : Int) < ((x0_1.length : Int) : Int) := of_decide_eq_true (by first | (with_reducible assumption) | assumption); first | exact h_ | (have e_ := (Kd.R_reads' HO_0.out).1; omega) | simpa using h_); obtain rfl := k39_openM hM20; have HP20 := Kd.R_seg HX20.out (x5_1 : Int) (of_decide_eq_true (by first | (with_reducible assumption) | assumption)) (by have h_ : (x5_1 : Int) < ((x0_1.length : Int) : Int) := of_decide_eq_true (by first | (with_reducible assumption) | assumption); first | exact h_ | (have e_ := (Kd.R_reads' HO_0.out).1; omega) | simpa using h_) (seg := [.int .i64 (wrap64 ((wrap64 ((wrap64 (x1_1 + 1)) + 1)) + 1))]) (j := 3) hcl20 hcc20 (show 4 ≤ 8 from by decide) (x' := (⟨(rd_T39 y103 x5_1).f0, (rd_T39 y103 x5_1).f1, (⟨(rd_T39 y103 x5_1).f2.f0, wrap64 ((wrap64 ((wrap64 (x1_1 + 1)) + 1)) + 1)⟩ : S37), (⟨(rd_T39 y103 x5_1).f3.f0, (rd_T39 y103 x5_1).f3.f1⟩ : S37), (rd_T39 y103 x5_1).f4, (rd_T39 y103 x5_1).f5⟩ : S39)) (k39_mkM _ _ _ (⟨(rd_T39 y103 x5_1).f0, (rd_T39 y103 x5_1).f1, (⟨(rd_T39 y103 x5_1).f2.f0, wrap64 ((wrap64 ((wrap64 (x1_1 + 1)) + 1)) + 1)⟩ : S37), (⟨(rd_T39 y103 x5_1).f3.f0, (rd_T39 y103 x5_1).f3.f1⟩ : S37), (rd_T39 y103 x5_1).f4, (rd_T39 y103 x5_1).f5⟩ : S39) ) (fun _ hk => hk); have hx20_3 := hcc20 3 _ rfl; (try simp only [show (k39).sz = 8 from rfl, Nat.mul_one, Nat.add_zero] at hx20_3); have hf20_3 := hfr20 3; (try simp only [show (k39).sz = 8 from rfl, Nat.mul_one, Nat.add_zero] at hf20_3); clear hcl20 hcc20 hfr20 hM20) | ((with_reducible refine gate_store (t := 3) (p := 39) rfl ?_); refine store_event (t := 3) (p := 39) (v := ?vo_w21) (w1 := (w19.setCell ⟨go5, (x5_1 : Int).toNat * 8 + 3, none⟩ (.int .i64 (wrap64 ((wrap64 ((wrap64 (x1_1 + 1)) + 1)) + 1))))) ?hg ?ho ?hn ?hr ?_; (case ho => rfl); (case hg => rfl); (case hn => rfl); (case hr => first | (go_simp; done) | (go_simp; rfl)); intro w21 hw; have hg : w19.grownBy w21 (some go5) := (by rw [hw]; exact HP20.2); have hp_ : Kd.R k39 39 w21 w0.heap.size (fun k_ => (P0_ k_ ∨ w.heap.size ≤ k_)) (.slice (some ⟨go5, 0, none⟩) x0_1.length co13) y104 := (by rw [hw, Ny104.out]; exact HP20.1); clear HP20; have n0_ := Aside0.mk (hp_); have n1_ := Aside0.mk ((by rw [hw]; exact below_set (HB.out) GB5.out : Below w0.heap.size w0 w21)); have n2_ := Aside0.mk (Kept.of_grown (S := (fun k_ => P0_ k_)) hg (by repeat (first | (with_reducible first | exact HK.out | apply Kept.alloc | apply Kept.drewN | apply Kept.drew) | exact HK.out)) (fun k_ e_ => (HO_0.out.1 k_ e_))); clear HO_0; clear HB; clear HK; have HO_0 := n0_; have HB := n1_; have HK := n2_; clear n0_ n1_ n2_; clear hg hw hp_; have p9 : 0 ≤ (x5_1 : Int) := of_decide_eq_true (by first | (with_reducible assumption) | assumption); have q9 : (x5_1 : Int) < ((x0_1.length : Int) : Int) := of_decide_eq_true (by first | (with_reducible assumption) | assumption); obtain ⟨ce9, hcl9, hM9, hcc9, hfr9⟩ := Kd.R_elem HO_0.out z39 (x5_1 : Int) p9 q9; obtain rfl := k39_openM hM9; have hx9_0 : w21.cell? ⟨go5, (x5_1 : Int).toNat * 8, none⟩ = some (.int .i64 ((rd_T39 y104 x5_1).f0)) := hcc9 0 _ rfl; have hx9_1 : w21.cell? ⟨go5, (x5_1 : Int).toNat * 8 + 1, none⟩ = some (.int .i64 ((rd_T39 y104 x5_1).f1)) := hcc9 1 _ rfl; have hx9_2 : w21.cell? ⟨go5, (x5_1 : Int).toNat * 8 + 2, none⟩ = some (.int .i64 ((rd_T39 y104 x5_1).f2.f0)) := hcc9 2 _ rfl; have hx9_3 : w21.cell? ⟨go5, (x5_1 : Int).toNat * 8 + 3, none⟩ = some (.int .i64 ((rd_T39 y104 x5_1).f2.f1)) := hcc9 3 _ rfl; have hx9_4 : w21.cell? ⟨go5, (x5_1 : Int).toNat * 8 + 4, none⟩ = some (.int .i64 ((rd_T39 y104 x5_1).f3.f0)) := hcc9 4 _ rfl; have hx9_5 : w21.cell? ⟨go5, (x5_1 : Int).toNat * 8 + 5, none⟩ = some (.int .i64 ((rd_T39 y104 x5_1).f3.f1)) := hcc9 5 _ rfl; have hx9_6 : w21.cell? ⟨go5, (x5_1 : Int).toNat * 8 + 6, none⟩ = some (.int .i64 ((rd_T39 y104 x5_1).f4)) := hcc9 6 _ rfl; have hx9_7 : w21.cell? ⟨go5, (x5_1 : Int).toNat * 8 + 7, none⟩ = some (.int .i64 ((rd_T39 y104 x5_1).f5)) := hcc9 7 _ rfl; have hf9_0 : w21.frozen? ⟨go5, (x5_1 : Int).toNat * 8, none⟩ = false := hfr9 0; have hf9_1 : w21.frozen? ⟨go5, (x5_1 : Int).toNat * 8 + 1, none⟩ = false := hfr9 1; have hf9_2 : w21.frozen? ⟨go5, (x5_1 : Int).toNat * 8 + 2, none⟩ = false := hfr9 2; have hf9_3 : w21.frozen? ⟨go5, (x5_1 : Int).toNat * 8 + 3, none⟩ = false := hfr9 3; have hf9_4 : w21.frozen? ⟨go5, (x5_1 : Int).toNat * 8 + 4, none⟩ = false := hfr9 4; have hf9_5 : w21.frozen? ⟨go5, (x5_1 : Int).toNat * 8 + 5, none⟩ = false := hfr9 5; have hf9_6 : w21.frozen? ⟨go5, (x5_1 : Int).toNat * 8 + 6, none⟩ = false := hfr9 6; have hf9_7 : w21.frozen? ⟨go5, (x5_1 : Int).toNat * 8 + 7, none⟩ = false := hfr9 7; clear hcl9 hcc9 hfr9 hM9; replace p9 := eq_true p9; replace q9 := eq_true q9; have HX22 := Aside0.mk (show Kd.R k39 39 w21 w0.heap.size (fun k_ => (P0_ k_ ∨ w.heap.size ≤ k_)) (.slice (some ⟨go5, 0, none⟩) x0_1.length co13) y104 from (by (with_reducible repeat (first | apply Kd.R_alloc | apply Kd.R_drewN | apply Kd.R_drew)); exact HO_0.out)); obtain ⟨ce22, hcl22, hM22, hcc22, hfr22⟩ := Kd.R_elem HX22.out z39 (x5_1 : Int) (of_decide_eq_true (by first | (with_reducible assumption) | assumption)) (by have h_ : (x5_1 : Int) < ((x0_1.length : Int) : Int) := of_decide_eq_true (by first | (with_reducible assumption) | assumption); first | exact h_ | (have e_ := (Kd.R_reads' HO_0.out).1; omega) | simpa using h_); obtain rfl := k39_openM hM22; have HP22 := Kd.R_seg HX22.out (x5_1 : Int) (of_decide_eq_true (by first | (with_reducible assumption) | assumption)) (by have h_ : (x5_1 : Int) < ((x0_1.length : Int) : Int) := of_decide_eq_true (by first | (with_reducible assumption) | assumption); first | exact h_ | (have e_ := (Kd.R_reads' HO_0.out).1; omega) | simpa using h_) (seg := [.int .i64 (wrap64 ((wrap64 ((wrap64 ((wrap64 (x1_1 + 1)) + 1)) + 1)) + 1))]) (j := 4) hcl22 hcc22 (show 5 ≤ 8 from by decide) (x' := (⟨(rd_T39 y104 x5_1).f0, (rd_T39 y104 x5_1).f1, (⟨(rd_T39 y104 x5_1).f2.f0, (rd_T39 y104 x5_1).f2.f1⟩ : S37), (⟨wrap64 ((wrap64 ((wrap64 ((wrap64 (x1_1 + 1)) + 1)) + 1)) + 1), (rd_T39 y104 x5_1).f3.f1⟩ : S37), (rd_T39 y104 x5_1).f4, (rd_T39 y104 x5_1).f5⟩ : S39)) (k39_mkM _ _ _ (⟨(rd_T39 y104 x5_1).f0, (rd_T39 y104 x5_1).f1, (⟨(rd_T39 y104 x5_1).f2.f0, (rd_T39 y104 x5_1).f2.f1⟩ : S37), (⟨wrap64 ((wrap64 ((wrap64 ((wrap64 (x1_1 + 1)) + 1)) + 1)) + 1), (rd_T39 y104 x5_1).f3.f1⟩ : S37), (rd_T39 y104 x5_1).f4, (rd_T39 y104 x5_1).f5⟩ : S39) ) (fun _ hk => hk); have hx22_4 := hcc22 4 _ rfl; (try simp only [show (k39).sz = 8 from rfl, Nat.mul_one, Nat.add_zero] at hx22_4); have hf22_4 := hfr22 4; (try simp only [show (k39).sz = 8 from rfl, Nat.mul_one, Nat.add_zero] at hf22_4); clear hcl22 hcc22 hfr22 hM22) | ((with_reducible refine gate_store (t := 3) (p := 47) rfl ?_); refine store_event (t := 3) (p := 47) (v := ?vo_w23) (w1 := (w21.setCell ⟨go5, (x5_1 : Int).toNat * 8 + 4, none⟩ (.int .i64 (wrap64 ((wrap64 ((wrap64 ((wrap64 (x1_1 + 1)) + 1)) + 1)) + 1))))) ?hg ?ho ?hn ?hr ?_; (case ho => rfl); (case hg => rfl); (case hn => rfl); (case hr => first | (go_simp; done) | (go_simp; rfl)); intro w23 hw; have hg : w21.grownBy w23 (some go5) := (by rw [hw]; exact HP22.2); have hp_ : Kd.R k39 39 w23 w0.heap.size (fun k_ => (P0_ k_ ∨ w.heap.size ≤ k_)) (.slice (some ⟨go5, 0, none⟩) x0_1.length co13) y105 := (by rw [hw, Ny105.out]; exact HP22.1); clear HP22; have n0_ := Aside0.mk (hp_); have n1_ := Aside0.mk ((by rw [hw]; exact below_set (HB.out) GB5.out : Below w0.heap.size w0 w23)); have n2_ := Aside0.mk (Kept.of_grown (S := (fun k_ => P0_ k_)) hg (by repeat (first | (with_reducible first | exact HK.out | apply Kept.alloc | apply Kept.drewN | apply Kept.drew) | exact HK.out)) (fun k_ e_ => (HO_0.out.1 k_ e_))); clear HO_0; clear HB; clear HK; have HO_0 := n0_; have HB := n1_; have HK := n2_; clear n0_ n1_ n2_; clear hg hw hp_; have p10 : 0 ≤ (x5_1 : Int) := of_decide_eq_true (by first | (with_reducible assumption) | assumption); have q10 : (x5_1 : Int) < ((x0_1.length : Int) : Int) := of_decide_eq_true (by first | (with_reducible assumption) | assumption); obtain ⟨ce10, hcl10, hM10, hcc10, hfr10⟩ := Kd.R_elem HO_0.out z39 (x5_1 : Int) p10 q10; obtain rfl := k39_openM hM10; have hx10_0 : w23.cell? ⟨go5, (x5_1 : Int).toNat * 8, none⟩ = some (.int .i64 ((rd_T39 y105 x5_1).f0)) := hcc10 0 _ rfl; have hx10_1 : w23.cell? ⟨go5, (x5_1 : Int).toNat * 8 + 1, none⟩ = some (.int .i64 ((rd_T39 y105 x5_1).f1)) := hcc10 1 _ rfl; have hx10_2 : w23.cell? ⟨go5, (x5_1 : Int).toNat * 8 + 2, none⟩ = some (.int .i64 ((rd_T39 y105 x5_1).f2.f0)) := hcc10 2 _ rfl; have hx10_3 : w23.cell? ⟨go5, (x5_1 : Int).toNat * 8 + 3, none⟩ = some (.int .i64 ((rd_T39 y105 x5_1).f2.f1)) := hcc10 3 _ rfl; have hx10_4 : w23.cell? ⟨go5, (x5_1 : Int).toNat * 8 + 4, none⟩ = some (.int .i64 ((rd_T39 y105 x5_1).f3.f0)) := hcc10 4 _ rfl; have hx10_5 : w23.cell? ⟨go5, (x5_1 : Int).toNat * 8 + 5, none⟩ = some (.int .i64 ((rd_T39 y105 x5_1).f3.f1)) := hcc10 5 _ rfl; have hx10_6 : w23.cell? ⟨go5, (x5_1 : Int).toNat * 8 + 6, none⟩ = some (.int .i64 ((rd_T39 y105 x5_1).f4)) := hcc10 6 _ rfl; have hx10_7 : w23.cell? ⟨go5, (x5_1 : Int).toNat * 8 + 7, none⟩ = some (.int .i64 ((rd_T39 y105 x5_1).f5)) := hcc10 7 _ rfl; have hf10_0 : w23.frozen? ⟨go5, (x5_1 : Int).toNat * 8, none⟩ = false := hfr10 0; have hf10_1 : w23.frozen? ⟨go5, (x5_1 : Int).toNat * 8 + 1, none⟩ = false := hfr10 1; have hf10_2 : w23.frozen? ⟨go5, (x5_1 : Int).toNat * 8 + 2, none⟩ = false := hfr10 2; have hf10_3 : w23.frozen? ⟨go5, (x5_1 : Int).toNat * 8 + 3, none⟩ = false := hfr10 3; have hf10_4 : w23.frozen? ⟨go5, (x5_1 : Int).toNat * 8 + 4, none⟩ = false := hfr10 4; have hf10_5 : w23.frozen? ⟨go5, (x5_1 : Int).toNat * 8 + 5, none⟩ = false := hfr10 5; have hf10_6 : w23.frozen? ⟨go5, (x5_1 : Int).toNat * 8 + 6, none⟩ = false := hfr10 6; have hf10_7 : w23.frozen? ⟨go5, (x5_1 : Int).toNat * 8 + 7, none⟩ = false := hfr10 7; clear hcl10 hcc10 hfr10 hM10; replace p10 := eq_true p10; replace q10 := eq_true q10; have HX24 := Aside0.mk (show Kd.R k39 39 w23 w0.heap.size (fun k_ => (P0_ k_ ∨ w.heap.size ≤ k_)) (.slice (some ⟨go5, 0, none⟩) x0_1.length co13) y105 from (by (with_reducible repeat (first | apply Kd.R_alloc | apply Kd.R_drewN | apply Kd.R_drew)); exact HO_0.out)); obtain ⟨ce24, hcl24, hM24, hcc24, hfr24⟩ := Kd.R_elem HX24.out z39 (x5_1 : Int) (of_decide_eq_true (by first | (with_reducible assumption) | assumption)) (by have h_ : (x5_1 : Int) < ((x0_1.length : Int) : Int) := of_decide_eq_true (by first | (with_reducible assumption) | assumption); first | exact h_ | (have e_ := (Kd.R_reads' HO_0.out).1; omega) | simpa using h_); obtain rfl := k39_openM hM24; have HP24 := Kd.R_seg HX24.out (x5_1 : Int) (of_decide_eq_true (by first | (with_reducible assumption) | assumption)) (by have h_ : (x5_1 : Int) < ((x0_1.length : Int) : Int) := of_decide_eq_true (by first | (with_reducible assumption) | assumption); first | exact h_ | (have e_ := (Kd.R_reads' HO_0.out).1; omega) | simpa using h_) (seg := [.int .i64 (wrap64 ((wrap64 ((wrap64 ((wrap64 ((wrap64 (x1_1 + 1)) + 1)) + 1)) + 1)) + 1))]) (j := 5) hcl24 hcc24 (show 6 ≤ 8 from by decide) (x' := (⟨(rd_T39 y105 x5_1).f0, (rd_T39 y105 x5_1).f1, (⟨(rd_T39 y105 x5_1).f2.f0, (rd_T39 y105 x5_1).f2.f1⟩ : S37), (⟨(rd_T39 y105 x5_1).f3.f0, wrap64 ((wrap64 ((wrap64 ((wrap64 ((wrap64 (x1_1 + 1)) + 1)) + 1)) + 1)) + 1)⟩ : S37), (rd_T39 y105 x5_1).f4, (rd_T39 y105 x5_1).f5⟩ : S39)) (k39_mkM _ _ _ (⟨(rd_T39 y105 x5_1).f0, (rd_T39 y105 x5_1).f1, (⟨(rd_T39 y105 x5_1).f2.f0, (rd_T39 y105 x5_1).f2.f1⟩ : S37), (⟨(rd_T39 y105 x5_1).f3.f0, wrap64 ((wrap64 ((wrap64 ((wrap64 ((wrap64 (x1_1 + 1)) + 1)) + 1)) + 1)) + 1)⟩ : S37), (rd_T39 y105 x5_1).f4, (rd_T39 y105 x5_1).f5⟩ : S39) ) (fun _ hk => hk); have hx24_5 := hcc24 5 _ rfl; (try simp only [show (k39).sz = 8 from rfl, Nat.mul_one, Nat.add_zero] at hx24_5); have hf24_5 := hfr24 5; (try simp only [show (k39).sz = 8 from rfl, Nat.mul_one, Nat.add_zero] at hf24_5); clear hcl24 hcc24 hfr24 hM24) | ((with_reducible refine gate_store (t := 3) (p := 55) rfl ?_); refine store_event (t := 3) (p := 55) (v := ?vo_w25) (w1 := (w23.setCell ⟨go5, (x5_1 : Int).toNat * 8 + 5, none⟩ (.int .i64 (wrap64 ((wrap64 ((wrap64 ((wrap64 ((wrap64 (x1_1 + 1)) + 1)) + 1)) + 1)) + 1))))) ?hg ?ho ?hn ?hr ?_; (case ho => rfl); (case hg => rfl); (case hn => rfl); (case hr => first | (go_simp; done) | (go_simp; rfl)); intro w25 hw; have hg : w23.grownBy w25 (some go5) := (by rw [hw]; exact HP24.2); have hp_ : Kd.R k39 39 w25 w0.heap.size (fun k_ => (P0_ k_ ∨ w.heap.size ≤ k_)) (.slice (some ⟨go5, 0, none⟩) x0_1.length co13) y106 := (by rw [hw, Ny106.out]; exact HP24.1); clear HP24; have n0_ := Aside0.mk (hp_); have n1_ := Aside0.mk ((by rw [hw]; exact below_set (HB.out) GB5.out : Below w0.heap.size w0 w25)); have n2_ := Aside0.mk (Kept.of_grown (S := (fun k_ => P0_ k_)) hg (by repeat (first | (with_reducible first | exact HK.out | apply Kept.alloc | apply Kept.drewN | apply Kept.drew) | exact HK.out)) (fun k_ e_ => (HO_0.out.1 k_ e_))); clear HO_0; clear HB; clear HK; have HO_0 := n0_; have HB := n1_; have HK := n2_; clear n0_ n1_ n2_; clear hg hw hp_; have p11 : 0 ≤ (x5_1 : Int) := of_decide_eq_true (by first | (with_reducible assumption) | assumption); have q11 : (x5_1 : Int) < ((x0_1.length : Int) : Int) := of_decide_eq_true (by first | (with_reducible assumption) | assumption); obtain ⟨ce11, hcl11, hM11, hcc11, hfr11⟩ := Kd.R_elem HO_0.out z39 (x5_1 : Int) p11 q11; obtain rfl := k39_openM hM11; have hx11_0 : w25.cell? ⟨go5, (x5_1 : Int).toNat * 8, none⟩ = some (.int .i64 ((rd_T39 y106 x5_1).f0)) := hcc11 0 _ rfl; have hx11_1 : w25.cell? ⟨go5, (x5_1 : Int).toNat * 8 + 1, none⟩ = some (.int .i64 ((rd_T39 y106 x5_1).f1)) := hcc11 1 _ rfl; have hx11_2 : w25.cell? ⟨go5, (x5_1 : Int).toNat * 8 + 2, none⟩ = some (.int .i64 ((rd_T39 y106 x5_1).f2.f0)) := hcc11 2 _ rfl; have hx11_3 : w25.cell? ⟨go5, (x5_1 : Int).toNat * 8 + 3, none⟩ = some (.int .i64 ((rd_T39 y106 x5_1).f2.f1)) := hcc11 3 _ rfl; have hx11_4 : w25.cell? ⟨go5, (x5_1 : Int).toNat * 8 + 4, none⟩ = some (.int .i64 ((rd_T39 y106 x5_1).f3.f0)) := hcc11 4 _ rfl; have hx11_5 : w25.cell? ⟨go5, (x5_1 : Int).toNat * 8 + 5, none⟩ = some (.int .i64 ((rd_T39 y106 x5_1).f3.f1)) := hcc11 5 _ rfl; have hx11_6 : w25.cell? ⟨go5, (x5_1 : Int).toNat * 8 + 6, none⟩ = some (.int .i64 ((rd_T39 y106 x5_1).f4)) := hcc11 6 _ rfl; have hx11_7 : w25.cell? ⟨go5, (x5_1 : Int).toNat * 8 + 7, none⟩ = some (.int .i64 ((rd_T39 y106 x5_1).f5)) := hcc11 7 _ rfl; have hf11_0 : w25.frozen? ⟨go5, (x5_1 : Int).toNat * 8, none⟩ = false := hfr11 0; have hf11_1 : w25.frozen? ⟨go5, (x5_1 : Int).toNat * 8 + 1, none⟩ = false := hfr11 1; have hf11_2 : w25.frozen? ⟨go5, (x5_1 : Int).toNat * 8 + 2, none⟩ = false := hfr11 2; have hf11_3 : w25.frozen? ⟨go5, (x5_1 : Int).toNat * 8 + 3, none⟩ = false := hfr11 3; have hf11_4 : w25.frozen? ⟨go5, (x5_1 : Int).toNat * 8 + 4, none⟩ = false := hfr11 4; have hf11_5 : w25.frozen? ⟨go5, (x5_1 : Int).toNat * 8 + 5, none⟩ = false := hfr11 5; have hf11_6 : w25.frozen? ⟨go5, (x5_1 : Int).toNat * 8 + 6, none⟩ = false := hfr11 6; have hf11_7 : w25.frozen? ⟨go5, (x5_1 : Int).toNat * 8 + 7, none⟩ = false := hfr11 7; clear hcl11 hcc11 hfr11 hM11; replace p11 := eq_true p11; replace q11 := eq_true q11; have HX26 := Aside0.mk (show Kd.R k39 39 w25 w0.heap.size (fun k_ => (P0_ k_ ∨ w.heap.size ≤ k_)) (.slice (some ⟨go5, 0, none⟩) x0_1.length co13) y106 from (by (with_reducible repeat (first | apply Kd.R_alloc | apply Kd.R_drewN | apply Kd.R_drew)); exact HO_0.out)); obtain ⟨ce26, hcl26, hM26, hcc26, hfr26⟩ := Kd.R_elem HX26.out z39 (x5_1 : Int) (of_decide_eq_true (by first | (with_reducible assumption) | assumption)) (by have h_ : (x5_1 : Int) < ((x0_1.length : Int) : Int) := of_decide_eq_true (by first | (with_reducible assumption) | assumption); first | exact h_ | (have e_ := (Kd.R_reads' HO_0.out).1; omega) | simpa using h_); obtain rfl := k39_openM hM26; have HP26 := Kd.R_seg HX26.out (x5_1 : Int) (of_decide_eq_true (by first | (with_reducible assumption) | assumption)) (by have h_ : (x5_1 : Int) < ((x0_1.length : Int) : Int) := of_decide_eq_true (by first | (with_reducible assumption) | assumption); first | exact h_ | (have e_ := (Kd.R_reads' HO_0.out).1; omega) | simpa using h_) (seg := [.int .i64 (wrap64 ((wrap64 ((wrap64 ((wrap64 ((wrap64 ((wrap64 (x1_1 + 1)) + 1)) + 1)) + 1)) + 1)) + 1))]) (j := 6) hcl26 hcc26 (show 7 ≤ 8 from by decide) (x' := (⟨(rd_T39 y106 x5_1).f0, (rd_T39 y106 x5_1).f1, (⟨(rd_T39 y106 x5_1).f2.f0, (rd_T39 y106 x5_1).f2.f1⟩ : S37), (⟨(rd_T39 y106 x5_1).f3.f0, (rd_T39 y106 x5_1).f3.f1⟩ : S37), wrap64 ((wrap64 ((wrap64 ((wrap64 ((wrap64 ((wrap64 (x1_1 + 1)) + 1)) + 1)) + 1)) + 1)) + 1), (rd_T39 y106 x5_1).f5⟩ : S39)) (k39_mkM _ _ _ (⟨(rd_T39 y106 x5_1).f0, (rd_T39 y106 x5_1).f1, (⟨(rd_T39 y106 x5_1).f2.f0, (rd_T39 y106 x5_1).f2.f1⟩ : S37), (⟨(rd_T39 y106 x5_1).f3.f0, (rd_T39 y106 x5_1).f3.f1⟩ : S37), wrap64 ((wrap64 ((wrap64 ((wrap64 ((wrap64 ((wrap64 (x1_1 + 1)) + 1)) + 1)) + 1)) + 1)) + 1), (rd_T39 y106 x5_1).f5⟩ : S39) ) (fun _ hk => hk); have hx26_6 := hcc26 6 _ rfl; (try simp only [show (k39).sz = 8 from rfl, Nat.mul_one, Nat.add_zero] at hx26_6); have hf26_6 := hfr26 6; (try simp only [show (k39).sz = 8 from rfl, Nat.mul_one, Nat.add_zero] at hf26_6); clear hcl26 hcc26 hfr26 hM26) | ((with_reducible refine gate_store (t := 3) (p := 62) rfl ?_); refine store_event (t := 3) (p := 62) (v := ?vo_w27) (w1 := (w25.setCell ⟨go5, (x5_1 : Int).toNat * 8 + 6, none⟩ (.int .i64 (wrap64 ((wrap64 ((wrap64 ((wrap64 ((wrap64 ((wrap64 (x1_1 + 1)) + 1)) + 1)) + 1)) + 1)) + 1))))) ?hg ?ho ?hn ?hr ?_; (case ho => rfl); (case hg => rfl); (case hn => rfl); (case hr => first | (go_simp; done) | (go_simp; rfl)); intro w27 hw; have hg : w25.grownBy w27 (some go5) := (by rw [hw]; exact HP26.2); have hp_ : Kd.R k39 39 w27 w0.heap.size (fun k_ => (P0_ k_ ∨ w.heap.size ≤ k_)) (.slice (some ⟨go5, 0, none⟩) x0_1.length co13) y107 := (by rw [hw, Ny107.out]; exact HP26.1); clear HP26; have n0_ := Aside0.mk (hp_); have n1_ := Aside0.mk ((by rw [hw]; exact below_set (HB.out) GB5.out : Below w0.heap.size w0 w27)); have n2_ := Aside0.mk (Kept.of_grown (S := (fun k_ => P0_ k_)) hg (by repeat (first | (with_reducible first | exact HK.out | apply Kept.alloc | apply Kept.drewN | apply Kept.drew) | exact HK.out)) (fun k_ e_ => (HO_0.out.1 k_ e_))); clear HO_0; clear HB; clear HK; have HO_0 := n0_; have HB := n1_; have HK := n2_; clear n0_ n1_ n2_; clear hg hw hp_; have p12 : 0 ≤ (x5_1 : Int) := of_decide_eq_true (by first | (with_reducible assumption) | assumption); have q12 : (x5_1 : Int) < ((x0_1.length : Int) : Int) := of_decide_eq_true (by first | (with_reducible assumption) | assumption); obtain ⟨ce12, hcl12, hM12, hcc12, hfr12⟩ := Kd.R_elem HO_0.out z39 (x5_1 : Int) p12 q12; obtain rfl := k39_openM hM12; have hx12_0 : w27.cell? ⟨go5, (x5_1 : Int).toNat * 8, none⟩ = some (.int .i64 ((rd_T39 y107 x5_1).f0)) := hcc12 0 _ rfl; have hx12_1 : w27.cell? ⟨go5, (x5_1 : Int).toNat * 8 + 1, none⟩ = some (.int .i64 ((rd_T39 y107 x5_1).f1)) := hcc12 1 _ rfl; have hx12_2 : w27.cell? ⟨go5, (x5_1 : Int).toNat * 8 + 2, none⟩ = some (.int .i64 ((rd_T39 y107 x5_1).f2.f0)) := hcc12 2 _ rfl; have hx12_3 : w27.cell? ⟨go5, (x5_1 : Int).toNat * 8 + 3, none⟩ = some (.int .i64 ((rd_T39 y107 x5_1).f2.f1)) := hcc12 3 _ rfl; have hx12_4 : w27.cell? ⟨go5, (x5_1 : Int).toNat * 8 + 4, none⟩ = some (.int .i64 ((rd_T39 y107 x5_1).f3.f0)) := hcc12 4 _ rfl; have hx12_5 : w27.cell? ⟨go5, (x5_1 : Int).toNat * 8 + 5, none⟩ = some (.int .i64 ((rd_T39 y107 x5_1).f3.f1)) := hcc12 5 _ rfl; have hx12_6 : w27.cell? ⟨go5, (x5_1 : Int).toNat * 8 + 6, none⟩ = some (.int .i64 ((rd_T39 y107 x5_1).f4)) := hcc12 6 _ rfl; have hx12_7 : w27.cell? ⟨go5, (x5_1 : Int).toNat * 8 + 7, none⟩ = some (.int .i64 ((rd_T39 y107 x5_1).f5)) := hcc12 7 _ rfl; have hf12_0 : w27.frozen? ⟨go5, (x5_1 : Int).toNat * 8, none⟩ = false := hfr12 0; have hf12_1 : w27.frozen? ⟨go5, (x5_1 : Int).toNat * 8 + 1, none⟩ = false := hfr12 1; have hf12_2 : w27.frozen? ⟨go5, (x5_1 : Int).toNat * 8 + 2, none⟩ = false := hfr12 2; have hf12_3 : w27.frozen? ⟨go5, (x5_1 : Int).toNat * 8 + 3, none⟩ = false := hfr12 3; have hf12_4 : w27.frozen? ⟨go5, (x5_1 : Int).toNat * 8 + 4, none⟩ = false := hfr12 4; have hf12_5 : w27.frozen? ⟨go5, (x5_1 : Int).toNat * 8 + 5, none⟩ = false := hfr12 5; have hf12_6 : w27.frozen? ⟨go5, (x5_1 : Int).toNat * 8 + 6, none⟩ = false := hfr12 6; have hf12_7 : w27.frozen? ⟨go5, (x5_1 : Int).toNat * 8 + 7, none⟩ = false := hfr12 7; clear hcl12 hcc12 hfr12 hM12; replace p12 := eq_true p12; replace q12 := eq_true q12; have HX28 := Aside0.mk (show Kd.R k39 39 w27 w0.heap.size (fun k_ => (P0_ k_ ∨ w.heap.size ≤ k_)) (.slice (some ⟨go5, 0, none⟩) x0_1.length co13) y107 from (by (with_reducible repeat (first | apply Kd.R_alloc | apply Kd.R_drewN | apply Kd.R_drew)); exact HO_0.out)); obtain ⟨ce28, hcl28, hM28, hcc28, hfr28⟩ := Kd.R_elem HX28.out z39 (x5_1 : Int) (of_decide_eq_true (by first | (with_reducible assumption) | assumption)) (by have h_ : (x5_1 : Int) < ((x0_1.length : Int) : Int) := of_decide_eq_true (by first | (with_reducible assumption) | assumption); first | exact h_ | (have e_ := (Kd.R_reads' HO_0.out).1; omega) | simpa using h_); obtain rfl := k39_openM hM28; have HP28 := Kd.R_seg HX28.out (x5_1 : Int) (of_decide_eq_true (by first | (with_reducible assumption) | assumption)) (by have h_ : (x5_1 : Int) < ((x0_1.length : Int) : Int) := of_decide_eq_true (by first | (with_reducible assumption) | assumption); first | exact h_ | (have e_ := (Kd.R_reads' HO_0.out).1; omega) | simpa using h_) (seg := [.int .i64 (wrap64 ((wrap64 ((wrap64 ((wrap64 ((wrap64 ((wrap64 ((wrap64 (x1_1 + 1)) + 1)) + 1)) + 1)) + 1)) + 1)) + 1))]) (j := 7) hcl28 hcc28 (show 8 ≤ 8 from by decide) (x' := (⟨(rd_T39 y107 x5_1).f0, (rd_T39 y107 x5_1).f1, (⟨(rd_T39 y107 x5_1).f2.f0, (rd_T39 y107 x5_1).f2.f1⟩ : S37), (⟨(rd_T39 y107 x5_1).f3.f0, (rd_T39 y107 x5_1).f3.f1⟩ : S37), (rd_T39 y107 x5_1).f4, wrap64 ((wrap64 ((wrap64 ((wrap64 ((wrap64 ((wrap64 ((wrap64 (x1_1 + 1)) + 1)) + 1)) + 1)) + 1)) + 1)) + 1)⟩ : S39)) (k39_mkM _ _ _ (⟨(rd_T39 y107 x5_1).f0, (rd_T39 y107 x5_1).f1, (⟨(rd_T39 y107 x5_1).f2.f0, (rd_T39 y107 x5_1).f2.f1⟩ : S37), (⟨(rd_T39 y107 x5_1).f3.f0, (rd_T39 y107 x5_1).f3.f1⟩ : S37), (rd_T39 y107 x5_1).f4, wrap64 ((wrap64 ((wrap64 ((wrap64 ((wrap64 ((wrap64 ((wrap64 (x1_1 + 1)) + 1)) + 1)) + 1)) + 1)) + 1)) + 1)⟩ : S39) ) (fun _ hk => hk); have hx28_7 := hcc28 7 _ rfl; (try simp only [show (k39).sz = 8 from rfl, Nat.mul_one, Nat.add_zero] at hx28_7); have hf28_7 := hfr28 7; (try simp only [show (k39).sz = 8 from rfl, Nat.mul_one, Nat.add_zero] at hf28_7); clear hcl28 hcc28 hfr28 hM28) | ((with_reducible refine gate_store (t := 3) (p := 69) rfl ?_); refine store_event (t := 3) (p := 69) (v := ?vo_w29) (w1 := (w27.setCell ⟨go5, (x5_1 : Int).toNat * 8 + 7, none⟩ (.int .i64 (wrap64 ((wrap64 ((wrap64 ((wrap64 ((wrap64 ((wrap64 ((wrap64 (x1_1 + 1)) + 1)) + 1)) + 1)) + 1)) + 1)) + 1))))) ?hg ?ho ?hn ?hr ?_; (case ho => rfl); (case hg => rfl); (case hn => rfl); (case hr => first | (go_simp; done) | (go_simp; rfl)); intro w29 hw; have hg : w27.grownBy w29 (some go5) := (by rw [hw]; exact HP28.2); have hp_ : Kd.R k39 39 w29 w0.heap.size (fun k_ => (P0_ k_ ∨ w.heap.size ≤ k_)) (.slice (some ⟨go5, 0, none⟩) x0_1.length co13) y108 := (by rw [hw, Ny108.out]; exact HP28.1); clear HP28; have n0_ := Aside0.mk (hp_); have n1_ := Aside0.mk ((by rw [hw]; exact below_set (HB.out) GB5.out : Below w0.heap.size w0 w29)); have n2_ := Aside0.mk (Kept.of_grown (S := (fun k_ => P0_ k_)) hg (by repeat (first | (with_reducible first | exact HK.out | apply Kept.alloc | apply Kept.drewN | apply Kept.drew) | exact HK.out)) (fun k_ e_ => (HO_0.out.1 k_ e_))); clear HO_0; clear HB; clear HK; have HO_0 := n0_; have HB := n1_; have HK := n2_; clear n0_ n1_ n2_; clear hg hw hp_))
     go_roundg k1
     case measure => have := HK1.out; omega
     case rel => exact ⟨(y108), (wrap64 ((wrap64 ((wrap64 ((wrap64 ((wrap64 ((wrap64 ((wrap64 ((wrap64 (x1_1 + 1)) + 1)) + 1)) + 1)) + 1)) + 1)) + 1)) + 1)), (wrap64 (x5_1 + 1)), (by first | rfl | (simp; done) | (simp [*]; done)), (by first | rfl | (simp; done) | (simp [*]; done)), H', ⟨by have := HK1.out; omega⟩, ⟨by (with_reducible repeat (first | apply Kd.R_alloc | apply Kd.R_drewN | apply Kd.R_drew)); exact HO_0.out⟩, ⟨by repeat (first | (with_reducible first | exact HK.out | apply Kept.alloc | apply Kept.drewN | apply Kept.drew) | exact HK.out)⟩, ⟨by repeat (first | (with_reducible first | exact HB.out | apply below_alloc | apply pw_below_drewN | apply below_drew1) | exact HB.out)⟩⟩
    ·rw [if_neg c4] at H
     exact absurd H (by simp)
   ·rw [if_neg c3] at H
    have c3b0 : decide (x5_1 < (x0_1.length : Int)) = false := decide_eq_false c3
    clear c3
    simp only [Option.some.injEq, Prod.mk.injEq] at H
    obtain ⟨rfl, rfl⟩ := H
    obtain ⟨Ao30, co30, eo30⟩ := Kd.R_slice HO_0.out
    subst eo30
    go_wp2
    go_ret
    exact ⟨by first | rfl | (simp [errW_none, errW_some] <;> rfl) | (simp [*, errW_none, errW_some] <;> rfl), by (with_reducible repeat (first | apply Kd.R_alloc | apply Kd.R_drewN | apply Kd.R_drew)); exact HO_0.out, by repeat (first | (with_reducible first | exact HB.out | apply below_alloc | apply pw_below_drewN | apply below_drew1) | exact HB.out), by repeat (first | (with_reducible first | exact HK.out | apply Kept.alloc | apply Kept.drewN | apply Kept.drew) | exact HK.out)⟩
end Go.Proofs.YtgbdnbbfgcogjaaGreatDoor.Q

namespace Go.Proofs.YtgbdnbbfgcogjaaGreatDoor.Q
open Go.RowKit Go.Proofs.YtgbdnbbfgcogjaaGreatDoorW.PrintWords Go.Proofs.YtgbdnbbfgcogjaaGreatDoorW.PrintLast Go.Proofs.YtgbdnbbfgcogjaaGreatDoorW.PrintMore
attribute [local go_sem] max2_int min2_int max_two min_two max_three min_three max_four min_four
set_option linter.unusedVariables false
set_option linter.unusedSimpArgs false
def laws_heldRuleS.l0 : Nat → List (S39) → Int → Int → Option (Int)
 | 0, _, _, _ => none
 | k + 1, x0, x1, x5 => if x5 < (x0.length : Int) then (if 0 ≤ x5 then (if ((rd_T39 x0 x5).f0) = x1 then (if ((rd_T39 x0 x5).f1) = (wrap64 (x1 + 1)) then (if ((rd_T39 x0 x5).f2.f0) = (wrap64 ((wrap64 (x1 + 1)) + 1)) then (if ((rd_T39 x0 x5).f2.f1) = (wrap64 ((wrap64 ((wrap64 (x1 + 1)) + 1)) + 1)) then (if ((rd_T39 x0 x5).f3.f0) = (wrap64 ((wrap64 ((wrap64 ((wrap64 (x1 + 1)) + 1)) + 1)) + 1)) then (if ((rd_T39 x0 x5).f3.f1) = (wrap64 ((wrap64 ((wrap64 ((wrap64 ((wrap64 (x1 + 1)) + 1)) + 1)) + 1)) + 1)) then (if ((rd_T39 x0 x5).f4) = (wrap64 ((wrap64 ((wrap64 ((wrap64 ((wrap64 ((wrap64 (x1 + 1)) + 1)) + 1)) + 1)) + 1)) + 1)) then (if ((rd_T39 x0 x5).f5) = (wrap64 ((wrap64 ((wrap64 ((wrap64 ((wrap64 ((wrap64 ((wrap64 (x1 + 1)) + 1)) + 1)) + 1)) + 1)) + 1)) + 1)) then (laws_heldRuleS.l0 k x0 (wrap64 ((wrap64 ((wrap64 ((wrap64 ((wrap64 ((wrap64 ((wrap64 ((wrap64 (x1 + 1)) + 1)) + 1)) + 1)) + 1)) + 1)) + 1)) + 1)) (wrap64 (x5 + 1))) else (some (-1))) else (some (-1))) else (some (-1))) else (some (-1))) else (some (-1))) else (some (-1))) else (some (-1))) else (some (-1))) else (none)) else (some x1)
def laws_heldRuleS.f (k : Nat) (l0 : List (S39)) (a1 : Int) : Option (Int) := laws_heldRuleS.l0 k l0 a1 0
set_option maxHeartbeats 8000000 in
set_option maxRecDepth 100000 in
theorem laws_heldRuleS.calls (k : Nat) (A0 : Option Addr) (c0 : Nat) (l0 : List (S39)) (a1 : Int) (r : Int) (w : World) (hr0 : Kd.C k39 w A0 l0.length l0) (hc0 : l0.length ≤ c0) (h : laws_heldRuleS.f k l0 a1 = some r) :
  Calls Tryz.prog 9 #[.slice A0 l0.length c0, .int .i64 a1] w fun e w' => e = .returned (.int .i64 r) ∧ Drawn0 w w' := by
 have HR0 := Aside0.mk hr0
 have HC0 := Aside0.mk hc0
 clear hr0 hc0
 have H : (laws_heldRuleS.l0 k l0 a1 0) = some r := h
 clear h
 have H' := Aside0.mk H
 clear H
 go_enter Tryz.func9, Tryz.ntmps9
 go_wp2
 go_loopg [1, 5] k (fun kq v1 v5 w' => ∃ (x1_1 : Int) (x5_1 : Int), v1 = .int .i64 x1_1 ∧ v5 = .int .i64 x5_1 ∧ Aside0 (laws_heldRuleS.l0 kq l0 x1_1 x5_1 = some r) ∧ Aside0 (kq ≤ k) ∧ Drawn0 w w')
 case atStart => exact ⟨(a1), (0), (by first | rfl | (simp; done) | (simp [*]; done)), (by first | rfl | (simp; done) | (simp [*]; done)), H', ⟨Nat.le_refl _⟩, by repeat (first | exact Drawn0.refl _ | apply Drawn0.step)⟩
 case round =>
  clear H'
  try clear p2
  obtain ⟨x1_1, x5_1, rfl, rfl, HA, HK1, ⟨m1, rfl⟩⟩ := hrel
  cases gk with
  | zero => exact absurd HA.out (by simp [laws_heldRuleS.l0])
  | succ k1 =>
   have H := HA.out
   clear HA
   simp only [laws_heldRuleS.l0] at H
   by_cases c3 : x5_1 < (l0.length : Int)
   ·rw [if_pos c3] at H
    have c3b0 : decide (x5_1 < (l0.length : Int)) = true := decide_eq_true c3
    clear c3
    by_cases c4 : 0 ≤ x5_1
    ·rw [if_pos c4] at H
     have c4b0 : decide (0 ≤ x5_1) = true := decide_eq_true c4
     clear c4
     by_cases c5 : ((rd_T39 l0 x5_1).f0) = x1_1
     ·rw [if_pos c5] at H
      have c5b0 : (((rd_T39 l0 x5_1).f0) == x1_1) = true := beq_iff_eq.mpr c5
      have c5b1 : (((rd_T39 l0 x5_1).f0) != x1_1) = false := bne_eq_false_iff_eq.mpr c5
      clear c5
      by_cases c6 : ((rd_T39 l0 x5_1).f1) = (wrap64 (x1_1 + 1))
      ·rw [if_pos c6] at H
       have c6b0 : (((rd_T39 l0 x5_1).f1) == (wrap64 (x1_1 + 1))) = true := beq_iff_eq.mpr c6
       have c6b1 : (((rd_T39 l0 x5_1).f1) != (wrap64 (x1_1 + 1))) = false := bne_eq_false_iff_eq.mpr c6
       clear c6
       by_cases c7 : ((rd_T39 l0 x5_1).f2.f0) = (wrap64 ((wrap64 (x1_1 + 1)) + 1))
       ·rw [if_pos c7] at H
        have c7b0 : (((rd_T39 l0 x5_1).f2.f0) == (wrap64 ((wrap64 (x1_1 + 1)) + 1))) = true := beq_iff_eq.mpr c7
        have c7b1 : (((rd_T39 l0 x5_1).f2.f0) != (wrap64 ((wrap64 (x1_1 + 1)) + 1))) = false := bne_eq_false_iff_eq.mpr c7
        clear c7
        by_cases c8 : ((rd_T39 l0 x5_1).f2.f1) = (wrap64 ((wrap64 ((wrap64 (x1_1 + 1)) + 1)) + 1))
        ·rw [if_pos c8] at H
         have c8b0 : (((rd_T39 l0 x5_1).f2.f1) == (wrap64 ((wrap64 ((wrap64 (x1_1 + 1)) + 1)) + 1))) = true := beq_iff_eq.mpr c8
         have c8b1 : (((rd_T39 l0 x5_1).f2.f1) != (wrap64 ((wrap64 ((wrap64 (x1_1 + 1)) + 1)) + 1))) = false := bne_eq_false_iff_eq.mpr c8
         clear c8
         by_cases c9 : ((rd_T39 l0 x5_1).f3.f0) = (wrap64 ((wrap64 ((wrap64 ((wrap64 (x1_1 + 1)) + 1)) + 1)) + 1))
         ·rw [if_pos c9] at H
          have c9b0 : (((rd_T39 l0 x5_1).f3.f0) == (wrap64 ((wrap64 ((wrap64 ((wrap64 (x1_1 + 1)) + 1)) + 1)) + 1))) = true := beq_iff_eq.mpr c9
          have c9b1 : (((rd_T39 l0 x5_1).f3.f0) != (wrap64 ((wrap64 ((wrap64 ((wrap64 (x1_1 + 1)) + 1)) + 1)) + 1))) = false := bne_eq_false_iff_eq.mpr c9
          clear c9
          by_cases c10 : ((rd_T39 l0 x5_1).f3.f1) = (wrap64 ((wrap64 ((wrap64 ((wrap64 ((wrap64 (x1_1 + 1)) + 1)) + 1)) + 1)) + 1))
          ·rw [if_pos c10] at H
           have c10b0 : (((rd_T39 l0 x5_1).f3.f1) == (wrap64 ((wrap64 ((wrap64 ((wrap64 ((wrap64 (x1_1 + 1)) + 1)) + 1)) + 1)) + 1))) = true := beq_iff_eq.mpr c10
           have c10b1 : (((rd_T39 l0 x5_1).f3.f1) != (wrap64 ((wrap64 ((wrap64 ((wrap64 ((wrap64 (x1_1 + 1)) + 1)) + 1)) + 1)) + 1))) = false := bne_eq_false_iff_eq.mpr c10
           clear c10
           by_cases c11 : ((rd_T39 l0 x5_1).f4) = (wrap64 ((wrap64 ((wrap64 ((wrap64 ((wrap64 ((wrap64 (x1_1 + 1)) + 1)) + 1)) + 1)) + 1)) + 1))
           ·rw [if_pos c11] at H
            have c11b0 : (((rd_T39 l0 x5_1).f4) == (wrap64 ((wrap64 ((wrap64 ((wrap64 ((wrap64 ((wrap64 (x1_1 + 1)) + 1)) + 1)) + 1)) + 1)) + 1))) = true := beq_iff_eq.mpr c11
            have c11b1 : (((rd_T39 l0 x5_1).f4) != (wrap64 ((wrap64 ((wrap64 ((wrap64 ((wrap64 ((wrap64 (x1_1 + 1)) + 1)) + 1)) + 1)) + 1)) + 1))) = false := bne_eq_false_iff_eq.mpr c11
            clear c11
            by_cases c12 : ((rd_T39 l0 x5_1).f5) = (wrap64 ((wrap64 ((wrap64 ((wrap64 ((wrap64 ((wrap64 ((wrap64 (x1_1 + 1)) + 1)) + 1)) + 1)) + 1)) + 1)) + 1))
            ·rw [if_pos c12] at H
             have c12b0 : (((rd_T39 l0 x5_1).f5) == (wrap64 ((wrap64 ((wrap64 ((wrap64 ((wrap64 ((wrap64 ((wrap64 (x1_1 + 1)) + 1)) + 1)) + 1)) + 1)) + 1)) + 1))) = true := beq_iff_eq.mpr c12
             have c12b1 : (((rd_T39 l0 x5_1).f5) != (wrap64 ((wrap64 ((wrap64 ((wrap64 ((wrap64 ((wrap64 ((wrap64 (x1_1 + 1)) + 1)) + 1)) + 1)) + 1)) + 1)) + 1))) = false := bne_eq_false_iff_eq.mpr c12
             clear c12
             have H' := Aside0.mk H
             clear H
             have p101 : 0 ≤ (x5_1 : Int) := of_decide_eq_true (by first | (with_reducible assumption) | assumption)
             have q101 : x5_1 < (l0.length : Int) := of_decide_eq_true (by first | (with_reducible assumption) | assumption)
             obtain ⟨ad101, e101, hx101_0, hx101_1, hx101_2, hx101_3, hx101_4, hx101_5, hx101_6, hx101_7⟩ := at_T39 HR0.out x5_1 p101 q101
             cases e101
             replace p101 := eq_true p101
             replace q101 := eq_true q101
             have p102 : 0 ≤ (x5_1 : Int) := of_decide_eq_true (by first | (with_reducible assumption) | assumption)
             have q102 : x5_1 < (l0.length : Int) := of_decide_eq_true (by first | (with_reducible assumption) | assumption)
             obtain ⟨ad102, e102, hx102_0, hx102_1, hx102_2, hx102_3, hx102_4, hx102_5, hx102_6, hx102_7⟩ := at_T39 HR0.out x5_1 p102 q102
             obtain rfl : ad101 = ad102 := (by injection e102)
             replace p102 := eq_true p102
             replace q102 := eq_true q102
             have p103 : 0 ≤ (x5_1 : Int) := of_decide_eq_true (by first | (with_reducible assumption) | assumption)
             have q103 : x5_1 < (l0.length : Int) := of_decide_eq_true (by first | (with_reducible assumption) | assumption)
             obtain ⟨ad103, e103, hx103_0, hx103_1, hx103_2, hx103_3, hx103_4, hx103_5, hx103_6, hx103_7⟩ := at_T39 HR0.out x5_1 p103 q103
             obtain rfl : ad101 = ad103 := (by injection e103)
             replace p103 := eq_true p103
             replace q103 := eq_true q103
             have p104 : 0 ≤ (x5_1 : Int) := of_decide_eq_true (by first | (with_reducible assumption) | assumption)
             have q104 : x5_1 < (l0.length : Int) := of_decide_eq_true (by first | (with_reducible assumption) | assumption)
             obtain ⟨ad104, e104, hx104_0, hx104_1, hx104_2, hx104_3, hx104_4, hx104_5, hx104_6, hx104_7⟩ := at_T39 HR0.out x5_1 p104 q104
             obtain rfl : ad101 = ad104 := (by injection e104)
             replace p104 := eq_true p104
             replace q104 := eq_true q104
             have p105 : 0 ≤ (x5_1 : Int) := of_decide_eq_true (by first | (with_reducible assumption) | assumption)
             have q105 : x5_1 < (l0.length : Int) := of_decide_eq_true (by first | (with_reducible assumption) | assumption)
             obtain ⟨ad105, e105, hx105_0, hx105_1, hx105_2, hx105_3, hx105_4, hx105_5, hx105_6, hx105_7⟩ := at_T39 HR0.out x5_1 p105 q105
             obtain rfl : ad101 = ad105 := (by injection e105)
             replace p105 := eq_true p105
             replace q105 := eq_true q105
             have p106 : 0 ≤ (x5_1 : Int) := of_decide_eq_true (by first | (with_reducible assumption) | assumption)
             have q106 : x5_1 < (l0.length : Int) := of_decide_eq_true (by first | (with_reducible assumption) | assumption)
             obtain ⟨ad106, e106, hx106_0, hx106_1, hx106_2, hx106_3, hx106_4, hx106_5, hx106_6, hx106_7⟩ := at_T39 HR0.out x5_1 p106 q106
             obtain rfl : ad101 = ad106 := (by injection e106)
             replace p106 := eq_true p106
             replace q106 := eq_true q106
             have p107 : 0 ≤ (x5_1 : Int) := of_decide_eq_true (by first | (with_reducible assumption) | assumption)
             have q107 : x5_1 < (l0.length : Int) := of_decide_eq_true (by first | (with_reducible assumption) | assumption)
             obtain ⟨ad107, e107, hx107_0, hx107_1, hx107_2, hx107_3, hx107_4, hx107_5, hx107_6, hx107_7⟩ := at_T39 HR0.out x5_1 p107 q107
             obtain rfl : ad101 = ad107 := (by injection e107)
             replace p107 := eq_true p107
             replace q107 := eq_true q107
             have p108 : 0 ≤ (x5_1 : Int) := of_decide_eq_true (by first | (with_reducible assumption) | assumption)
             have q108 : x5_1 < (l0.length : Int) := of_decide_eq_true (by first | (with_reducible assumption) | assumption)
             obtain ⟨ad108, e108, hx108_0, hx108_1, hx108_2, hx108_3, hx108_4, hx108_5, hx108_6, hx108_7⟩ := at_T39 HR0.out x5_1 p108 q108
             obtain rfl : ad101 = ad108 := (by injection e108)
             replace p108 := eq_true p108
             replace q108 := eq_true q108
             go_wp2
             go_roundg k1
             case measure => have := HK1.out; omega
             case rel => exact ⟨(wrap64 ((wrap64 ((wrap64 ((wrap64 ((wrap64 ((wrap64 ((wrap64 ((wrap64 (x1_1 + 1)) + 1)) + 1)) + 1)) + 1)) + 1)) + 1)) + 1)), (wrap64 (x5_1 + 1)), (by first | rfl | (simp; done) | (simp [*]; done)), (by first | rfl | (simp; done) | (simp [*]; done)), H', ⟨by have := HK1.out; omega⟩, by repeat (first | exact Drawn0.refl _ | apply Drawn0.step)⟩
            ·rw [if_neg c12] at H
             have c12b0 : (((rd_T39 l0 x5_1).f5) == (wrap64 ((wrap64 ((wrap64 ((wrap64 ((wrap64 ((wrap64 ((wrap64 (x1_1 + 1)) + 1)) + 1)) + 1)) + 1)) + 1)) + 1))) = false := beq_eq_false_iff_ne.mpr c12
             have c12b1 : (((rd_T39 l0 x5_1).f5) != (wrap64 ((wrap64 ((wrap64 ((wrap64 ((wrap64 ((wrap64 ((wrap64 (x1_1 + 1)) + 1)) + 1)) + 1)) + 1)) + 1)) + 1))) = true := bne_iff_ne.mpr c12
             obtain rfl := Option.some.inj H
             have p101 : 0 ≤ (x5_1 : Int) := of_decide_eq_true (by first | (with_reducible assumption) | assumption)
             have q101 : x5_1 < (l0.length : Int) := of_decide_eq_true (by first | (with_reducible assumption) | assumption)
             obtain ⟨ad101, e101, hx101_0, hx101_1, hx101_2, hx101_3, hx101_4, hx101_5, hx101_6, hx101_7⟩ := at_T39 HR0.out x5_1 p101 q101
             cases e101
             replace p101 := eq_true p101
             replace q101 := eq_true q101
             have p102 : 0 ≤ (x5_1 : Int) := of_decide_eq_true (by first | (with_reducible assumption) | assumption)
             have q102 : x5_1 < (l0.length : Int) := of_decide_eq_true (by first | (with_reducible assumption) | assumption)
             obtain ⟨ad102, e102, hx102_0, hx102_1, hx102_2, hx102_3, hx102_4, hx102_5, hx102_6, hx102_7⟩ := at_T39 HR0.out x5_1 p102 q102
             obtain rfl : ad101 = ad102 := (by injection e102)
             replace p102 := eq_true p102
             replace q102 := eq_true q102
             have p103 : 0 ≤ (x5_1 : Int) := of_decide_eq_true (by first | (with_reducible assumption) | assumption)
             have q103 : x5_1 < (l0.length : Int) := of_decide_eq_true (by first | (with_reducible assumption) | assumption)
             obtain ⟨ad103, e103, hx103_0, hx103_1, hx103_2, hx103_3, hx103_4, hx103_5, hx103_6, hx103_7⟩ := at_T39 HR0.out x5_1 p103 q103
             obtain rfl : ad101 = ad103 := (by injection e103)
             replace p103 := eq_true p103
             replace q103 := eq_true q103
             have p104 : 0 ≤ (x5_1 : Int) := of_decide_eq_true (by first | (with_reducible assumption) | assumption)
             have q104 : x5_1 < (l0.length : Int) := of_decide_eq_true (by first | (with_reducible assumption) | assumption)
             obtain ⟨ad104, e104, hx104_0, hx104_1, hx104_2, hx104_3, hx104_4, hx104_5, hx104_6, hx104_7⟩ := at_T39 HR0.out x5_1 p104 q104
             obtain rfl : ad101 = ad104 := (by injection e104)
             replace p104 := eq_true p104
             replace q104 := eq_true q104
             have p105 : 0 ≤ (x5_1 : Int) := of_decide_eq_true (by first | (with_reducible assumption) | assumption)
             have q105 : x5_1 < (l0.length : Int) := of_decide_eq_true (by first | (with_reducible assumption) | assumption)
             obtain ⟨ad105, e105, hx105_0, hx105_1, hx105_2, hx105_3, hx105_4, hx105_5, hx105_6, hx105_7⟩ := at_T39 HR0.out x5_1 p105 q105
             obtain rfl : ad101 = ad105 := (by injection e105)
             replace p105 := eq_true p105
             replace q105 := eq_true q105
             have p106 : 0 ≤ (x5_1 : Int) := of_decide_eq_true (by first | (with_reducible assumption) | assumption)
             have q106 : x5_1 < (l0.length : Int) := of_decide_eq_true (by first | (with_reducible assumption) | assumption)
             obtain ⟨ad106, e106, hx106_0, hx106_1, hx106_2, hx106_3, hx106_4, hx106_5, hx106_6, hx106_7⟩ := at_T39 HR0.out x5_1 p106 q106
             obtain rfl : ad101 = ad106 := (by injection e106)
             replace p106 := eq_true p106
             replace q106 := eq_true q106
             have p107 : 0 ≤ (x5_1 : Int) := of_decide_eq_true (by first | (with_reducible assumption) | assumption)
             have q107 : x5_1 < (l0.length : Int) := of_decide_eq_true (by first | (with_reducible assumption) | assumption)
             obtain ⟨ad107, e107, hx107_0, hx107_1, hx107_2, hx107_3, hx107_4, hx107_5, hx107_6, hx107_7⟩ := at_T39 HR0.out x5_1 p107 q107
             obtain rfl : ad101 = ad107 := (by injection e107)
             replace p107 := eq_true p107
             replace q107 := eq_true q107
             have p108 : 0 ≤ (x5_1 : Int) := of_decide_eq_true (by first | (with_reducible assumption) | assumption)
             have q108 : x5_1 < (l0.length : Int) := of_decide_eq_true (by first | (with_reducible assumption) | assumption)
             obtain ⟨ad108, e108, hx108_0, hx108_1, hx108_2, hx108_3, hx108_4, hx108_5, hx108_6, hx108_7⟩ := at_T39 HR0.out x5_1 p108 q108
             obtain rfl : ad101 = ad108 := (by injection e108)
             replace p108 := eq_true p108
             replace q108 := eq_true q108
             go_wp2
             go_ret
             exact ⟨by first | rfl | (simp; done) | (simp [*]; done), by repeat (first | exact Drawn0.refl _ | apply Drawn0.step)⟩
           ·rw [if_neg c11] at H
            have c11b0 : (((rd_T39 l0 x5_1).f4) == (wrap64 ((wrap64 ((wrap64 ((wrap64 ((wrap64 ((wrap64 (x1_1 + 1)) + 1)) + 1)) + 1)) + 1)) + 1))) = false := beq_eq_false_iff_ne.mpr c11
            have c11b1 : (((rd_T39 l0 x5_1).f4) != (wrap64 ((wrap64 ((wrap64 ((wrap64 ((wrap64 ((wrap64 (x1_1 + 1)) + 1)) + 1)) + 1)) + 1)) + 1))) = true := bne_iff_ne.mpr c11
            obtain rfl := Option.some.inj H
            have p101 : 0 ≤ (x5_1 : Int) := of_decide_eq_true (by first | (with_reducible assumption) | assumption)
            have q101 : x5_1 < (l0.length : Int) := of_decide_eq_true (by first | (with_reducible assumption) | assumption)
            obtain ⟨ad101, e101, hx101_0, hx101_1, hx101_2, hx101_3, hx101_4, hx101_5, hx101_6, hx101_7⟩ := at_T39 HR0.out x5_1 p101 q101
            cases e101
            replace p101 := eq_true p101
            replace q101 := eq_true q101
            have p102 : 0 ≤ (x5_1 : Int) := of_decide_eq_true (by first | (with_reducible assumption) | assumption)
            have q102 : x5_1 < (l0.length : Int) := of_decide_eq_true (by first | (with_reducible assumption) | assumption)
            obtain ⟨ad102, e102, hx102_0, hx102_1, hx102_2, hx102_3, hx102_4, hx102_5, hx102_6, hx102_7⟩ := at_T39 HR0.out x5_1 p102 q102
            obtain rfl : ad101 = ad102 := (by injection e102)
            replace p102 := eq_true p102
            replace q102 := eq_true q102
            have p103 : 0 ≤ (x5_1 : Int) := of_decide_eq_true (by first | (with_reducible assumption) | assumption)
            have q103 : x5_1 < (l0.length : Int) := of_decide_eq_true (by first | (with_reducible assumption) | assumption)
            obtain ⟨ad103, e103, hx103_0, hx103_1, hx103_2, hx103_3, hx103_4, hx103_5, hx103_6, hx103_7⟩ := at_T39 HR0.out x5_1 p103 q103
            obtain rfl : ad101 = ad103 := (by injection e103)
            replace p103 := eq_true p103
            replace q103 := eq_true q103
            have p104 : 0 ≤ (x5_1 : Int) := of_decide_eq_true (by first | (with_reducible assumption) | assumption)
            have q104 : x5_1 < (l0.length : Int) := of_decide_eq_true (by first | (with_reducible assumption) | assumption)
            obtain ⟨ad104, e104, hx104_0, hx104_1, hx104_2, hx104_3, hx104_4, hx104_5, hx104_6, hx104_7⟩ := at_T39 HR0.out x5_1 p104 q104
            obtain rfl : ad101 = ad104 := (by injection e104)
            replace p104 := eq_true p104
            replace q104 := eq_true q104
            have p105 : 0 ≤ (x5_1 : Int) := of_decide_eq_true (by first | (with_reducible assumption) | assumption)
            have q105 : x5_1 < (l0.length : Int) := of_decide_eq_true (by first | (with_reducible assumption) | assumption)
            obtain ⟨ad105, e105, hx105_0, hx105_1, hx105_2, hx105_3, hx105_4, hx105_5, hx105_6, hx105_7⟩ := at_T39 HR0.out x5_1 p105 q105
            obtain rfl : ad101 = ad105 := (by injection e105)
            replace p105 := eq_true p105
            replace q105 := eq_true q105
            have p106 : 0 ≤ (x5_1 : Int) := of_decide_eq_true (by first | (with_reducible assumption) | assumption)
            have q106 : x5_1 < (l0.length : Int) := of_decide_eq_true (by first | (with_reducible assumption) | assumption)
            obtain ⟨ad106, e106, hx106_0, hx106_1, hx106_2, hx106_3, hx106_4, hx106_5, hx106_6, hx106_7⟩ := at_T39 HR0.out x5_1 p106 q106
            obtain rfl : ad101 = ad106 := (by injection e106)
            replace p106 := eq_true p106
            replace q106 := eq_true q106
            have p107 : 0 ≤ (x5_1 : Int) := of_decide_eq_true (by first | (with_reducible assumption) | assumption)
            have q107 : x5_1 < (l0.length : Int) := of_decide_eq_true (by first | (with_reducible assumption) | assumption)
            obtain ⟨ad107, e107, hx107_0, hx107_1, hx107_2, hx107_3, hx107_4, hx107_5, hx107_6, hx107_7⟩ := at_T39 HR0.out x5_1 p107 q107
            obtain rfl : ad101 = ad107 := (by injection e107)
            replace p107 := eq_true p107
            replace q107 := eq_true q107
            go_wp2
            go_ret
            exact ⟨by first | rfl | (simp; done) | (simp [*]; done), by repeat (first | exact Drawn0.refl _ | apply Drawn0.step)⟩
          ·rw [if_neg c10] at H
           have c10b0 : (((rd_T39 l0 x5_1).f3.f1) == (wrap64 ((wrap64 ((wrap64 ((wrap64 ((wrap64 (x1_1 + 1)) + 1)) + 1)) + 1)) + 1))) = false := beq_eq_false_iff_ne.mpr c10
           have c10b1 : (((rd_T39 l0 x5_1).f3.f1) != (wrap64 ((wrap64 ((wrap64 ((wrap64 ((wrap64 (x1_1 + 1)) + 1)) + 1)) + 1)) + 1))) = true := bne_iff_ne.mpr c10
           obtain rfl := Option.some.inj H
           have p101 : 0 ≤ (x5_1 : Int) := of_decide_eq_true (by first | (with_reducible assumption) | assumption)
           have q101 : x5_1 < (l0.length : Int) := of_decide_eq_true (by first | (with_reducible assumption) | assumption)
           obtain ⟨ad101, e101, hx101_0, hx101_1, hx101_2, hx101_3, hx101_4, hx101_5, hx101_6, hx101_7⟩ := at_T39 HR0.out x5_1 p101 q101
           cases e101
           replace p101 := eq_true p101
           replace q101 := eq_true q101
           have p102 : 0 ≤ (x5_1 : Int) := of_decide_eq_true (by first | (with_reducible assumption) | assumption)
           have q102 : x5_1 < (l0.length : Int) := of_decide_eq_true (by first | (with_reducible assumption) | assumption)
           obtain ⟨ad102, e102, hx102_0, hx102_1, hx102_2, hx102_3, hx102_4, hx102_5, hx102_6, hx102_7⟩ := at_T39 HR0.out x5_1 p102 q102
           obtain rfl : ad101 = ad102 := (by injection e102)
           replace p102 := eq_true p102
           replace q102 := eq_true q102
           have p103 : 0 ≤ (x5_1 : Int) := of_decide_eq_true (by first | (with_reducible assumption) | assumption)
           have q103 : x5_1 < (l0.length : Int) := of_decide_eq_true (by first | (with_reducible assumption) | assumption)
           obtain ⟨ad103, e103, hx103_0, hx103_1, hx103_2, hx103_3, hx103_4, hx103_5, hx103_6, hx103_7⟩ := at_T39 HR0.out x5_1 p103 q103
           obtain rfl : ad101 = ad103 := (by injection e103)
           replace p103 := eq_true p103
           replace q103 := eq_true q103
           have p104 : 0 ≤ (x5_1 : Int) := of_decide_eq_true (by first | (with_reducible assumption) | assumption)
           have q104 : x5_1 < (l0.length : Int) := of_decide_eq_true (by first | (with_reducible assumption) | assumption)
           obtain ⟨ad104, e104, hx104_0, hx104_1, hx104_2, hx104_3, hx104_4, hx104_5, hx104_6, hx104_7⟩ := at_T39 HR0.out x5_1 p104 q104
           obtain rfl : ad101 = ad104 := (by injection e104)
           replace p104 := eq_true p104
           replace q104 := eq_true q104
           have p105 : 0 ≤ (x5_1 : Int) := of_decide_eq_true (by first | (with_reducible assumption) | assumption)
           have q105 : x5_1 < (l0.length : Int) := of_decide_eq_true (by first | (with_reducible assumption) | assumption)
           obtain ⟨ad105, e105, hx105_0, hx105_1, hx105_2, hx105_3, hx105_4, hx105_5, hx105_6, hx105_7⟩ := at_T39 HR0.out x5_1 p105 q105
           obtain rfl : ad101 = ad105 := (by injection e105)
           replace p105 := eq_true p105
           replace q105 := eq_true q105
           have p106 : 0 ≤ (x5_1 : Int) := of_decide_eq_true (by first | (with_reducible assumption) | assumption)
           have q106 : x5_1 < (l0.length : Int) := of_decide_eq_true (by first | (with_reducible assumption) | assumption)
           obtain ⟨ad106, e106, hx106_0, hx106_1, hx106_2, hx106_3, hx106_4, hx106_5, hx106_6, hx106_7⟩ := at_T39 HR0.out x5_1 p106 q106
           obtain rfl : ad101 = ad106 := (by injection e106)
           replace p106 := eq_true p106
           replace q106 := eq_true q106
           go_wp2
           go_ret
           exact ⟨by first | rfl | (simp; done) | (simp [*]; done), by repeat (first | exact Drawn0.refl _ | apply Drawn0.step)⟩
         ·rw [if_neg c9] at H
          have c9b0 : (((rd_T39 l0 x5_1).f3.f0) == (wrap64 ((wrap64 ((wrap64 ((wrap64 (x1_1 + 1)) + 1)) + 1)) + 1))) = false := beq_eq_false_iff_ne.mpr c9
          have c9b1 : (((rd_T39 l0 x5_1).f3.f0) != (wrap64 ((wrap64 ((wrap64 ((wrap64 (x1_1 + 1)) + 1)) + 1)) + 1))) = true := bne_iff_ne.mpr c9
          obtain rfl := Option.some.inj H
          have p101 : 0 ≤ (x5_1 : Int) := of_decide_eq_true (by first | (with_reducible assumption) | assumption)
          have q101 : x5_1 < (l0.length : Int) := of_decide_eq_true (by first | (with_reducible assumption) | assumption)
          obtain ⟨ad101, e101, hx101_0, hx101_1, hx101_2, hx101_3, hx101_4, hx101_5, hx101_6, hx101_7⟩ := at_T39 HR0.out x5_1 p101 q101
          cases e101
          replace p101 := eq_true p101
          replace q101 := eq_true q101
          have p102 : 0 ≤ (x5_1 : Int) := of_decide_eq_true (by first | (with_reducible assumption) | assumption)
          have q102 : x5_1 < (l0.length : Int) := of_decide_eq_true (by first | (with_reducible assumption) | assumption)
          obtain ⟨ad102, e102, hx102_0, hx102_1, hx102_2, hx102_3, hx102_4, hx102_5, hx102_6, hx102_7⟩ := at_T39 HR0.out x5_1 p102 q102
          obtain rfl : ad101 = ad102 := (by injection e102)
          replace p102 := eq_true p102
          replace q102 := eq_true q102
          have p103 : 0 ≤ (x5_1 : Int) := of_decide_eq_true (by first | (with_reducible assumption) | assumption)
          have q103 : x5_1 < (l0.length : Int) := of_decide_eq_true (by first | (with_reducible assumption) | assumption)
          obtain ⟨ad103, e103, hx103_0, hx103_1, hx103_2, hx103_3, hx103_4, hx103_5, hx103_6, hx103_7⟩ := at_T39 HR0.out x5_1 p103 q103
          obtain rfl : ad101 = ad103 := (by injection e103)
          replace p103 := eq_true p103
          replace q103 := eq_true q103
          have p104 : 0 ≤ (x5_1 : Int) := of_decide_eq_true (by first | (with_reducible assumption) | assumption)
          have q104 : x5_1 < (l0.length : Int) := of_decide_eq_true (by first | (with_reducible assumption) | assumption)
          obtain ⟨ad104, e104, hx104_0, hx104_1, hx104_2, hx104_3, hx104_4, hx104_5, hx104_6, hx104_7⟩ := at_T39 HR0.out x5_1 p104 q104
          obtain rfl : ad101 = ad104 := (by injection e104)
          replace p104 := eq_true p104
          replace q104 := eq_true q104
          have p105 : 0 ≤ (x5_1 : Int) := of_decide_eq_true (by first | (with_reducible assumption) | assumption)
          have q105 : x5_1 < (l0.length : Int) := of_decide_eq_true (by first | (with_reducible assumption) | assumption)
          obtain ⟨ad105, e105, hx105_0, hx105_1, hx105_2, hx105_3, hx105_4, hx105_5, hx105_6, hx105_7⟩ := at_T39 HR0.out x5_1 p105 q105
          obtain rfl : ad101 = ad105 := (by injection e105)
          replace p105 := eq_true p105
          replace q105 := eq_true q105
          go_wp2
          go_ret
          exact ⟨by first | rfl | (simp; done) | (simp [*]; done), by repeat (first | exact Drawn0.refl _ | apply Drawn0.step)⟩
        ·rw [if_neg c8] at H
         have c8b0 : (((rd_T39 l0 x5_1).f2.f1) == (wrap64 ((wrap64 ((wrap64 (x1_1 + 1)) + 1)) + 1))) = false := beq_eq_false_iff_ne.mpr c8
         have c8b1 : (((rd_T39 l0 x5_1).f2.f1) != (wrap64 ((wrap64 ((wrap64 (x1_1 + 1)) + 1)) + 1))) = true := bne_iff_ne.mpr c8
         obtain rfl := Option.some.inj H
         have p101 : 0 ≤ (x5_1 : Int) := of_decide_eq_true (by first | (with_reducible assumption) | assumption)
         have q101 : x5_1 < (l0.length : Int) := of_decide_eq_true (by first | (with_reducible assumption) | assumption)
         obtain ⟨ad101, e101, hx101_0, hx101_1, hx101_2, hx101_3, hx101_4, hx101_5, hx101_6, hx101_7⟩ := at_T39 HR0.out x5_1 p101 q101
         cases e101
         replace p101 := eq_true p101
         replace q101 := eq_true q101
         have p102 : 0 ≤ (x5_1 : Int) := of_decide_eq_true (by first | (with_reducible assumption) | assumption)
         have q102 : x5_1 < (l0.length : Int) := of_decide_eq_true (by first | (with_reducible assumption) | assumption)
         obtain ⟨ad102, e102, hx102_0, hx102_1, hx102_2, hx102_3, hx102_4, hx102_5, hx102_6, hx102_7⟩ := at_T39 HR0.out x5_1 p102 q102
         obtain rfl : ad101 = ad102 := (by injection e102)
         replace p102 := eq_true p102
         replace q102 := eq_true q102
         have p103 : 0 ≤ (x5_1 : Int) := of_decide_eq_true (by first | (with_reducible assumption) | assumption)
         have q103 : x5_1 < (l0.length : Int) := of_decide_eq_true (by first | (with_reducible assumption) | assumption)
         obtain ⟨ad103, e103, hx103_0, hx103_1, hx103_2, hx103_3, hx103_4, hx103_5, hx103_6, hx103_7⟩ := at_T39 HR0.out x5_1 p103 q103
         obtain rfl : ad101 = ad103 := (by injection e103)
         replace p103 := eq_true p103
         replace q103 := eq_true q103
         have p104 : 0 ≤ (x5_1 : Int) := of_decide_eq_true (by first | (with_reducible assumption) | assumption)
         have q104 : x5_1 < (l0.length : Int) := of_decide_eq_true (by first | (with_reducible assumption) | assumption)
         obtain ⟨ad104, e104, hx104_0, hx104_1, hx104_2, hx104_3, hx104_4, hx104_5, hx104_6, hx104_7⟩ := at_T39 HR0.out x5_1 p104 q104
         obtain rfl : ad101 = ad104 := (by injection e104)
         replace p104 := eq_true p104
         replace q104 := eq_true q104
         go_wp2
         go_ret
         exact ⟨by first | rfl | (simp; done) | (simp [*]; done), by repeat (first | exact Drawn0.refl _ | apply Drawn0.step)⟩
       ·rw [if_neg c7] at H
        have c7b0 : (((rd_T39 l0 x5_1).f2.f0) == (wrap64 ((wrap64 (x1_1 + 1)) + 1))) = false := beq_eq_false_iff_ne.mpr c7
        have c7b1 : (((rd_T39 l0 x5_1).f2.f0) != (wrap64 ((wrap64 (x1_1 + 1)) + 1))) = true := bne_iff_ne.mpr c7
        obtain rfl := Option.some.inj H
        have p101 : 0 ≤ (x5_1 : Int) := of_decide_eq_true (by first | (with_reducible assumption) | assumption)
        have q101 : x5_1 < (l0.length : Int) := of_decide_eq_true (by first | (with_reducible assumption) | assumption)
        obtain ⟨ad101, e101, hx101_0, hx101_1, hx101_2, hx101_3, hx101_4, hx101_5, hx101_6, hx101_7⟩ := at_T39 HR0.out x5_1 p101 q101
        cases e101
        replace p101 := eq_true p101
        replace q101 := eq_true q101
        have p102 : 0 ≤ (x5_1 : Int) := of_decide_eq_true (by first | (with_reducible assumption) | assumption)
        have q102 : x5_1 < (l0.length : Int) := of_decide_eq_true (by first | (with_reducible assumption) | assumption)
        obtain ⟨ad102, e102, hx102_0, hx102_1, hx102_2, hx102_3, hx102_4, hx102_5, hx102_6, hx102_7⟩ := at_T39 HR0.out x5_1 p102 q102
        obtain rfl : ad101 = ad102 := (by injection e102)
        replace p102 := eq_true p102
        replace q102 := eq_true q102
        have p103 : 0 ≤ (x5_1 : Int) := of_decide_eq_true (by first | (with_reducible assumption) | assumption)
        have q103 : x5_1 < (l0.length : Int) := of_decide_eq_true (by first | (with_reducible assumption) | assumption)
        obtain ⟨ad103, e103, hx103_0, hx103_1, hx103_2, hx103_3, hx103_4, hx103_5, hx103_6, hx103_7⟩ := at_T39 HR0.out x5_1 p103 q103
        obtain rfl : ad101 = ad103 := (by injection e103)
        replace p103 := eq_true p103
        replace q103 := eq_true q103
        go_wp2
        go_ret
        exact ⟨by first | rfl | (simp; done) | (simp [*]; done), by repeat (first | exact Drawn0.refl _ | apply Drawn0.step)⟩
      ·rw [if_neg c6] at H
       have c6b0 : (((rd_T39 l0 x5_1).f1) == (wrap64 (x1_1 + 1))) = false := beq_eq_false_iff_ne.mpr c6
       have c6b1 : (((rd_T39 l0 x5_1).f1) != (wrap64 (x1_1 + 1))) = true := bne_iff_ne.mpr c6
       obtain rfl := Option.some.inj H
       have p101 : 0 ≤ (x5_1 : Int) := of_decide_eq_true (by first | (with_reducible assumption) | assumption)
       have q101 : x5_1 < (l0.length : Int) := of_decide_eq_true (by first | (with_reducible assumption) | assumption)
       obtain ⟨ad101, e101, hx101_0, hx101_1, hx101_2, hx101_3, hx101_4, hx101_5, hx101_6, hx101_7⟩ := at_T39 HR0.out x5_1 p101 q101
       cases e101
       replace p101 := eq_true p101
       replace q101 := eq_true q101
       have p102 : 0 ≤ (x5_1 : Int) := of_decide_eq_true (by first | (with_reducible assumption) | assumption)
       have q102 : x5_1 < (l0.length : Int) := of_decide_eq_true (by first | (with_reducible assumption) | assumption)
       obtain ⟨ad102, e102, hx102_0, hx102_1, hx102_2, hx102_3, hx102_4, hx102_5, hx102_6, hx102_7⟩ := at_T39 HR0.out x5_1 p102 q102
       obtain rfl : ad101 = ad102 := (by injection e102)
       replace p102 := eq_true p102
       replace q102 := eq_true q102
       go_wp2
       go_ret
       exact ⟨by first | rfl | (simp; done) | (simp [*]; done), by repeat (first | exact Drawn0.refl _ | apply Drawn0.step)⟩
     ·rw [if_neg c5] at H
      have c5b0 : (((rd_T39 l0 x5_1).f0) == x1_1) = false := beq_eq_false_iff_ne.mpr c5
      have c5b1 : (((rd_T39 l0 x5_1).f0) != x1_1) = true := bne_iff_ne.mpr c5
      obtain rfl := Option.some.inj H
      have p101 : 0 ≤ (x5_1 : Int) := of_decide_eq_true (by first | (with_reducible assumption) | assumption)
      have q101 : x5_1 < (l0.length : Int) := of_decide_eq_true (by first | (with_reducible assumption) | assumption)
      obtain ⟨ad101, e101, hx101_0, hx101_1, hx101_2, hx101_3, hx101_4, hx101_5, hx101_6, hx101_7⟩ := at_T39 HR0.out x5_1 p101 q101
      cases e101
      replace p101 := eq_true p101
      replace q101 := eq_true q101
      go_wp2
      go_ret
      exact ⟨by first | rfl | (simp; done) | (simp [*]; done), by repeat (first | exact Drawn0.refl _ | apply Drawn0.step)⟩
    ·rw [if_neg c4] at H
     exact absurd H (by simp)
   ·rw [if_neg c3] at H
    have c3b0 : decide (x5_1 < (l0.length : Int)) = false := decide_eq_false c3
    clear c3
    obtain rfl := Option.some.inj H
    go_wp2
    go_ret
    exact ⟨by first | rfl | (simp; done) | (simp [*]; done), by repeat (first | exact Drawn0.refl _ | apply Drawn0.step)⟩
end Go.Proofs.YtgbdnbbfgcogjaaGreatDoor.Q

namespace Go.Proofs.YtgbdnbbfgcogjaaGreatDoor.Q
open Go.RowKit Go.Proofs.YtgbdnbbfgcogjaaGreatDoorW.PrintWords Go.Proofs.YtgbdnbbfgcogjaaGreatDoorW.PrintLast Go.Proofs.YtgbdnbbfgcogjaaGreatDoorW.PrintMore
attribute [local go_sem] max2_int min2_int max_two min_two max_three min_three max_four min_four
set_option linter.unusedVariables false
set_option linter.unusedSimpArgs false
mutual
def laws_FnExactRulesGet.j0 : Nat → ByteArray → List (S39) → Bool → List (S39) → Bool → Option (Bool)
 | 0, _, _, _, _, _ => none
 | k + 1, x0, x3, x4, x5, x32 => if x32 = true then (some false) else ((laws_markRuleS.f k x5 1).bind fun bt110 => ((laws_heldRuleS.f k bt110.2 1).bind fun t112 => (if t112 < 0 then (some false) else (if t112 = bt110.1 then ((impl_RulesGet.f k x0).bind fun bt113 => ((laws_eqRuleS.f k bt113.1 x3).bind fun t117 => (if t117 = true then (laws_FnExactRulesGet.j1 k bt110.2 bt110.1 (bt113.2 != x4)) else (laws_FnExactRulesGet.j1 k bt110.2 bt110.1 true)))) else (some false)))))
def laws_FnExactRulesGet.j1 : Nat → List (S39) → Int → Bool → Option (Bool)
 | 0, _, _, _ => none
 | k + 1, x5, x7, x57 => if x57 = true then (some false) else ((laws_heldRuleS.f k x5 1).bind fun t118 => (if t118 < 0 then (some false) else (if t118 = x7 then (some true) else (some false))))
end
def laws_FnExactRulesGet.f (k : Nat) (a0 : ByteArray) : Option (Bool) := if (a0.size : Int) > 1048576 then (some true) else ((spec_RulesGet.f k a0).bind fun bt101 => ((impl_RulesGet.f k a0).bind fun bt105 => ((laws_eqRuleS.f k bt105.1 bt101.1).bind fun t109 => (if t109 = true then (laws_FnExactRulesGet.j0 k a0 bt101.1 bt101.2 bt105.1 (bt105.2 != bt101.2)) else (laws_FnExactRulesGet.j0 k a0 bt101.1 bt101.2 bt105.1 true)))))
set_option maxHeartbeats 8000000 in
set_option maxRecDepth 100000 in
theorem laws_FnExactRulesGet.calls (k : Nat) (a0 : ByteArray) (r : Bool) (w : World) (hT : Tb.T3 w) (h : laws_FnExactRulesGet.f k a0 = some r) :
  Calls Tryz.prog 3 #[.string a0] w fun e w' => e = .returned (.bool r) ∧ Below w.heap.size w w' := by
 have HT := Aside0.mk hT
 clear hT
 have HB := Aside0.mk (Below.refl w.heap.size w)
 have H : (if (a0.size : Int) > 1048576 then (some true) else ((spec_RulesGet.f k a0).bind fun bt101 => ((impl_RulesGet.f k a0).bind fun bt105 => ((laws_eqRuleS.f k bt105.1 bt101.1).bind fun t109 => (if t109 = true then (laws_FnExactRulesGet.j0 k a0 bt101.1 bt101.2 bt105.1 (bt105.2 != bt101.2)) else (laws_FnExactRulesGet.j0 k a0 bt101.1 bt101.2 bt105.1 true)))))) = some r := h
 clear h
 by_cases c2 : (a0.size : Int) > 1048576
 ·rw [if_pos c2] at H
  have c2b0 : decide (1048576 < (a0.size : Int)) = true := decide_eq_true c2
  have c2b1 : decide (1048576 < a0.size) = true := decide_eq_true (by omega)
  clear c2
  obtain rfl := Option.some.inj H
  go_enter Tryz.func3, Tryz.ntmps3
  go_wp2
  go_ret
  exact ⟨by first | rfl | (simp [errW_none, errW_some] <;> rfl) | (simp [*, errW_none, errW_some] <;> rfl), by repeat (first | (with_reducible first | exact HB.out | apply below_alloc | apply pw_below_drewN | apply below_drew1) | exact HB.out)⟩
 ·rw [if_neg c2] at H
  have c2b0 : decide (1048576 < (a0.size : Int)) = false := decide_eq_false c2
  have c2b1 : decide (1048576 < a0.size) = false := decide_eq_false (by omega)
  clear c2
  replace H := Option.bind_eq_some_iff.mp H
  obtain ⟨⟨t101, t102⟩, A30, H⟩ := H
  replace H : ((impl_RulesGet.f k a0).bind fun bt105 => ((laws_eqRuleS.f k bt105.1 t101).bind fun t109 => (if t109 = true then (laws_FnExactRulesGet.j0 k a0 t101 t102 bt105.1 (bt105.2 != t102)) else (laws_FnExactRulesGet.j0 k a0 t101 t102 bt105.1 true)))) = some r := H
  have A3 := Aside0.mk A30
  clear A30
  replace H := Option.bind_eq_some_iff.mp H
  obtain ⟨⟨t105, t106⟩, A40, H⟩ := H
  replace H : ((laws_eqRuleS.f k t105 t101).bind fun t109 => (if t109 = true then (laws_FnExactRulesGet.j0 k a0 t101 t102 t105 (t106 != t102)) else (laws_FnExactRulesGet.j0 k a0 t101 t102 t105 true))) = some r := H
  have A4 := Aside0.mk A40
  clear A40
  have HC5 := Aside0.mk H
  clear H
  go_enter Tryz.func3, Tryz.ntmps3
  go_upto_region 5 with (first | ((with_reducible refine gate_callee (f := 5) rfl ?_); refine goesL_ (some 16) rfl rfl Tryz.func5 (by kernel_rfl) rfl #[.string a0] rfl (by (try simp only [List.map_toArray, List.map_cons, List.map_nil]); first | done | rfl | (simp only [List.length_drop, List.length_take]; rfl)) ?_; (with_reducible refine (spec_RulesGet.calls k a0 t101 t102 _ A3.out).mono ?_); rintro e w6 ⟨v103, rfl, ho0, hb⟩; refine ⟨_, rfl, ?_⟩; have n0_ := Aside0.mk (Kd.R_lower ho0 (below_size (by repeat (first | (with_reducible first | exact HB.out | apply below_alloc | apply pw_below_drewN | apply below_drew1) | exact HB.out)))); have n1_ := Aside0.mk (below_step (by repeat (first | (with_reducible first | exact HB.out | apply below_alloc | apply pw_below_drewN | apply below_drew1) | exact HB.out)) hb); clear HB; have HO104 := n0_; have HB := n1_; clear n0_ n1_; (try clear hb); (try clear hb2); (try clear hk); (try clear hi); (try clear ho0)) | ((with_reducible refine gate_callee (f := 6) rfl ?_); refine goesL_ (some 21) rfl rfl Tryz.func6 (by kernel_rfl) rfl #[.string a0] rfl (by (try simp only [List.map_toArray, List.map_cons, List.map_nil]); first | done | rfl | (simp only [List.length_drop, List.length_take]; rfl)) ?_; (with_reducible refine (impl_RulesGet.calls k a0 t105 t106 _ ?side1 A4.out).mono ?_); (case side1 => exact (Tb.T3.below HT.out (by repeat (first | (with_reducible first | exact HB.out | apply below_alloc | apply pw_below_drewN | apply below_drew1) | exact HB.out)))); rintro e w7 ⟨v107, rfl, ho0, hb⟩; refine ⟨_, rfl, ?_⟩; have n0_ := Aside0.mk (Kd.R_elder' (by (with_reducible repeat (first | apply Kd.R_alloc | apply Kd.R_drewN | apply Kd.R_drew)); exact HO104.out) (Kd.R_base ho0) hb); have n1_ := Aside0.mk (Kd.R_lower (Kd.R_new' ho0 (Kd.R_lt (by (with_reducible repeat (first | apply Kd.R_alloc | apply Kd.R_drewN | apply Kd.R_drew)); exact HO104.out))) (below_size (by repeat (first | (with_reducible first | exact HB.out | apply below_alloc | apply pw_below_drewN | apply below_drew1) | exact HB.out)))); have n2_ := Aside0.mk (below_step (by repeat (first | (with_reducible first | exact HB.out | apply below_alloc | apply pw_below_drewN | apply below_drew1) | exact HB.out)) hb); clear HO104; clear HB; have HO104 := n0_; have HO108 := n1_; have HB := n2_; clear n0_ n1_ n2_; (try clear hb); (try clear hb2); (try clear hk); (try clear hi); (try clear ho0)))
  (try simp only [Act.put, List.setIfInBounds_toArray, List.set_cons_zero, List.set_cons_succ])
  go_cut [32] (fun v32 wc => ∃ (kq : Nat) (x32_4 : Bool), v32 = .bool x32_4 ∧ Aside0 (laws_FnExactRulesGet.j0 kq a0 t101 t102 t105 x32_4 = some r) ∧ Aside0 (kq ≤ k) ∧ Aside0 (Kd.R k39 39 wc w.heap.size (fun k_ => some k_ ≠ (v107 : Value).ownBlock) v103 t101) ∧ Aside0 (Kd.R k39 39 wc w.heap.size (fun k_ => some k_ ≠ (v103 : Value).ownBlock) v107 t105) ∧ Aside0 (Below w.heap.size w wc))
  case first =>
   have H := HC5.out
   clear HC5
   replace H := Option.bind_eq_some_iff.mp H
   obtain ⟨t109, A80, H⟩ := H
   replace H : (if t109 = true then (laws_FnExactRulesGet.j0 k a0 t101 t102 t105 (t106 != t102)) else (laws_FnExactRulesGet.j0 k a0 t101 t102 t105 true)) = some r := H
   have A8 := Aside0.mk A80
   clear A80
   by_cases c9 : t109 = true
   ·subst c9
    have H1 : (laws_FnExactRulesGet.j0 k a0 t101 t102 t105 (t106 != t102)) = some r := by rw [if_pos rfl] at H; exact H
    clear H
    have H := H1
    clear H1
    have H' := Aside0.mk H
    clear H
    obtain ⟨Ao10, co10, eo10⟩ := Kd.R_slice HO108.out
    subst eo10
    obtain ⟨Ao11, co11, eo11⟩ := Kd.R_slice HO104.out
    subst eo11
    go_wp2_with (first | ((with_reducible refine gate_callee (f := 7) rfl ?_); refine goesL_ (some 26) rfl rfl Tryz.func7 (by kernel_rfl) rfl #[.slice Ao10 t105.length co10, .slice Ao11 t101.length co11] rfl (by (try simp only [List.map_toArray, List.map_cons, List.map_nil]); first | done | rfl | (simp only [List.length_drop, List.length_take]; rfl)) ?_; (with_reducible refine (laws_eqRuleS.calls k _ _ t105 _ _ t101 true _ ?side1 ?side2 ?side3 ?side4 A8.out).mono ?_); (case side1 => repeat (first | exact (Kd.R_reads' HO108.out).2.2 | (with_reducible refine Kd.C_alloc ?_ _) | (with_reducible refine Kd.C_drewN ?_ _) | (with_reducible refine Kd.C_drew ?_))); (case side2 => exact (Kd.R_reads' HO108.out).2.1); (case side3 => repeat (first | exact (Kd.R_reads' HO104.out).2.2 | (with_reducible refine Kd.C_alloc ?_ _) | (with_reducible refine Kd.C_drewN ?_ _) | (with_reducible refine Kd.C_drew ?_))); (case side4 => exact (Kd.R_reads' HO104.out).2.1); rintro e w12 ⟨rfl, hb⟩; refine ⟨_, rfl, ?_⟩; have n0_ := Aside0.mk (Kd.R_below (by (with_reducible repeat (first | apply Kd.R_alloc | apply Kd.R_drewN | apply Kd.R_drew)); exact HO104.out) hb); have n1_ := Aside0.mk (Kd.R_below (by (with_reducible repeat (first | apply Kd.R_alloc | apply Kd.R_drewN | apply Kd.R_drew)); exact HO108.out) hb); have n2_ := Aside0.mk (below_step (by repeat (first | (with_reducible first | exact HB.out | apply below_alloc | apply pw_below_drewN | apply below_drew1) | exact HB.out)) hb); clear HO104; clear HO108; clear HB; have HO104 := n0_; have HO108 := n1_; have HB := n2_; clear n0_ n1_ n2_; (try clear hb); (try clear hb2); (try clear hk); (try clear hi)))
    go_meet
    case rel => exact ⟨_, ((t106 != t102)), (by first | rfl | (simp; done) | (simp [*]; done)), H', ⟨by first | omega | exact Nat.le_refl _⟩, ⟨by (with_reducible repeat (first | apply Kd.R_alloc | apply Kd.R_drewN | apply Kd.R_drew)); exact Kd.R_mono HO104.out (fun _ hk => hk.2)⟩, ⟨by (with_reducible repeat (first | apply Kd.R_alloc | apply Kd.R_drewN | apply Kd.R_drew)); exact Kd.R_mono HO108.out (fun _ hk => hk.2)⟩, ⟨by repeat (first | (with_reducible first | exact HB.out | apply below_alloc | apply pw_below_drewN | apply below_drew1) | exact HB.out)⟩⟩
   ·replace c9 := Bool.eq_false_iff.mpr c9
    subst c9
    have H1 : (laws_FnExactRulesGet.j0 k a0 t101 t102 t105 true) = some r := by rw [if_neg (show ¬ (false = true) by decide)] at H; exact H
    clear H
    have H := H1
    clear H1
    have H' := Aside0.mk H
    clear H
    obtain ⟨Ao13, co13, eo13⟩ := Kd.R_slice HO108.out
    subst eo13
    obtain ⟨Ao14, co14, eo14⟩ := Kd.R_slice HO104.out
    subst eo14
    go_wp2_with (first | ((with_reducible refine gate_callee (f := 7) rfl ?_); refine goesL_ (some 26) rfl rfl Tryz.func7 (by kernel_rfl) rfl #[.slice Ao13 t105.length co13, .slice Ao14 t101.length co14] rfl (by (try simp only [List.map_toArray, List.map_cons, List.map_nil]); first | done | rfl | (simp only [List.length_drop, List.length_take]; rfl)) ?_; (with_reducible refine (laws_eqRuleS.calls k _ _ t105 _ _ t101 false _ ?side1 ?side2 ?side3 ?side4 A8.out).mono ?_); (case side1 => repeat (first | exact (Kd.R_reads' HO108.out).2.2 | (with_reducible refine Kd.C_alloc ?_ _) | (with_reducible refine Kd.C_drewN ?_ _) | (with_reducible refine Kd.C_drew ?_))); (case side2 => exact (Kd.R_reads' HO108.out).2.1); (case side3 => repeat (first | exact (Kd.R_reads' HO104.out).2.2 | (with_reducible refine Kd.C_alloc ?_ _) | (with_reducible refine Kd.C_drewN ?_ _) | (with_reducible refine Kd.C_drew ?_))); (case side4 => exact (Kd.R_reads' HO104.out).2.1); rintro e w15 ⟨rfl, hb⟩; refine ⟨_, rfl, ?_⟩; have n0_ := Aside0.mk (Kd.R_below (by (with_reducible repeat (first | apply Kd.R_alloc | apply Kd.R_drewN | apply Kd.R_drew)); exact HO104.out) hb); have n1_ := Aside0.mk (Kd.R_below (by (with_reducible repeat (first | apply Kd.R_alloc | apply Kd.R_drewN | apply Kd.R_drew)); exact HO108.out) hb); have n2_ := Aside0.mk (below_step (by repeat (first | (with_reducible first | exact HB.out | apply below_alloc | apply pw_below_drewN | apply below_drew1) | exact HB.out)) hb); clear HO104; clear HO108; clear HB; have HO104 := n0_; have HO108 := n1_; have HB := n2_; clear n0_ n1_ n2_; (try clear hb); (try clear hb2); (try clear hk); (try clear hi)))
    go_meet
    case rel => exact ⟨_, (true), (by first | rfl | (simp; done) | (simp [*]; done)), H', ⟨by first | omega | exact Nat.le_refl _⟩, ⟨by (with_reducible repeat (first | apply Kd.R_alloc | apply Kd.R_drewN | apply Kd.R_drew)); exact Kd.R_mono HO104.out (fun _ hk => hk.2)⟩, ⟨by (with_reducible repeat (first | apply Kd.R_alloc | apply Kd.R_drewN | apply Kd.R_drew)); exact Kd.R_mono HO108.out (fun _ hk => hk.2)⟩, ⟨by repeat (first | (with_reducible first | exact HB.out | apply below_alloc | apply pw_below_drewN | apply below_drew1) | exact HB.out)⟩⟩
  case rest =>
   clear HC5
   try clear c2
   try clear c2b0
   try clear c2b1
   try clear p2
   try clear c3
   try clear c5
   try clear c6
   try clear c7
   try clear c9
   obtain ⟨kq, x32_4, rfl, HA, HJ4, HO_3, HO_5, HB⟩ := hcut
   cases kq with
   | zero => exact absurd HA.out (by simp [laws_FnExactRulesGet.j0])
   | succ kj4 =>
    have H := HA.out
    clear HA
    simp only [laws_FnExactRulesGet.j0] at H
    by_cases c16 : x32_4 = true
    ·subst c16
     have H1 : (some false) = some r := by rw [if_pos rfl] at H; exact H
     clear H
     have H := H1
     clear H1
     obtain rfl := Option.some.inj H
     go_wp2
     go_ret
     exact ⟨by first | rfl | (simp [errW_none, errW_some] <;> rfl) | (simp [*, errW_none, errW_some] <;> rfl), by repeat (first | (with_reducible first | exact HB.out | apply below_alloc | apply pw_below_drewN | apply below_drew1) | exact HB.out)⟩
    ·replace c16 := Bool.eq_false_iff.mpr c16
     subst c16
     have H1 : ((laws_markRuleS.f kj4 t105 1).bind fun bt110 => ((laws_heldRuleS.f kj4 bt110.2 1).bind fun t112 => (if t112 < 0 then (some false) else (if t112 = bt110.1 then ((impl_RulesGet.f kj4 a0).bind fun bt113 => ((laws_eqRuleS.f kj4 bt113.1 t101).bind fun t117 => (if t117 = true then (laws_FnExactRulesGet.j1 kj4 bt110.2 bt110.1 (bt113.2 != t102)) else (laws_FnExactRulesGet.j1 kj4 bt110.2 bt110.1 true)))) else (some false))))) = some r := by rw [if_neg (show ¬ (false = true) by decide)] at H; exact H
     clear H
     have H := H1
     clear H1
     replace H := Option.bind_eq_some_iff.mp H
     obtain ⟨⟨t110, t111⟩, A170, H⟩ := H
     replace H : ((laws_heldRuleS.f kj4 t111 1).bind fun t112 => (if t112 < 0 then (some false) else (if t112 = t110 then ((impl_RulesGet.f kj4 a0).bind fun bt113 => ((laws_eqRuleS.f kj4 bt113.1 t101).bind fun t117 => (if t117 = true then (laws_FnExactRulesGet.j1 kj4 t111 t110 (bt113.2 != t102)) else (laws_FnExactRulesGet.j1 kj4 t111 t110 true)))) else (some false)))) = some r := H
     have A17 := Aside0.mk A170
     clear A170
     replace H := Option.bind_eq_some_iff.mp H
     obtain ⟨t112, A180, H⟩ := H
     replace H : (if t112 < 0 then (some false) else (if t112 = t110 then ((impl_RulesGet.f kj4 a0).bind fun bt113 => ((laws_eqRuleS.f kj4 bt113.1 t101).bind fun t117 => (if t117 = true then (laws_FnExactRulesGet.j1 kj4 t111 t110 (bt113.2 != t102)) else (laws_FnExactRulesGet.j1 kj4 t111 t110 true)))) else (some false))) = some r := H
     have A18 := Aside0.mk A180
     clear A180
     by_cases c19 : t112 < 0
     ·rw [if_pos c19] at H
      have c19b0 : decide (t112 < 0) = true := decide_eq_true c19
      clear c19
      obtain rfl := Option.some.inj H
      obtain ⟨Ao20, co20, eo20⟩ := Kd.R_slice HO_5.out
      subst eo20
      go_wp2_with (first | ((with_reducible refine gate_callee (f := 8) rfl ?_); refine goesL_ (some 35) rfl rfl Tryz.func8 (by kernel_rfl) rfl #[.slice Ao20 t105.length co20, .int .i64 1] rfl (by (try simp only [List.map_toArray, List.map_cons, List.map_nil]); first | done | rfl | (simp only [List.length_drop, List.length_take]; rfl)) ?_; (with_reducible refine (laws_markRuleS.calls kj4 (fun k_ => some k_ = (.slice Ao20 t105.length co20 : Value).ownBlock) (.slice Ao20 t105.length co20) t105 1 t110 t111 w _ ?side1 ?side2 A17.out).mono ?_); (case side1 => repeat (first | (with_reducible first | exact HB.out | apply below_alloc | apply pw_below_drewN | apply below_drew1) | exact HB.out)); (case side2 => exact Kd.R_tight rfl HO_5.out); rintro e w21 ⟨rfl, hy0, hb, hkp⟩; refine ⟨_, rfl, ?_⟩; have n0_ := Aside0.mk (Kd.R_mono (ok' := fun k_ => some k_ ≠ (.slice Ao20 t105.length co20 : Value).ownBlock) (Kd.R_keptB (HO_3.out) hkp (fun k_ hk_ hs_ => (hk_) hs_)) (fun k_ hk_ => hk_.1)); have n1_ := Aside0.mk (Kd.R_reok rfl hy0 (fun k_ e_ => HO_5.out.1 k_ e_)); have n2_ := Aside0.mk (hb); clear HO_3; clear HO_5; clear HB; have HO_3 := n0_; have HO_5 := n1_; have HB := n2_; clear n0_ n1_ n2_; (try clear hb); (try clear hkp); (try clear hy0)) | ((with_reducible refine gate_callee (f := 9) rfl ?_); refine goesL_ (some 38) rfl rfl Tryz.func9 (by kernel_rfl) rfl #[.slice Ao20 t111.length co20, .int .i64 1] rfl (by (try simp only [List.map_toArray, List.map_cons, List.map_nil]); first | done | (rw [show t111.length = t105.length from (Kd.R_reads' HO_5.out).1.symm] <;> rfl) | rfl | (simp only [List.length_drop, List.length_take]; rfl)) ?_; (with_reducible refine (laws_heldRuleS.calls kj4 _ _ t111 1 t112 _ ?side1 ?side2 A18.out).mono ?_); (case side1 => repeat (first | exact (Kd.R_reads' HO_5.out).2.2 | (with_reducible refine Kd.C_alloc ?_ _) | (with_reducible refine Kd.C_drewN ?_ _) | (with_reducible refine Kd.C_drew ?_))); (case side2 => rw [show t111.length = t105.length from (Kd.R_reads' HO_5.out).1.symm]; exact (Kd.R_reads' HO_5.out).2.1); rintro e w' ⟨rfl, ⟨nd, rfl⟩⟩; refine ⟨_, rfl, ?_⟩))
      go_ret
      exact ⟨by first | rfl | (simp [errW_none, errW_some] <;> rfl) | (simp [*, errW_none, errW_some] <;> rfl), by repeat (first | (with_reducible first | exact HB.out | apply below_alloc | apply pw_below_drewN | apply below_drew1) | exact HB.out)⟩
     ·rw [if_neg c19] at H
      have c19b0 : decide (t112 < 0) = false := decide_eq_false c19
      clear c19
      by_cases c22 : t112 = t110
      ·rw [if_pos c22] at H
       have c22b0 : (t112 == t110) = true := beq_iff_eq.mpr c22
       have c22b1 : (t112 != t110) = false := bne_eq_false_iff_eq.mpr c22
       clear c22
       replace H := Option.bind_eq_some_iff.mp H
       obtain ⟨⟨t113, t114⟩, A230, H⟩ := H
       replace H : ((laws_eqRuleS.f kj4 t113 t101).bind fun t117 => (if t117 = true then (laws_FnExactRulesGet.j1 kj4 t111 t110 (t114 != t102)) else (laws_FnExactRulesGet.j1 kj4 t111 t110 true))) = some r := H
       have A23 := Aside0.mk A230
       clear A230
       have HC24 := Aside0.mk H
       clear H
       obtain ⟨Ao25, co25, eo25⟩ := Kd.R_slice HO_5.out
       subst eo25
       go_upto_region 16 with (first | ((with_reducible refine gate_callee (f := 8) rfl ?_); refine goesL_ (some 35) rfl rfl Tryz.func8 (by kernel_rfl) rfl #[.slice Ao25 t105.length co25, .int .i64 1] rfl (by (try simp only [List.map_toArray, List.map_cons, List.map_nil]); first | done | rfl | (simp only [List.length_drop, List.length_take]; rfl)) ?_; (with_reducible refine (laws_markRuleS.calls kj4 (fun k_ => some k_ = (.slice Ao25 t105.length co25 : Value).ownBlock) (.slice Ao25 t105.length co25) t105 1 t110 t111 w _ ?side1 ?side2 A17.out).mono ?_); (case side1 => repeat (first | (with_reducible first | exact HB.out | apply below_alloc | apply pw_below_drewN | apply below_drew1) | exact HB.out)); (case side2 => exact Kd.R_tight rfl HO_5.out); rintro e w26 ⟨rfl, hy0, hb, hkp⟩; refine ⟨_, rfl, ?_⟩; have n0_ := Aside0.mk (Kd.R_mono (ok' := fun k_ => some k_ ≠ (.slice Ao25 t105.length co25 : Value).ownBlock) (Kd.R_keptB (HO_3.out) hkp (fun k_ hk_ hs_ => (hk_) hs_)) (fun k_ hk_ => hk_.1)); have n1_ := Aside0.mk (Kd.R_reok rfl hy0 (fun k_ e_ => HO_5.out.1 k_ e_)); have n2_ := Aside0.mk (hb); clear HO_3; clear HO_5; clear HB; have HO_3 := n0_; have HO_5 := n1_; have HB := n2_; clear n0_ n1_ n2_; (try clear hb); (try clear hkp); (try clear hy0)) | ((with_reducible refine gate_callee (f := 9) rfl ?_); refine goesL_ (some 38) rfl rfl Tryz.func9 (by kernel_rfl) rfl #[.slice Ao25 t111.length co25, .int .i64 1] rfl (by (try simp only [List.map_toArray, List.map_cons, List.map_nil]); first | done | (rw [show t111.length = t105.length from (Kd.R_reads' HO_5.out).1.symm] <;> rfl) | rfl | (simp only [List.length_drop, List.length_take]; rfl)) ?_; (with_reducible refine (laws_heldRuleS.calls kj4 _ _ t111 1 t112 _ ?side1 ?side2 A18.out).mono ?_); (case side1 => repeat (first | exact (Kd.R_reads' HO_5.out).2.2 | (with_reducible refine Kd.C_alloc ?_ _) | (with_reducible refine Kd.C_drewN ?_ _) | (with_reducible refine Kd.C_drew ?_))); (case side2 => rw [show t111.length = t105.length from (Kd.R_reads' HO_5.out).1.symm]; exact (Kd.R_reads' HO_5.out).2.1); rintro e w' ⟨rfl, ⟨nd, rfl⟩⟩; refine ⟨_, rfl, ?_⟩) | ((with_reducible refine gate_callee (f := 6) rfl ?_); refine goesL_ (some 46) rfl rfl Tryz.func6 (by kernel_rfl) rfl #[.string a0] rfl (by (try simp only [List.map_toArray, List.map_cons, List.map_nil]); first | done | rfl | (simp only [List.length_drop, List.length_take]; rfl)) ?_; (with_reducible refine (impl_RulesGet.calls kj4 a0 t113 t114 _ ?side1 A23.out).mono ?_); (case side1 => exact (Tb.T3.below HT.out (by repeat (first | (with_reducible first | exact HB.out | apply below_alloc | apply pw_below_drewN | apply below_drew1) | exact HB.out)))); rintro e w27 ⟨v115, rfl, ho0, hb⟩; refine ⟨_, rfl, ?_⟩; have n0_ := Aside0.mk (Kd.R_elder' (by (with_reducible repeat (first | apply Kd.R_alloc | apply Kd.R_drewN | apply Kd.R_drew)); exact HO_3.out) (Kd.R_base ho0) hb); have n1_ := Aside0.mk (Kd.R_elder' (by (with_reducible repeat (first | apply Kd.R_alloc | apply Kd.R_drewN | apply Kd.R_drew)); exact HO_5.out) (Kd.R_base ho0) hb); have n2_ := Aside0.mk (Kd.R_lower (Kd.R_new' (Kd.R_new' ho0 (Kd.R_lt (by (with_reducible repeat (first | apply Kd.R_alloc | apply Kd.R_drewN | apply Kd.R_drew)); exact HO_3.out))) (Kd.R_lt (by (with_reducible repeat (first | apply Kd.R_alloc | apply Kd.R_drewN | apply Kd.R_drew)); exact HO_5.out))) (below_size (by repeat (first | (with_reducible first | exact HB.out | apply below_alloc | apply pw_below_drewN | apply below_drew1) | exact HB.out)))); have n3_ := Aside0.mk (below_step (by repeat (first | (with_reducible first | exact HB.out | apply below_alloc | apply pw_below_drewN | apply below_drew1) | exact HB.out)) hb); clear HO_3; clear HO_5; clear HB; have HO_3 := n0_; have HO_5 := n1_; have HO116 := n2_; have HB := n3_; clear n0_ n1_ n2_ n3_; (try clear hb); (try clear hb2); (try clear hk); (try clear hi); (try clear ho0)))
       (try simp only [Act.put, List.setIfInBounds_toArray, List.set_cons_zero, List.set_cons_succ])
       go_cut [57] (fun v57 wc => ∃ (kq : Nat) (x57_23 : Bool), v57 = .bool x57_23 ∧ Aside0 (laws_FnExactRulesGet.j1 kq t111 t110 x57_23 = some r) ∧ Aside0 (kq ≤ kj4) ∧ Aside0 (Kd.R k39 39 wc w.heap.size (fun _ => True) (.slice Ao25 t105.length co25) t111) ∧ Aside0 (Below w.heap.size w wc))
       case first =>
        have H := HC24.out
        clear HC24
        replace H := Option.bind_eq_some_iff.mp H
        obtain ⟨t117, A280, H⟩ := H
        replace H : (if t117 = true then (laws_FnExactRulesGet.j1 kj4 t111 t110 (t114 != t102)) else (laws_FnExactRulesGet.j1 kj4 t111 t110 true)) = some r := H
        have A28 := Aside0.mk A280
        clear A280
        by_cases c29 : t117 = true
        ·subst c29
         have H1 : (laws_FnExactRulesGet.j1 kj4 t111 t110 (t114 != t102)) = some r := by rw [if_pos rfl] at H; exact H
         clear H
         have H := H1
         clear H1
         have H' := Aside0.mk H
         clear H
         obtain ⟨Ao30, co30, eo30⟩ := Kd.R_slice HO116.out
         subst eo30
         obtain ⟨Ao31, co31, eo31⟩ := Kd.R_slice HO_3.out
         subst eo31
         go_wp2_with (first | ((with_reducible refine gate_callee (f := 7) rfl ?_); refine goesL_ (some 51) rfl rfl Tryz.func7 (by kernel_rfl) rfl #[.slice Ao30 t113.length co30, .slice Ao31 t101.length co31] rfl (by (try simp only [List.map_toArray, List.map_cons, List.map_nil]); first | done | rfl | (simp only [List.length_drop, List.length_take]; rfl)) ?_; (with_reducible refine (laws_eqRuleS.calls kj4 _ _ t113 _ _ t101 true _ ?side1 ?side2 ?side3 ?side4 A28.out).mono ?_); (case side1 => repeat (first | exact (Kd.R_reads' HO116.out).2.2 | (with_reducible refine Kd.C_alloc ?_ _) | (with_reducible refine Kd.C_drewN ?_ _) | (with_reducible refine Kd.C_drew ?_))); (case side2 => exact (Kd.R_reads' HO116.out).2.1); (case side3 => repeat (first | exact (Kd.R_reads' HO_3.out).2.2 | (with_reducible refine Kd.C_alloc ?_ _) | (with_reducible refine Kd.C_drewN ?_ _) | (with_reducible refine Kd.C_drew ?_))); (case side4 => exact (Kd.R_reads' HO_3.out).2.1); rintro e w32 ⟨rfl, hb⟩; refine ⟨_, rfl, ?_⟩; have n0_ := Aside0.mk (Kd.R_below (by (with_reducible repeat (first | apply Kd.R_alloc | apply Kd.R_drewN | apply Kd.R_drew)); exact HO_3.out) hb); have n1_ := Aside0.mk (Kd.R_below (by (with_reducible repeat (first | apply Kd.R_alloc | apply Kd.R_drewN | apply Kd.R_drew)); exact HO_5.out) hb); have n2_ := Aside0.mk (Kd.R_below (by (with_reducible repeat (first | apply Kd.R_alloc | apply Kd.R_drewN | apply Kd.R_drew)); exact HO116.out) hb); have n3_ := Aside0.mk (below_step (by repeat (first | (with_reducible first | exact HB.out | apply below_alloc | apply pw_below_drewN | apply below_drew1) | exact HB.out)) hb); clear HO_3; clear HO_5; clear HO116; clear HB; have HO_3 := n0_; have HO_5 := n1_; have HO116 := n2_; have HB := n3_; clear n0_ n1_ n2_ n3_; (try clear hb); (try clear hb2); (try clear hk); (try clear hi)))
         go_meet
         case rel => exact ⟨_, ((t114 != t102)), (by first | rfl | (simp; done) | (simp [*]; done)), H', ⟨by have := HJ4.out; first | omega | exact Nat.le_refl _⟩, ⟨by (with_reducible repeat (first | apply Kd.R_alloc | apply Kd.R_drewN | apply Kd.R_drew)); exact Kd.R_mono HO_5.out (fun _ hk => trivial)⟩, ⟨by repeat (first | (with_reducible first | exact HB.out | apply below_alloc | apply pw_below_drewN | apply below_drew1) | exact HB.out)⟩⟩
        ·replace c29 := Bool.eq_false_iff.mpr c29
         subst c29
         have H1 : (laws_FnExactRulesGet.j1 kj4 t111 t110 true) = some r := by rw [if_neg (show ¬ (false = true) by decide)] at H; exact H
         clear H
         have H := H1
         clear H1
         have H' := Aside0.mk H
         clear H
         obtain ⟨Ao33, co33, eo33⟩ := Kd.R_slice HO116.out
         subst eo33
         obtain ⟨Ao34, co34, eo34⟩ := Kd.R_slice HO_3.out
         subst eo34
         go_wp2_with (first | ((with_reducible refine gate_callee (f := 7) rfl ?_); refine goesL_ (some 51) rfl rfl Tryz.func7 (by kernel_rfl) rfl #[.slice Ao33 t113.length co33, .slice Ao34 t101.length co34] rfl (by (try simp only [List.map_toArray, List.map_cons, List.map_nil]); first | done | rfl | (simp only [List.length_drop, List.length_take]; rfl)) ?_; (with_reducible refine (laws_eqRuleS.calls kj4 _ _ t113 _ _ t101 false _ ?side1 ?side2 ?side3 ?side4 A28.out).mono ?_); (case side1 => repeat (first | exact (Kd.R_reads' HO116.out).2.2 | (with_reducible refine Kd.C_alloc ?_ _) | (with_reducible refine Kd.C_drewN ?_ _) | (with_reducible refine Kd.C_drew ?_))); (case side2 => exact (Kd.R_reads' HO116.out).2.1); (case side3 => repeat (first | exact (Kd.R_reads' HO_3.out).2.2 | (with_reducible refine Kd.C_alloc ?_ _) | (with_reducible refine Kd.C_drewN ?_ _) | (with_reducible refine Kd.C_drew ?_))); (case side4 => exact (Kd.R_reads' HO_3.out).2.1); rintro e w35 ⟨rfl, hb⟩; refine ⟨_, rfl, ?_⟩; have n0_ := Aside0.mk (Kd.R_below (by (with_reducible repeat (first | apply Kd.R_alloc | apply Kd.R_drewN | apply Kd.R_drew)); exact HO_3.out) hb); have n1_ := Aside0.mk (Kd.R_below (by (with_reducible repeat (first | apply Kd.R_alloc | apply Kd.R_drewN | apply Kd.R_drew)); exact HO_5.out) hb); have n2_ := Aside0.mk (Kd.R_below (by (with_reducible repeat (first | apply Kd.R_alloc | apply Kd.R_drewN | apply Kd.R_drew)); exact HO116.out) hb); have n3_ := Aside0.mk (below_step (by repeat (first | (with_reducible first | exact HB.out | apply below_alloc | apply pw_below_drewN | apply below_drew1) | exact HB.out)) hb); clear HO_3; clear HO_5; clear HO116; clear HB; have HO_3 := n0_; have HO_5 := n1_; have HO116 := n2_; have HB := n3_; clear n0_ n1_ n2_ n3_; (try clear hb); (try clear hb2); (try clear hk); (try clear hi)))
         go_meet
         case rel => exact ⟨_, (true), (by first | rfl | (simp; done) | (simp [*]; done)), H', ⟨by have := HJ4.out; first | omega | exact Nat.le_refl _⟩, ⟨by (with_reducible repeat (first | apply Kd.R_alloc | apply Kd.R_drewN | apply Kd.R_drew)); exact Kd.R_mono HO_5.out (fun _ hk => trivial)⟩, ⟨by repeat (first | (with_reducible first | exact HB.out | apply below_alloc | apply pw_below_drewN | apply below_drew1) | exact HB.out)⟩⟩
       case rest =>
        clear HC24
        try clear c1
        try clear c2
        try clear c2b0
        try clear c2b1
        try clear p2
        try clear c3
        try clear c5
        try clear c6
        try clear c7
        try clear c8
        try clear c9
        try clear c16
        try clear c19
        try clear c19b0
        try clear c22
        try clear c22b0
        try clear c22b1
        try clear c29
        try clear p2
        obtain ⟨kq, x57_23, rfl, HA, HJ23, HO_5, HB⟩ := hcut
        have hl5_23 := (Kd.R_reads' HO_5.out).1
        rw [hl5_23] at HO_5
        (try simp only [hl5_23])
        cases kq with
        | zero => exact absurd HA.out (by simp [laws_FnExactRulesGet.j1])
        | succ kj23 =>
         have H := HA.out
         clear HA
         simp only [laws_FnExactRulesGet.j1] at H
         by_cases c36 : x57_23 = true
         ·subst c36
          have H1 : (some false) = some r := by rw [if_pos rfl] at H; exact H
          clear H
          have H := H1
          clear H1
          obtain rfl := Option.some.inj H
          go_wp2
          go_ret
          exact ⟨by first | rfl | (simp [errW_none, errW_some] <;> rfl) | (simp [*, errW_none, errW_some] <;> rfl), by repeat (first | (with_reducible first | exact HB.out | apply below_alloc | apply pw_below_drewN | apply below_drew1) | exact HB.out)⟩
         ·replace c36 := Bool.eq_false_iff.mpr c36
          subst c36
          have H1 : ((laws_heldRuleS.f kj23 t111 1).bind fun t118 => (if t118 < 0 then (some false) else (if t118 = t110 then (some true) else (some false)))) = some r := by rw [if_neg (show ¬ (false = true) by decide)] at H; exact H
          clear H
          have H := H1
          clear H1
          replace H := Option.bind_eq_some_iff.mp H
          obtain ⟨t118, A370, H⟩ := H
          replace H : (if t118 < 0 then (some false) else (if t118 = t110 then (some true) else (some false))) = some r := H
          have A37 := Aside0.mk A370
          clear A370
          by_cases c38 : t118 < 0
          ·rw [if_pos c38] at H
           have c38b0 : decide (t118 < 0) = true := decide_eq_true c38
           clear c38
           obtain rfl := Option.some.inj H
           go_wp2_with (first | ((with_reducible refine gate_callee (f := 9) rfl ?_); refine goesL_ (some 60) rfl rfl Tryz.func9 (by kernel_rfl) rfl #[.slice Ao25 t111.length co25, .int .i64 1] rfl (by (try simp only [List.map_toArray, List.map_cons, List.map_nil]); first | done | rfl | (simp only [List.length_drop, List.length_take]; rfl)) ?_; (with_reducible refine (laws_heldRuleS.calls kj23 _ _ t111 1 t118 _ ?side1 ?side2 A37.out).mono ?_); (case side1 => repeat (first | exact (Kd.R_reads' HO_5.out).2.2 | (with_reducible refine Kd.C_alloc ?_ _) | (with_reducible refine Kd.C_drewN ?_ _) | (with_reducible refine Kd.C_drew ?_))); (case side2 => exact (Kd.R_reads' HO_5.out).2.1); rintro e w' ⟨rfl, ⟨nd, rfl⟩⟩; refine ⟨_, rfl, ?_⟩))
           go_ret
           exact ⟨by first | rfl | (simp [errW_none, errW_some] <;> rfl) | (simp [*, errW_none, errW_some] <;> rfl), by repeat (first | (with_reducible first | exact HB.out | apply below_alloc | apply pw_below_drewN | apply below_drew1) | exact HB.out)⟩
          ·rw [if_neg c38] at H
           have c38b0 : decide (t118 < 0) = false := decide_eq_false c38
           clear c38
           by_cases c39 : t118 = t110
           ·rw [if_pos c39] at H
            have c39b0 : (t118 == t110) = true := beq_iff_eq.mpr c39
            have c39b1 : (t118 != t110) = false := bne_eq_false_iff_eq.mpr c39
            clear c39
            obtain rfl := Option.some.inj H
            go_wp2_with (first | ((with_reducible refine gate_callee (f := 9) rfl ?_); refine goesL_ (some 60) rfl rfl Tryz.func9 (by kernel_rfl) rfl #[.slice Ao25 t111.length co25, .int .i64 1] rfl (by (try simp only [List.map_toArray, List.map_cons, List.map_nil]); first | done | rfl | (simp only [List.length_drop, List.length_take]; rfl)) ?_; (with_reducible refine (laws_heldRuleS.calls kj23 _ _ t111 1 t118 _ ?side1 ?side2 A37.out).mono ?_); (case side1 => repeat (first | exact (Kd.R_reads' HO_5.out).2.2 | (with_reducible refine Kd.C_alloc ?_ _) | (with_reducible refine Kd.C_drewN ?_ _) | (with_reducible refine Kd.C_drew ?_))); (case side2 => exact (Kd.R_reads' HO_5.out).2.1); rintro e w' ⟨rfl, ⟨nd, rfl⟩⟩; refine ⟨_, rfl, ?_⟩))
            go_ret
            exact ⟨by first | rfl | (simp [errW_none, errW_some] <;> rfl) | (simp [*, errW_none, errW_some] <;> rfl), by repeat (first | (with_reducible first | exact HB.out | apply below_alloc | apply pw_below_drewN | apply below_drew1) | exact HB.out)⟩
           ·rw [if_neg c39] at H
            have c39b0 : (t118 == t110) = false := beq_eq_false_iff_ne.mpr c39
            have c39b1 : (t118 != t110) = true := bne_iff_ne.mpr c39
            obtain rfl := Option.some.inj H
            go_wp2_with (first | ((with_reducible refine gate_callee (f := 9) rfl ?_); refine goesL_ (some 60) rfl rfl Tryz.func9 (by kernel_rfl) rfl #[.slice Ao25 t111.length co25, .int .i64 1] rfl (by (try simp only [List.map_toArray, List.map_cons, List.map_nil]); first | done | rfl | (simp only [List.length_drop, List.length_take]; rfl)) ?_; (with_reducible refine (laws_heldRuleS.calls kj23 _ _ t111 1 t118 _ ?side1 ?side2 A37.out).mono ?_); (case side1 => repeat (first | exact (Kd.R_reads' HO_5.out).2.2 | (with_reducible refine Kd.C_alloc ?_ _) | (with_reducible refine Kd.C_drewN ?_ _) | (with_reducible refine Kd.C_drew ?_))); (case side2 => exact (Kd.R_reads' HO_5.out).2.1); rintro e w' ⟨rfl, ⟨nd, rfl⟩⟩; refine ⟨_, rfl, ?_⟩))
            go_ret
            exact ⟨by first | rfl | (simp [errW_none, errW_some] <;> rfl) | (simp [*, errW_none, errW_some] <;> rfl), by repeat (first | (with_reducible first | exact HB.out | apply below_alloc | apply pw_below_drewN | apply below_drew1) | exact HB.out)⟩
      ·rw [if_neg c22] at H
       have c22b0 : (t112 == t110) = false := beq_eq_false_iff_ne.mpr c22
       have c22b1 : (t112 != t110) = true := bne_iff_ne.mpr c22
       obtain rfl := Option.some.inj H
       obtain ⟨Ao40, co40, eo40⟩ := Kd.R_slice HO_5.out
       subst eo40
       go_wp2_with (first | ((with_reducible refine gate_callee (f := 8) rfl ?_); refine goesL_ (some 35) rfl rfl Tryz.func8 (by kernel_rfl) rfl #[.slice Ao40 t105.length co40, .int .i64 1] rfl (by (try simp only [List.map_toArray, List.map_cons, List.map_nil]); first | done | rfl | (simp only [List.length_drop, List.length_take]; rfl)) ?_; (with_reducible refine (laws_markRuleS.calls kj4 (fun k_ => some k_ = (.slice Ao40 t105.length co40 : Value).ownBlock) (.slice Ao40 t105.length co40) t105 1 t110 t111 w _ ?side1 ?side2 A17.out).mono ?_); (case side1 => repeat (first | (with_reducible first | exact HB.out | apply below_alloc | apply pw_below_drewN | apply below_drew1) | exact HB.out)); (case side2 => exact Kd.R_tight rfl HO_5.out); rintro e w41 ⟨rfl, hy0, hb, hkp⟩; refine ⟨_, rfl, ?_⟩; have n0_ := Aside0.mk (Kd.R_mono (ok' := fun k_ => some k_ ≠ (.slice Ao40 t105.length co40 : Value).ownBlock) (Kd.R_keptB (HO_3.out) hkp (fun k_ hk_ hs_ => (hk_) hs_)) (fun k_ hk_ => hk_.1)); have n1_ := Aside0.mk (Kd.R_reok rfl hy0 (fun k_ e_ => HO_5.out.1 k_ e_)); have n2_ := Aside0.mk (hb); clear HO_3; clear HO_5; clear HB; have HO_3 := n0_; have HO_5 := n1_; have HB := n2_; clear n0_ n1_ n2_; (try clear hb); (try clear hkp); (try clear hy0)) | ((with_reducible refine gate_callee (f := 9) rfl ?_); refine goesL_ (some 38) rfl rfl Tryz.func9 (by kernel_rfl) rfl #[.slice Ao40 t111.length co40, .int .i64 1] rfl (by (try simp only [List.map_toArray, List.map_cons, List.map_nil]); first | done | (rw [show t111.length = t105.length from (Kd.R_reads' HO_5.out).1.symm] <;> rfl) | rfl | (simp only [List.length_drop, List.length_take]; rfl)) ?_; (with_reducible refine (laws_heldRuleS.calls kj4 _ _ t111 1 t112 _ ?side1 ?side2 A18.out).mono ?_); (case side1 => repeat (first | exact (Kd.R_reads' HO_5.out).2.2 | (with_reducible refine Kd.C_alloc ?_ _) | (with_reducible refine Kd.C_drewN ?_ _) | (with_reducible refine Kd.C_drew ?_))); (case side2 => rw [show t111.length = t105.length from (Kd.R_reads' HO_5.out).1.symm]; exact (Kd.R_reads' HO_5.out).2.1); rintro e w' ⟨rfl, ⟨nd, rfl⟩⟩; refine ⟨_, rfl, ?_⟩))
       go_ret
       exact ⟨by first | rfl | (simp [errW_none, errW_some] <;> rfl) | (simp [*, errW_none, errW_some] <;> rfl), by repeat (first | (with_reducible first | exact HB.out | apply below_alloc | apply pw_below_drewN | apply below_drew1) | exact HB.out)⟩
end Go.Proofs.YtgbdnbbfgcogjaaGreatDoor.Q

namespace Go.Proofs.YtgbdnbbfgcogjaaGreatDoor.Open
open Go.RowKit Go.ChangeShapes Go.WideShapes Go.Deep Go.Proofs.YtgbdnbbfgcogjaaGreatDoorW.PrintWords
/-- What the cells of a type say. -/
def Opens (P : Program) (w : World) (t : TypeId) {α : Type} (d : Kd α) (p : α → Prop) : Prop :=
 ∀ (H : Type) (enc : TypeId × Value → H) (base : Nat) (spare : Nat → Bool) (held : Bool) (fuel : Nat) (cs : List Value) (x : DataW H × List MemPlace),
  DataW.trod enc P w base spare held fuel t cs = some x → ∃ a, d.K w a cs ∧ p a
theorem opens_string {P : Program} {w : World} {t : TypeId} (ht : P.underlying t = some .string) : Opens P w t Kd.string (fun s => s.size ≤ 9223372036854775807) := by
 intro H enc base spare held fuel cs x h
 obtain ⟨s, rfl, _, hs⟩ := DataW.trod_string ht h
 exact ⟨s, rfl, hs⟩
theorem open_arg {H : Type} {enc : TypeId × Value → H} {P : Program} {w : World} {base : Nat} {spare : Nat → Bool} {held : Bool} {t : TypeId} {α : Type} {d : Kd α} {p : α → Prop} {v : Value} {dt : DataW H} {ps : List MemPlace} (he : Opens P w t d p)
  (h : DataW.Trod enc P w base spare held t v dt ps) : ∃ a, d.K w a v.cells.toList ∧ p a := by
 obtain ⟨fuel, hf⟩ := h
 exact he _ _ _ _ _ _ _ _ hf
theorem string_of_cells {w : World} {v : Value} {x : ByteArray} (h : ∃ n, v = .string n) (K : Kd.string.K w x v.cells.toList) : v = .string x := by
 obtain ⟨n, rfl⟩ := h
 have K' : (Value.string n).cells.toList = [.string x] := K
 simp only [Value.cells, List.cons.injEq, and_true] at K'
 exact K'
end Go.Proofs.YtgbdnbbfgcogjaaGreatDoor.Open

namespace Go.Proofs.YtgbdnbbfgcogjaaGreatDoor.Q
open Go.RowKit Go.Proofs.YtgbdnbbfgcogjaaGreatDoorW.PrintWords Go.Proofs.YtgbdnbbfgcogjaaGreatDoor.Open
theorem op9 (w : World) : Opens Tryz.prog w 9 Kd.string (fun x => x.size ≤ 9223372036854775807) := opens_string Tryz.underlying9
end Go.Proofs.YtgbdnbbfgcogjaaGreatDoor.Q

namespace Go.Proofs.YtgbdnbbfgcogjaaGreatDoor.Q
open Go.Proofs.YtgbdnbbfgcogjaaGreatDoor.Open
/-- The pure statement of laws_FnExactRulesGet. -/
def laws_FnExactRulesGet.Pure : Prop := ∀ (x0 : ByteArray), (x0.size ≤ 9223372036854775807) → ∃ k, laws_FnExactRulesGet.f k x0 = some true
end Go.Proofs.YtgbdnbbfgcogjaaGreatDoor.Q

namespace Go.Proofs.YtgbdnbbfgcogjaaGreatDoor.Pure
set_option linter.unusedSimpArgs false
open Go.RowKit Go.Proofs.YtgbdnbbfgcogjaaGreatDoor.Q Go.Proofs.YtgbdnbbfgcogjaaGreatDoorW.PrintWords Go.Proofs.YtgbdnbbfgcogjaaGreatDoorW.PrintLast Go.Proofs.YtgbdnbbfgcogjaaGreatDoorW.PrintMore
theorem eqRuleS_ev {l : List S39} {k : Nat} (hl : l.length ≤ 1048576) (hk : l.length < k) : laws_eqRuleS.f k l l = some true := by
 unfold laws_eqRuleS.f
 rw [if_pos rfl]
 refine true_loop (fun k i => laws_eqRuleS.l0 k l l i) l.length 0 true ?_ ?_ k hk
 ·intro k i hi _
  simp only [laws_eqRuleS.l0, laws_eqRule.f, laws_eqBlock.f, if_true, Option.bind_some]
  rw [if_pos (by omega), if_pos (by omega), if_pos (by omega), w64 (by omega) (by omega)]
  rfl
 ·intro k _
  simp only [laws_eqRuleS.l0]
  rw [if_neg (by omega)]
/-- A rule is valid. -/
def rok (r : S39) : Bool := bok r.f2.f0 r.f2.f1 && (bok r.f3.f0 r.f3.f1 && (decide (0 ≤ r.f4 ∧ r.f4 ≤ r.f5) && (decide (r.f5 ≤ 65535) && (decide (0 ≤ r.f0 ∧ r.f0 ≤ 2) && (decide (r.f1 = 0) || (decide (r.f0 = 2) && decide (0 ≤ r.f1 ∧ r.f1 ≤ 3)))))))
theorem l4Ok_ev (r : S39) {k : Nat} (hk : 41 ≤ k) : spec_l4Ok.f k r.f0 r.f1 r.f2.f0 r.f2.f1 r.f3.f0 r.f3.f1 r.f4 r.f5 = some (rok r) := by
 obtain ⟨k, rfl⟩ : ∃ m, k = m + 1 := ⟨k - 1, by omega⟩
 unfold spec_l4Ok.f rok
 simp only [spec_l4Ok.j0, ok_spec _ _ (show 40 ≤ k + 1 by omega), in_spec, Option.bind_some]
 cases bok r.f2.f0 r.f2.f1
 ·simp
 ·cases bok r.f3.f0 r.f3.f1
  ·simp
  ·by_cases h4 : 0 ≤ r.f4 ∧ r.f4 ≤ r.f5
   ·by_cases h5 : r.f5 ≤ 65535
    ·by_cases h0 : 0 ≤ r.f0 ∧ r.f0 ≤ 2
     ·by_cases h2 : r.f0 = 2
      ·have e : (0 ≤ r.f1 ∧ r.f1 ≤ 3) ↔ (r.f1 = 0 ∨ (0 ≤ r.f1 ∧ r.f1 ≤ 3)) := by omega
       simp [h4, h0, h2, show ¬ r.f5 > 65535 by omega, h5]
       omega
      ·simp [h4, h0, h2, show ¬ r.f5 > 65535 by omega, h5]
       first | rfl | (rw [Bool.eq_iff_iff]; simp)
     ·simp [h4, h0, show ¬ r.f5 > 65535 by omega, h5]
    ·simp [h4, show r.f5 > 65535 by omega, h5]
   ·simp [h4]
theorem right_ev (r : S39) {k : Nat} (hk : 1 ≤ k) : impl_Rule_right.f k r.f0 r.f1 r.f2.f0 r.f2.f1 r.f3.f0 r.f3.f1 r.f4 r.f5 = some (rok r) := by
 obtain ⟨k, rfl⟩ : ∃ m, k = m + 1 := ⟨k - 1, by omega⟩
 unfold impl_Rule_right.f rok
 simp only [impl_Rule_right.j0, ok_impl, in_impl, Option.bind_some]
 cases bok r.f2.f0 r.f2.f1
 ·simp
 ·cases bok r.f3.f0 r.f3.f1
  ·simp
  ·by_cases h4 : 0 ≤ r.f4 ∧ r.f4 ≤ r.f5
   ·by_cases h5 : r.f5 ≤ 65535
    ·by_cases h0 : 0 ≤ r.f0 ∧ r.f0 ≤ 2
     ·by_cases h1 : r.f1 = 0
      ·simp [h4, h0, h1, h5]
      ·by_cases h2 : r.f0 = 2
       ·simp [h4, h0, h1, h2, h5]
       ·simp [h4, h0, h1, h2, h5]
     ·simp [h4, h0, h5]
    ·simp [h4, h5]
   ·simp [h4]
theorem rdR (l : List S39) (i : Nat) : rd_T39 l (i : Int) = l.getD i z39 := rfl
/-- Rules are valid. -/
def rsok (l : List S39) : Bool := if (List.range l.length).all (fun i => rok (l.getD i z39)) then decide ((l.length : Int) ≤ 8) else false
theorem rulesOk_spec {l : List S39} {k : Nat} (hl : l.length ≤ 1048577) (hk : l.length + 50 < k) : spec_RulesOk.f k l = some (rsok l) := by
 unfold spec_RulesOk.f rsok
 refine scan_loop (fun k i => spec_RulesOk.l0 k l i) l.length 50 (fun i => rok (l.getD i z39)) false _ ?_ ?_ ?_ k hk
 ·intro k i hi hk _ hg
  simp only [spec_RulesOk.l0]
  rw [if_pos (by omega), if_pos (by omega), rdR, l4Ok_ev _ (by omega), Option.bind_some, if_pos hg, w64 (by omega) (by omega)]
  rfl
 ·intro k i hi hk _ hg
  simp only [spec_RulesOk.l0]
  rw [if_pos (by omega), if_pos (by omega), rdR, l4Ok_ev _ (by omega), Option.bind_some, if_neg (by rw [hg]; simp)]
 ·intro k _
  simp only [spec_RulesOk.l0]
  rw [if_neg (by omega)]
theorem idxFunc_ev {l : List S39} (hl : l.length ≤ 1048577) : ∃ v, (∀ k, l.length + 50 < k → slices_IndexFunc_Rule.f k l = some v) ∧ ((0 ≤ v) ↔ ¬ ∀ i, i < l.length → rok (l.getD i z39) = true) := by
 have key : ∀ (e i : Nat), l.length - i = e → i ≤ l.length → ∃ v, (∀ k, e + 50 < k → slices_IndexFunc_Rule.l0 k l (l.length : Int) (i : Int) = some v) ∧ ((0 ≤ v) ↔ ¬ ∀ j, i ≤ j → j < l.length → rok (l.getD j z39) = true) := by
  intro e
  induction e with
  | zero =>
   intro i he hi
   refine ⟨-1, fun k hk => ?_, ?_⟩
   ·obtain ⟨k, rfl⟩ : ∃ m, k = m + 1 := ⟨k - 1, by omega⟩
    simp only [slices_IndexFunc_Rule.l0]
    rw [if_neg (by omega)]
   ·constructor
    ·intro h; omega
    ·intro h; exact absurd (fun j h1 h2 => by omega) h
  | succ e ih =>
   intro i he hi
   have ew : wrap64 ((i : Int) + 1) = ((i + 1 : Nat) : Int) := by rw [w64 (by omega) (by omega)]; rfl
   cases hr : rok (l.getD i z39) with
   | true =>
    obtain ⟨v, hv, hi2⟩ := ih (i + 1) (by omega) (by omega)
    refine ⟨v, fun k hk => ?_, ?_⟩
    ·obtain ⟨k, rfl⟩ : ∃ m, k = m + 1 := ⟨k - 1, by omega⟩
     simp only [slices_IndexFunc_Rule.l0, impl_RulesOk_1.f]
     rw [if_pos (by omega), if_pos (by omega), if_pos (by omega), rdR, right_ev _ (by omega), Option.bind_some, Option.bind_some, hr, if_neg (by simp), ew]
     exact hv k (by omega)
    ·rw [hi2]
     constructor
     ·intro h hall; exact h (fun j h1 h2 => hall j (by omega) h2)
     ·intro h hall
      refine h (fun j h1 h2 => ?_)
      by_cases hj : j = i
      ·rw [hj]; exact hr
      ·exact hall j (by omega) h2
   | false =>
    refine ⟨(i : Int), fun k hk => ?_, ?_⟩
    ·obtain ⟨k, rfl⟩ : ∃ m, k = m + 1 := ⟨k - 1, by omega⟩
     simp only [slices_IndexFunc_Rule.l0, impl_RulesOk_1.f]
     rw [if_pos (by omega), if_pos (by omega), if_pos (by omega), rdR, right_ev _ (by omega), Option.bind_some, Option.bind_some, hr, if_pos (by simp)]
    ·constructor
     ·intro _ hall
      have := hall i (Nat.le_refl _) (by omega)
      rw [hr] at this
      exact absurd this (by simp)
     ·intro _; omega
 obtain ⟨v, hv, h2⟩ := key l.length 0 (by omega) (by omega)
 refine ⟨v, fun k hk => hv k hk, ?_⟩
 rw [h2]
 constructor
 ·intro h hall; exact h (fun j _ h2 => hall j h2)
 ·intro h hall; exact h (fun j h2 => hall j (by omega) h2)
theorem rulesOk_impl {l : List S39} {k : Nat} (hl : l.length ≤ 1048577) (hk : l.length + 50 < k) : impl_RulesOk.f k l = some (rsok l) := by
 obtain ⟨v, hv, h2⟩ := idxFunc_ev hl
 unfold impl_RulesOk.f rsok slices_ContainsFunc_Rule.f
 rw [hv k hk]
 by_cases h8 : (l.length : Int) ≤ 8
 ·rw [if_pos h8, Option.bind_some, Option.bind_some]
  congr 1
  by_cases hall : ∀ i, i < l.length → rok (l.getD i z39) = true
  ·rw [if_pos (by rw [List.all_eq_true]; exact fun x hx => hall x (List.mem_range.1 hx))]
   have : ¬ 0 ≤ v := fun h => h2.1 h hall
   simp [h8]
   omega
  ·rw [if_neg (by rw [List.all_eq_true]; exact fun h => hall (fun i hi => h i (List.mem_range.2 hi)))]
   have := h2.2 hall
   simp
   omega
 ·rw [if_neg h8]
  congr 1
  simp [h8]
end Go.Proofs.YtgbdnbbfgcogjaaGreatDoor.Pure

namespace Go.Proofs.YtgbdnbbfgcogjaaGreatDoor.Tx
set_option linter.unusedSimpArgs false
set_option linter.unusedVariables false
open Go.RowKit Go.Proofs.YtgbdnbbfgcogjaaGreatDoor.Q Go.Proofs.YtgbdnbbfgcogjaaGreatDoor.Pure Go.Proofs.YtgbdnbbfgcogjaaGreatDoorW.PrintWords Go.Proofs.YtgbdnbbfgcogjaaGreatDoorW.PrintLast Go.Proofs.YtgbdnbbfgcogjaaGreatDoorW.PrintMore
theorem blockT_len2 {a b : Nat} (ha : a < 4294967296) (hb : b < 1000) : (blockT a b).length ≤ 20 := by
 have h1 := addrT_len ha
 have h2 := dec_len 2 b (by simpa using hb)
 simp only [blockT, List.length_append, List.length_singleton]
 omega
theorem itoa_nat {n : Nat} (h : n < 1000000000) : strconv_Itoa.f (n : Int) = some (bs (dec n)) := by
 unfold strconv_Itoa.f
 rw [if_pos (by omega)]
 unfold Lib.itoa
 rw [if_neg (by omega), Int.toNat_natCast]
 rfl
theorem itoa_int {n : Int} (h0 : 0 ≤ n) (h : n < 1000000000) : strconv_Itoa.f n = some (bs (dec n.toNat)) := by
 have e := itoa_nat (n := n.toNat) (by omega)
 rwa [show ((n.toNat : Nat) : Int) = n by omega] at e
theorem l1Dec_int {n : Int} (h0 : 0 ≤ n) (h : n ≤ 65535) {k : Nat} (hk : 5 ≤ k) : spec_l1Dec.f k n = some (bs (dec n.toNat)) := by
 have e := l1Dec_ev 4 n.toNat (by show n.toNat < 100000; omega) (by omega) k (by omega)
 rwa [show ((n.toNat : Nat) : Int) = n by omega] at e
theorem l1Block_int {a b : Int} (h : bok a b = true) {k : Nat} (hk : 3 ≤ k) : spec_l1Block.f k a b = some (bs (blockT a.toNat b.toNat)) := by
 obtain ⟨h0, h1, h2, h3, _⟩ := bok_iff.1 h
 have e := l1Block_ev (a := a.toNat) (b := b.toNat) (by omega) (by omega) hk
 rwa [show ((a.toNat : Nat) : Int) = a by omega, show ((b.toNat : Nat) : Int) = b by omega] at e
theorem block_int {a b : Int} (h : bok a b = true) {k : Nat} (hk : 40 ≤ k) : impl_BlockText.f k a b = some (bs (blockT a.toNat b.toNat)) := by
 rw [blockText_impl a b hk]
 unfold blockText
 rw [if_pos h]
theorem blockT_int_len {a b : Int} (h : bok a b = true) : (blockT a.toNat b.toNat).length ≤ 20 := by
 obtain ⟨h0, h1, h2, h3, _⟩ := bok_iff.1 h
 exact blockT_len2 (by omega) (by omega)
theorem rok_parts {r : S39} (h : rok r = true) : bok r.f2.f0 r.f2.f1 = true ∧ bok r.f3.f0 r.f3.f1 = true ∧ 0 ≤ r.f4 ∧ r.f4 ≤ r.f5 ∧ r.f5 ≤ 65535 ∧ 0 ≤ r.f0 ∧ r.f0 ≤ 2 ∧ (r.f1 = 0 ∨ (r.f0 = 2 ∧ 0 ≤ r.f1 ∧ r.f1 ≤ 3)) := by
 unfold rok at h
 simp only [Bool.and_eq_true, Bool.or_eq_true, decide_eq_true_eq] at h
 obtain ⟨h1, h2, ⟨h3, h4⟩, h5, ⟨h6, h7⟩, h8⟩ := h
 exact ⟨h1, h2, h3, h4, h5, h6, h7, h8⟩
/-- A rule's first word. -/
def wordT (r : S39) : List UInt8 := if r.f0 = 0 then [100, 114, 111, 112] else if r.f0 = 1 then [112, 97, 115, 115] else [103, 117, 97, 114, 100] ++ dec r.f1.toNat
/-- A rule's line. -/
def lineT (r : S39) : List UInt8 := wordT r ++ [32] ++ blockT r.f2.f0.toNat r.f2.f1.toNat ++ [32] ++ blockT r.f3.f0.toNat r.f3.f1.toNat ++ [32] ++ (dec r.f4.toNat ++ [45] ++ dec r.f5.toNat) ++ [10]
theorem wordT_len {r : S39} (h : rok r = true) : (wordT r).length ≤ 6 := by
 obtain ⟨_, _, _, _, _, _, _, h8⟩ := rok_parts h
 have hd := dec_len 0 r.f1.toNat (by show r.f1.toNat < 10; omega)
 unfold wordT
 split
 ·decide
 ·split
  ·decide
  ·simp only [List.length_append, List.length_cons, List.length_nil]
   omega
theorem word_spec {r : S39} (h : rok r = true) {k : Nat} (hk : 5 ≤ k) : spec_l4Word.f k r.f0 r.f1 r.f2.f0 r.f2.f1 r.f3.f0 r.f3.f1 r.f4 r.f5 = some (bs (wordT r)) := by
 obtain ⟨_, _, _, _, _, h6, h7, h8⟩ := rok_parts h
 have hd := dec_len 0 r.f1.toNat (by show r.f1.toNat < 10; omega)
 unfold spec_l4Word.f wordT
 by_cases h1 : r.f0 = 1
 ·rw [if_pos h1, if_neg (by omega), if_pos h1]
  rfl
 ·rw [if_neg h1]
  by_cases h2 : r.f0 = 2
  ·rw [if_pos h2, if_neg (by omega), if_neg (by omega), l1Dec_int (by omega) (by omega) hk, Option.bind_some, bs_size, if_pos (by omega), show (⟨#[103, 117, 97, 114, 100]⟩ : ByteArray) = bs [103, 117, 97, 114, 100] from rfl, bs_append]
  ·rw [if_neg h2, if_pos (by omega)]
   rfl
theorem word_impl {r : S39} (h : rok r = true) : impl_Rule_word.f r.f0 r.f1 r.f2.f0 r.f2.f1 r.f3.f0 r.f3.f1 r.f4 r.f5 = some (bs (wordT r)) := by
 obtain ⟨_, _, _, _, _, h6, h7, h8⟩ := rok_parts h
 have hd := dec_len 0 r.f1.toNat (by show r.f1.toNat < 10; omega)
 unfold impl_Rule_word.f wordT
 by_cases h0 : r.f0 = 0
 ·rw [if_pos h0, if_pos h0]
  rfl
 ·rw [if_neg h0, if_neg h0]
  by_cases h1 : r.f0 = 1
  ·rw [if_pos h1, if_pos h1]
   rfl
  ·rw [if_neg h1, if_neg h1, itoa_int (by omega) (by omega), Option.bind_some, bs_size, if_pos (by omega), show (⟨#[103, 117, 97, 114, 100]⟩ : ByteArray) = bs [103, 117, 97, 114, 100] from rfl, bs_append]
theorem ports_len {r : S39} (h : rok r = true) : (dec r.f4.toNat).length ≤ 5 ∧ (dec r.f5.toNat).length ≤ 5 := by
 obtain ⟨_, _, h3, h4, h5, _⟩ := rok_parts h
 exact ⟨dec_len 4 _ (by show r.f4.toNat < 100000; omega), dec_len 4 _ (by show r.f5.toNat < 100000; omega)⟩
theorem lineT_len {r : S39} (h : rok r = true) : (lineT r).length ≤ 100 := by
 obtain ⟨h1, h2, _⟩ := rok_parts h
 have a := wordT_len h
 have b := blockT_int_len h1
 have c := blockT_int_len h2
 obtain ⟨d, e⟩ := ports_len h
 unfold lineT
 simp only [List.length_append, List.length_cons, List.length_nil]
 omega
theorem join_sp (x y z t : List UInt8) (h : (x ++ [32] ++ y ++ [32] ++ z ++ [32] ++ t).length ≤ 1000) : strings_Join.f [bs x, bs y, bs z, bs t] ⟨#[32]⟩ = some (bs (x ++ [32] ++ y ++ [32] ++ z ++ [32] ++ t)) := by
 have e : Lib.join ([bs x, bs y, bs z, bs t].map (·.data.toList)) (ByteArray.mk #[32]).data.toList = x ++ [32] ++ y ++ [32] ++ z ++ [32] ++ t := by
  simp [Lib.join, List.intercalate, bs]
 unfold strings_Join.f
 rw [e, if_pos ⟨by simp, by omega⟩]
 rfl
theorem drop_rd (l : List S39) (i : Nat) (h : i < l.length) : l.drop i = l.getD i z39 :: l.drop (i + 1) := by
 rw [List.drop_eq_getElem_cons h, List.getD_eq_getElem?_getD, List.getElem?_eq_getElem h]
 rfl
theorem l4Put_loop {l : List S39} (hr : ∀ i, i < l.length → rok (l.getD i z39) = true) (h8 : l.length ≤ 8) : ∀ (e i : Nat) (acc : List UInt8), l.length - i = e → i ≤ l.length → acc.length + 100 * e ≤ 1000 → ∀ k, e + 50 < k → spec_l4Put.l0 k l (bs acc) (i : Int) = some (bs (acc ++ ((l.drop i).map lineT).flatten)) := by
 intro e
 induction e with
 | zero =>
  intro i acc he hi ha k hk
  obtain ⟨k, rfl⟩ : ∃ m, k = m + 1 := ⟨k - 1, by omega⟩
  simp only [spec_l4Put.l0]
  rw [if_neg (by omega), List.drop_eq_nil_of_le (by omega)]
  simp
 | succ e ih =>
  intro i acc he hi ha k hk
  obtain ⟨k, rfl⟩ : ∃ m, k = m + 1 := ⟨k - 1, by omega⟩
  have hw := hr i (by omega)
  obtain ⟨h1, h2, h3, h4, h5, _⟩ := rok_parts hw
  have la := wordT_len hw
  have lb := blockT_int_len h1
  have lc := blockT_int_len h2
  obtain ⟨ld, le⟩ := ports_len hw
  have e1 := word_spec hw (k := k) (by omega)
  have e2 := l1Block_int h1 (k := k) (by omega)
  have e3 := l1Block_int h2 (k := k) (by omega)
  have e4 := l1Dec_int h3 (by omega) (k := k) (by omega)
  have e5 := l1Dec_int (show 0 ≤ (l.getD i z39).f5 by omega) h5 (k := k) (by omega)
  have x32 : (⟨#[32]⟩ : ByteArray) = bs [32] := rfl
  have x45 : (⟨#[45]⟩ : ByteArray) = bs [45] := rfl
  have x10 : (⟨#[10]⟩ : ByteArray) = bs [10] := rfl
  have hi1 := ih (i + 1) (acc ++ lineT (l.getD i z39)) (by omega) (by omega) (by have := lineT_len hw; rw [List.length_append]; omega) k (by omega)
  simp only [spec_l4Put.l0, rdR]
  rw [if_pos (by omega), if_pos (by omega)]
  simp only [e1, e2, e3, e4, e5, Option.bind_some, x32, x45, x10, bs_append, bs_size]
  repeat rw [if_pos (by (try simp only [List.length_append, List.length_cons, List.length_nil]); omega)]
  rw [w64 (by omega) (by omega), show ((i : Int) + 1) = ((i + 1 : Nat) : Int) by omega, drop_rd l i (by omega), List.map_cons, List.flatten_cons, ← List.append_assoc, ← hi1]
  congr 2
  unfold lineT
  simp only [List.append_assoc]
theorem put_loop {l : List S39} (hr : ∀ i, i < l.length → rok (l.getD i z39) = true) (h8 : l.length ≤ 8) : ∀ (e i : Nat) (acc : List UInt8), l.length - i = e → i ≤ l.length → acc.length + 100 * e ≤ 1000 → ∀ k, e + 50 < k → impl_RulesPut.l0 k (bs acc) l (l.length : Int) (i : Int) = some (bs (acc ++ ((l.drop i).map lineT).flatten)) := by
 intro e
 induction e with
 | zero =>
  intro i acc he hi ha k hk
  obtain ⟨k, rfl⟩ : ∃ m, k = m + 1 := ⟨k - 1, by omega⟩
  simp only [impl_RulesPut.l0]
  rw [if_neg (by omega), List.drop_eq_nil_of_le (by omega)]
  simp
 | succ e ih =>
  intro i acc he hi ha k hk
  obtain ⟨k, rfl⟩ : ∃ m, k = m + 1 := ⟨k - 1, by omega⟩
  have hw := hr i (by omega)
  obtain ⟨h1, h2, h3, h4, h5, _⟩ := rok_parts hw
  have la := wordT_len hw
  have lb := blockT_int_len h1
  have lc := blockT_int_len h2
  obtain ⟨ld, le⟩ := ports_len hw
  have e1 := word_impl hw
  have e2 := block_int h1 (k := k) (by omega)
  have e3 := block_int h2 (k := k) (by omega)
  have e4 := itoa_int h3 (by omega)
  have e5 := itoa_int (show 0 ≤ (l.getD i z39).f5 by omega) (by omega)
  have e6 := join_sp (wordT (l.getD i z39)) (blockT (l.getD i z39).f2.f0.toNat (l.getD i z39).f2.f1.toNat) (blockT (l.getD i z39).f3.f0.toNat (l.getD i z39).f3.f1.toNat) (dec (l.getD i z39).f4.toNat ++ [45] ++ dec (l.getD i z39).f5.toNat) (by simp only [List.length_append, List.length_cons, List.length_nil]; omega)
  have x45 : (⟨#[45]⟩ : ByteArray) = bs [45] := rfl
  have x10 : (⟨#[10]⟩ : ByteArray) = bs [10] := rfl
  have hl := lineT_len hw
  have hi1 := ih (i + 1) (acc ++ lineT (l.getD i z39)) (by omega) (by omega) (by rw [List.length_append]; omega) k (by omega)
  simp only [impl_RulesPut.l0, rdR]
  rw [if_pos (by omega), if_pos (by omega), if_pos (by omega)]
  simp only [e1, e2, e3, e4, e5, Option.bind_some, x45, x10, bs_append, bs_size]
  rw [if_pos (by (try simp only [List.length_append, List.length_cons, List.length_nil]); omega), if_pos (by (try simp only [List.length_append, List.length_cons, List.length_nil]); omega)]
  simp only [e6, Option.bind_some, bs_append, bs_size]
  rw [if_pos (by (try simp only [List.length_append, List.length_cons, List.length_nil]); omega)]
  rw [show Bd.writeF (bs acc) _ = some (bs (acc ++ lineT (l.getD i z39))) from by
   unfold Bd.writeF
   rw [bs_append, bs_size, bs_size, if_pos (by (try simp only [List.length_append, List.length_cons, List.length_nil]); omega)]
   rfl]
  rw [Option.bind_some, w64 (by omega) (by omega), show ((i : Int) + 1) = ((i + 1 : Nat) : Int) by omega, drop_rd l i (by omega), List.map_cons, List.flatten_cons, ← List.append_assoc, ← hi1]
end Go.Proofs.YtgbdnbbfgcogjaaGreatDoor.Tx

namespace Go.Proofs.YtgbdnbbfgcogjaaGreatDoor.Tx
set_option linter.unusedSimpArgs false
set_option linter.unusedVariables false
open Go.RowKit Go.Proofs.YtgbdnbbfgcogjaaGreatDoor.Q Go.Proofs.YtgbdnbbfgcogjaaGreatDoor.Pure
open Go.Proofs.YtgbdnbbfgcogjaaGreatDoor.Sq (tx parts parts_some parts_none lns lns_none lns_some)
/-- A rule's line without its end. -/
def bodyT (r : S39) : List UInt8 := wordT r ++ 32 :: (blockT r.f2.f0.toNat r.f2.f1.toNat ++ 32 :: (blockT r.f3.f0.toNat r.f3.f1.toNat ++ 32 :: (dec r.f4.toNat ++ 45 :: dec r.f5.toNat)))
theorem lineT_eq (r : S39) : lineT r = bodyT r ++ [10] := by
 unfold lineT bodyT
 simp
theorem word_no {c : UInt8} (hc : c < 48) (r : S39) (hd : ∀ n, c ∉ dec n) : c ∉ wordT r := by
 unfold wordT
 have hn : ∀ d : UInt8, 97 ≤ d → c ≠ d := fun d h e => by subst e; exact absurd (Nat.lt_of_lt_of_le (UInt8.lt_iff_toNat_lt.1 hc) (Nat.le_trans (by decide) (UInt8.le_iff_toNat_le.1 h))) (Nat.lt_irrefl _)
 split
 ·simp only [List.mem_cons, List.not_mem_nil, or_false, not_or]
  exact ⟨hn _ (by decide), hn _ (by decide), hn _ (by decide), hn _ (by decide)⟩
 ·split
  ·simp only [List.mem_cons, List.not_mem_nil, or_false, not_or]
   exact ⟨hn _ (by decide), hn _ (by decide), hn _ (by decide), hn _ (by decide)⟩
  ·rw [List.mem_append, not_or]
   refine ⟨?_, hd _⟩
   simp only [List.mem_cons, List.not_mem_nil, or_false, not_or]
   exact ⟨hn _ (by decide), hn _ (by decide), hn _ (by decide), hn _ (by decide), hn _ (by decide)⟩
theorem block_no {c : UInt8} (h46 : c ≠ 46) (h47 : c ≠ 47) (hd : ∀ n, c ∉ dec n) (a b : Nat) : c ∉ blockT a b := by
 unfold blockT addrT
 simp only [List.mem_append, List.mem_singleton, not_or]
 exact ⟨⟨⟨⟨⟨⟨⟨⟨hd _, h46⟩, hd _⟩, h46⟩, hd _⟩, h46⟩, hd _⟩, h47⟩, hd _⟩
theorem body_no10 (r : S39) : (10 : UInt8) ∉ bodyT r := by
 have hd : ∀ n, (10 : UInt8) ∉ dec n := fun n => dec_no (by decide) n
 unfold bodyT
 simp only [List.mem_append, List.mem_cons, not_or]
 exact ⟨word_no (by decide) r hd, by decide, block_no (by decide) (by decide) hd _ _, by decide, block_no (by decide) (by decide) hd _ _, by decide, hd _, by decide, hd _⟩
theorem body_words (r : S39) : parts 32 (bodyT r) = [wordT r, blockT r.f2.f0.toNat r.f2.f1.toNat, blockT r.f3.f0.toNat r.f3.f1.toNat, dec r.f4.toNat ++ 45 :: dec r.f5.toNat] := by
 have hd : ∀ n, (32 : UInt8) ∉ dec n := fun n => dec_no (by decide) n
 unfold bodyT
 rw [parts_some _ (word_no (by decide) r hd), parts_some _ (block_no (by decide) (by decide) hd _ _), parts_some _ (block_no (by decide) (by decide) hd _ _), parts_none]
 simp only [List.mem_append, List.mem_cons, not_or]
 exact ⟨hd _, by decide, hd _⟩
theorem lns_lines : ∀ l : List S39, lns 10 (l.map lineT).flatten = l.map lineT
 | [] => rfl
 | r :: l => by
  rw [List.map_cons, List.flatten_cons, lineT_eq, List.append_assoc, List.singleton_append, lns_some _ (body_no10 r), lns_lines l]
theorem parts_lines : ∀ l : List S39, parts 10 (l.map lineT).flatten = l.map bodyT ++ [[]]
 | [] => rfl
 | r :: l => by
  rw [List.map_cons, List.flatten_cons, lineT_eq, List.append_assoc, List.singleton_append, parts_some _ (body_no10 r), parts_lines l]
  rfl
end Go.Proofs.YtgbdnbbfgcogjaaGreatDoor.Tx

namespace Go.Proofs.YtgbdnbbfgcogjaaGreatDoor.Tx
set_option linter.unusedSimpArgs false
set_option linter.unusedVariables false
open Go.RowKit Go.Proofs.YtgbdnbbfgcogjaaGreatDoor.Q Go.Proofs.YtgbdnbbfgcogjaaGreatDoor.Pure Go.Proofs.YtgbdnbbfgcogjaaGreatDoorW.PrintWords Go.Proofs.YtgbdnbbfgcogjaaGreatDoorW.PrintLast Go.Proofs.YtgbdnbbfgcogjaaGreatDoorW.PrintMore
open Go.Proofs.YtgbdnbbfgcogjaaGreatDoor.Sq (tx tx_size tx_data tx_of tx_extract cut1 cut_eval atoiF atoiV parts)
theorem tx_toList (l : List UInt8) : (tx l).toList = l := by rw [ByteArray.toList_eq, tx_data]
theorem atoiF_dec {n : Int} (h0 : 0 ≤ n) (h : n ≤ 65535) : atoiF (tx (dec n.toNat)) = some (n, true) := by
 have hl := dec_len 4 n.toNat (by show n.toNat < 100000; omega)
 unfold atoiF atoiV
 rw [tx_size, if_pos (by omega), tx_data, atoi_dec (by omega)]
 simp only [Option.some.injEq, Prod.mk.injEq, and_true]
 omega
theorem bimpl_int {a b : Int} (h : bok a b = true) {k : Nat} (hk : 300 ≤ k) : impl_BlockGet.f k (tx (blockT a.toNat b.toNat)) = some (a, b, true) := by
 obtain ⟨h0, h1, h2, h3, _⟩ := bok_iff.1 h
 obtain ⟨m, rfl⟩ := Int.eq_ofNat_of_zero_le h0
 obtain ⟨n, rfl⟩ := Int.eq_ofNat_of_zero_le h2
 exact bimpl_yes h hk
theorem ruleGet_tail {r : S39} (h : rok r = true) (w0 : ByteArray) (a b c d e f g i : Int) : impl_ruleGet.j0 400 [w0, tx (blockT r.f2.f0.toNat r.f2.f1.toNat), tx (blockT r.f3.f0.toNat r.f3.f1.toNat), tx (dec r.f4.toNat ++ 45 :: dec r.f5.toNat)] a b c d e f g i = some (a, b, r.f2.f0, r.f2.f1, r.f3.f0, r.f3.f1, r.f4, r.f5) := by
 obtain ⟨h1, h2, h3, h4, h5, _⟩ := rok_parts h
 obtain ⟨l4, l5⟩ := ports_len h
 have e1 := bimpl_int h1 (k := 399) (by omega)
 have e2 := bimpl_int h2 (k := 399) (by omega)
 have e3 := cut_eval 45 (tx (dec r.f4.toNat ++ 45 :: dec r.f5.toNat)) (by rw [tx_size, List.length_append, List.length_cons]; omega)
 rw [tx_data, cut_of (dec_no (by decide) _)] at e3
 have e4 := atoiF_dec h3 (by omega)
 have e5 := atoiF_dec (show 0 ≤ r.f5 by omega) h5
 show impl_ruleGet.j0 (399 + 1) _ a b c d e f g i = _
 simp only [impl_ruleGet.j0]
 rw [if_pos (by simp), show ∀ w1 w2 w3 : ByteArray, rdOf ByteArray.empty [w0, w1, w2, w3] 1 = w1 from fun _ _ _ => rfl, e1, Option.bind_some, if_pos (by simp), show ∀ w1 w2 w3 : ByteArray, rdOf ByteArray.empty [w0, w1, w2, w3] 2 = w2 from fun _ _ _ => rfl, e2, Option.bind_some, if_pos (by simp), show ∀ w1 w2 w3 : ByteArray, rdOf ByteArray.empty [w0, w1, w2, w3] 3 = w3 from fun _ _ _ => rfl, e3, Option.bind_some]
 simp only
 rw [e4, Option.bind_some, e5, Option.bind_some]
theorem trim_guard (d : List UInt8) (hd : d.length ≤ 100) : strings_TrimPrefix.f (tx ([103, 117, 97, 114, 100] ++ d)) ⟨#[103, 117, 97, 114, 100]⟩ = some (tx d) := by
 have h5 : ((⟨#[103, 117, 97, 114, 100]⟩ : ByteArray).size : Int) = 5 := rfl
 have hl : (⟨#[103, 117, 97, 114, 100]⟩ : ByteArray).toList = [103, 117, 97, 114, 100] := by rw [ByteArray.toList_eq]
 have hs : ([103, 117, 97, 114, 100] ++ d : List UInt8).length = 5 + d.length := by rw [List.length_append]; rfl
 unfold strings_TrimPrefix.f stringslite_TrimPrefix.f stringslite_HasPrefix.f
 rw [h5, tx_size, hs, hl, if_pos (by omega), if_pos (by omega), if_pos (by omega), Option.bind_some]
 have hx : ((tx ([103, 117, 97, 114, 100] ++ d)).extract 0 ((5 : Int)).toNat).toList = [103, 117, 97, 114, 100] := by
  rw [tx_extract, tx_toList]
  rfl
 rw [hx, if_pos (by simp), if_pos (by omega), if_pos (by omega), Option.bind_some, tx_extract, show (5 : Int).toNat = 5 from rfl, List.take_of_length_le (Nat.le_of_eq hs)]
 rfl
theorem ruleGet_words {r : S39} (h : rok r = true) : impl_ruleGet.f 400 ((parts 32 (bodyT r)).map tx) = some (r.f0, r.f1, r.f2.f0, r.f2.f1, r.f3.f0, r.f3.f1, r.f4, r.f5) := by
 obtain ⟨_, _, _, _, _, h6, h7, h8⟩ := rok_parts h
 have hd := dec_len 0 r.f1.toNat (by show r.f1.toNat < 10; omega)
 rw [body_words]
 simp only [List.map_cons, List.map_nil]
 unfold impl_ruleGet.f
 rw [if_pos (by simp), show ∀ w0 w1 w2 w3 : ByteArray, rdOf ByteArray.empty [w0, w1, w2, w3] 0 = w0 from fun _ _ _ _ => rfl, tx_toList]
 by_cases h0 : r.f0 = 0
 ·have hw : wordT r = [100, 114, 111, 112] := by unfold wordT; rw [if_pos h0]
  rw [if_pos hw, ruleGet_tail h, h0, show r.f1 = 0 by omega]
 ·by_cases h1 : r.f0 = 1
  ·have hw : wordT r = [112, 97, 115, 115] := by unfold wordT; rw [if_neg h0, if_pos h1]
   rw [if_neg (by rw [hw]; decide), if_pos hw, ruleGet_tail h, h1, show r.f1 = 0 by omega]
  ·have hw : wordT r = [103, 117, 97, 114, 100] ++ dec r.f1.toNat := by unfold wordT; rw [if_neg h0, if_neg h1]
   rw [if_neg (by rw [hw]; simp), if_neg (by rw [hw]; simp), hw, trim_guard _ (by omega), Option.bind_some, atoiF_dec (by omega) (by omega), Option.bind_some, ruleGet_tail h, show r.f0 = 2 by omega]
end Go.Proofs.YtgbdnbbfgcogjaaGreatDoor.Tx

namespace Go.Proofs.YtgbdnbbfgcogjaaGreatDoor.Tx
set_option linter.unusedSimpArgs false
set_option linter.unusedVariables false
open Go.RowKit Go.Proofs.YtgbdnbbfgcogjaaGreatDoor.Q Go.Proofs.YtgbdnbbfgcogjaaGreatDoor.Pure Go.Proofs.YtgbdnbbfgcogjaaGreatDoorW.PrintWords Go.Proofs.YtgbdnbbfgcogjaaGreatDoorW.PrintLast Go.Proofs.YtgbdnbbfgcogjaaGreatDoorW.PrintMore
open Go.Proofs.YtgbdnbbfgcogjaaGreatDoor.Sq (tx tx_size tx_data tx_of tx_extract parts parts_some parts_none)
theorem bspec_int {a b : Int} (h : bok a b = true) {k : Nat} (hk : 300 ≤ k) : spec_BlockGet.f k (tx (blockT a.toNat b.toNat)) = some (a, b, true) := by
 obtain ⟨h0, h1, h2, h3, _⟩ := bok_iff.1 h
 obtain ⟨m, rfl⟩ := Int.eq_ofNat_of_zero_le h0
 obtain ⟨n, rfl⟩ := Int.eq_ofNat_of_zero_le h2
 exact bspec_yes h hk
theorem num_int {n : Int} (h0 : 0 ≤ n) (h : n ≤ 65535) {k : Nat} (hk : 20 ≤ k) : spec_l1Num.f k (tx (dec n.toNat)) = some n := by
 rw [num_ev _ hk, num_dec (by omega)]
 congr 1
 omega
theorem body_len {r : S39} (h : rok r = true) : (bodyT r).length ≤ 100 := by
 have e := lineT_len h
 rw [lineT_eq, List.length_append] at e
 omega
theorem len4 (w0 w1 w2 w3 : ByteArray) : ((([w0, w1, w2, w3] : List ByteArray).length : Nat) : Int) = 4 := rfl
theorem len2 (w0 w1 : ByteArray) : ((([w0, w1] : List ByteArray).length : Nat) : Int) = 2 := rfl
theorem at0 (w0 w1 w2 w3 : ByteArray) : rdOf ByteArray.empty [w0, w1, w2, w3] 0 = w0 := rfl
theorem at1 (w0 w1 w2 w3 : ByteArray) : rdOf ByteArray.empty [w0, w1, w2, w3] 1 = w1 := rfl
theorem at2 (w0 w1 w2 w3 : ByteArray) : rdOf ByteArray.empty [w0, w1, w2, w3] 2 = w2 := rfl
theorem at3 (w0 w1 w2 w3 : ByteArray) : rdOf ByteArray.empty [w0, w1, w2, w3] 3 = w3 := rfl
theorem pat0 (w0 w1 : ByteArray) : rdOf ByteArray.empty [w0, w1] 0 = w0 := rfl
theorem pat1 (w0 w1 : ByteArray) : rdOf ByteArray.empty [w0, w1] 1 = w1 := rfl
/-- A line of four words. -/
theorem line_four {k : Nat} {x w0 w1 w2 w3 : ByteArray} {a1 b1 a2 b2 : Int} {c1 c2 : Bool} {ps : List ByteArray} (hc : spec_l1Cut.f k x 32 = some [w0, w1, w2, w3]) (h1 : spec_BlockGet.f k w1 = some (a1, b1, c1)) (h2 : spec_BlockGet.f k w2 = some (a2, b2, c2)) (hp : spec_l1Cut.f k w3 45 = some ps) :
  spec_l4Line.f k x = if c1 = true then (if c2 = true then spec_l4Line.j0 k [w0, w1, w2, w3] ps ((ps.length : Int) != 2) a1 b1 a2 b2 else spec_l4Line.j0 k [w0, w1, w2, w3] ps true a1 b1 a2 b2) else spec_l4Line.j0 k [w0, w1, w2, w3] ps true a1 b1 a2 b2 := by
 unfold spec_l4Line.f
 rw [hc, Option.bind_some, len4, at1, at2, at3, if_pos rfl, if_pos (by omega), h1, Option.bind_some, if_pos (by omega), h2, Option.bind_some, if_pos (by omega), hp, Option.bind_some]
/-- What it makes of the first word and two numbers. -/
def lineV (w0 : ByteArray) (n : Int) (a1 b1 a2 b2 p q : Int) : Int × Int × Int × Int × Int × Int × Int × Int × Bool :=
 if w0.toList = [112, 97, 115, 115] then (1, 0, a1, b1, a2, b2, p, q, true) else if (w0.size : Int) > 5 then (if (w0.extract 0 5).toList = [103, 117, 97, 114, 100] then (2, n, a1, b1, a2, b2, p, q, true) else (0, 0, a1, b1, a2, b2, p, q, true)) else (0, 0, a1, b1, a2, b2, p, q, true)
theorem line_j0 {k : Nat} {w0 w1 w2 w3 u v : ByteArray} {p q n : Int} (a1 b1 a2 b2 : Int) (hp : spec_l1Num.f k u = some p) (hq : spec_l1Num.f k v = some q) (hn : spec_l1Num.f k (w0.extract 5 w0.size) = some n) :
  spec_l4Line.j0 (k + 1) [w0, w1, w2, w3] [u, v] false a1 b1 a2 b2 = some (lineV w0 n a1 b1 a2 b2 p q) := by
 simp only [spec_l4Line.j0]
 rw [if_neg (by simp), len2, len4, at0, pat0, pat1, if_pos (by omega), hp, Option.bind_some, if_pos (by omega), hq, Option.bind_some, if_pos (by omega), hn, Option.bind_some]
 unfold lineV
 by_cases h1 : w0.toList = [112, 97, 115, 115]
 ·rw [if_pos h1, if_pos h1]
 ·rw [if_neg h1, if_neg h1]
  by_cases h2 : (w0.size : Int) > 5
  ·rw [if_pos h2, if_pos h2, if_pos (by omega), if_pos (by omega)]
   by_cases h3 : (w0.extract 0 5).toList = [103, 117, 97, 114, 100]
   ·rw [if_pos h3, if_pos h3]
   ·rw [if_neg h3, if_neg h3]
  ·rw [if_neg h2, if_neg h2]
theorem line_off {k : Nat} (ws ps : List ByteArray) (a1 b1 a2 b2 : Int) : spec_l4Line.j0 (k + 1) ws ps true a1 b1 a2 b2 = some (0, 0, 0, 0, 0, 0, 0, 0, false) := by
 simp only [spec_l4Line.j0]
 rw [if_pos trivial]
theorem lineV_ok {r : S39} (h : rok r = true) {n : Int} (hn : r.f0 = 2 → n = r.f1) : lineV (tx (wordT r)) n r.f2.f0 r.f2.f1 r.f3.f0 r.f3.f1 r.f4 r.f5 = (r.f0, r.f1, r.f2.f0, r.f2.f1, r.f3.f0, r.f3.f1, r.f4, r.f5, true) := by
 obtain ⟨h1, h2, h3, h4, h5, h6, h7, h8⟩ := rok_parts h
 have hdp := dec_pos r.f1.toNat
 unfold lineV
 rw [tx_toList, tx_size]
 by_cases h0 : r.f0 = 0
 ·have hw : wordT r = [100, 114, 111, 112] := by unfold wordT; rw [if_pos h0]
  rw [hw, if_neg (by decide), if_neg (by decide), h0, show r.f1 = 0 by omega]
 ·by_cases hf1 : r.f0 = 1
  ·have hw : wordT r = [112, 97, 115, 115] := by unfold wordT; rw [if_neg h0, if_pos hf1]
   rw [hw, if_pos rfl, hf1, show r.f1 = 0 by omega]
  ·have hw : wordT r = [103, 117, 97, 114, 100] ++ dec r.f1.toNat := by unfold wordT; rw [if_neg h0, if_neg hf1]
   have hs : (wordT r).length = 5 + (dec r.f1.toNat).length := by rw [hw, List.length_append]; rfl
   have hx : ((tx (wordT r)).extract 0 5).toList = [103, 117, 97, 114, 100] := by
    rw [tx_extract, tx_toList, hw]
    rfl
   rw [hx, if_neg (by rw [hw]; simp), if_pos (by omega), if_pos rfl, hn (by omega), show r.f0 = 2 by omega]
theorem guard_cut (r : S39) (h2 : r.f0 = 2) : (tx (wordT r)).extract 5 (tx (wordT r)).size = tx (dec r.f1.toNat) := by
 have hw : wordT r = [103, 117, 97, 114, 100] ++ dec r.f1.toNat := by unfold wordT; rw [if_neg (by omega), if_neg (by omega)]
 rw [tx_size, tx_extract, List.take_length, hw]
 rfl
theorem line_ok {r : S39} (h : rok r = true) {k : Nat} (hk : 400 ≤ k) : spec_l4Line.f k (tx (bodyT r)) = some (r.f0, r.f1, r.f2.f0, r.f2.f1, r.f3.f0, r.f3.f1, r.f4, r.f5, true) := by
 obtain ⟨k, rfl⟩ : ∃ j, k = j + 1 := ⟨k - 1, by omega⟩
 obtain ⟨h1, h2, h3, h4, h5, h6, h7, h8⟩ := rok_parts h
 obtain ⟨l4, l5⟩ := ports_len h
 have hl := body_len h
 have hc : spec_l1Cut.f (k + 1) (tx (bodyT r)) 32 = some ((parts 32 (bodyT r)).map tx) := cut_ev 32 _ (by omega) (by omega)
 have hp : spec_l1Cut.f (k + 1) (tx (dec r.f4.toNat ++ 45 :: dec r.f5.toNat)) 45 = some ((parts 45 (dec r.f4.toNat ++ 45 :: dec r.f5.toNat)).map tx) := cut_ev 45 _ (by rw [List.length_append, List.length_cons]; omega) (by rw [List.length_append, List.length_cons]; omega)
 rw [parts_some _ (dec_no (by decide) _), parts_none (dec_no (by decide) _)] at hp
 rw [body_words] at hc
 obtain ⟨n, hn⟩ : ∃ n, spec_l1Num.f k ((tx (wordT r)).extract 5 (tx (wordT r)).size) = some n := by
  rw [tx_size, tx_extract]
  exact ⟨_, num_ev _ (by omega)⟩
 have hn2 : r.f0 = 2 → n = r.f1 := fun h0 => by
  rw [guard_cut r h0, num_int (by omega) (by omega) (by omega)] at hn
  exact (Option.some.inj hn).symm
 rw [line_four hc (bspec_int h1 (by omega)) (bspec_int h2 (by omega)) hp, if_pos rfl, if_pos rfl]
 exact (line_j0 _ _ _ _ (num_int h3 (by omega) (by omega)) (num_int (by omega) h5 (by omega)) hn).trans (congrArg some (lineV_ok h hn2))
/-- Every line gives something. -/
theorem bspec_total (l : List UInt8) (hl : l.length ≤ 1048576) {k : Nat} (hk : 2000000 ≤ k) : ∃ a b c, spec_BlockGet.f k (tx l) = some (a, b, c) := by
 rcases block_or l with ⟨a, b, hab, rfl⟩ | hn
 ·exact ⟨_, _, _, bspec_yes hab (by omega)⟩
 ·exact ⟨_, _, _, bspec_no hl hn hk⟩
theorem parts_len_le (c : UInt8) : ∀ (l : List UInt8), ∀ p ∈ parts c l, p.length ≤ l.length
 | [], p, h => by
  simp [parts] at h
  simp [h]
 | b :: r, p, h => by
  have ih := parts_len_le c r
  unfold parts at h
  split at h
  ·rcases List.mem_cons.1 h with rfl | h
   ·simp
   ·have := ih p h; simp; omega
  ·cases hp : parts c r with
   | nil => rw [hp] at h; simp at h; subst h; simp
   | cons q qs =>
    rw [hp] at h ih
    rcases List.mem_cons.1 h with rfl | h
    ·have := ih q List.mem_cons_self; simp; omega
    ·have := ih p (List.mem_cons_of_mem _ h); simp; omega
theorem line_total (l : List UInt8) (hl : l.length ≤ 1048576) {k : Nat} (hk : 2000002 ≤ k) : ∃ a b c d e f g h o, spec_l4Line.f k (tx l) = some (a, b, c, d, e, f, g, h, o) := by
 obtain ⟨k, rfl⟩ : ∃ j, k = j + 1 := ⟨k - 1, by omega⟩
 have hc : spec_l1Cut.f (k + 1) (tx l) 32 = some ((parts 32 l).map tx) := cut_ev 32 _ (by omega) (by omega)
 have hle := parts_len_le 32 l
 generalize parts 32 l = ws at hc hle
 by_cases h4 : ws.length = 4
 ·obtain ⟨w0, w1, w2, w3, rfl⟩ : ∃ w0 w1 w2 w3, ws = [w0, w1, w2, w3] := by
   match ws, h4 with
   | [w0, w1, w2, w3], _ => exact ⟨w0, w1, w2, w3, rfl⟩
  have e0 := hle w0 (by simp)
  have e1 := hle w1 (by simp)
  have e2 := hle w2 (by simp)
  have e3 := hle w3 (by simp)
  obtain ⟨a1, b1, c1, h1⟩ := bspec_total w1 (by omega) (k := k + 1) (by omega)
  obtain ⟨a2, b2, c2, h2⟩ := bspec_total w2 (by omega) (k := k + 1) (by omega)
  have hp : spec_l1Cut.f (k + 1) (tx w3) 45 = some ((parts 45 w3).map tx) := cut_ev 45 _ (by omega) (by omega)
  generalize parts 45 w3 = ps at hp
  have hf := line_four hc h1 h2 hp
  rw [hf]
  cases c1
  ·rw [if_neg (by simp), line_off]
   exact ⟨_, _, _, _, _, _, _, _, _, rfl⟩
  ·cases c2
   ·rw [if_pos rfl, if_neg (by simp), line_off]
    exact ⟨_, _, _, _, _, _, _, _, _, rfl⟩
   ·rw [if_pos rfl, if_pos rfl, List.length_map]
    by_cases h2 : ps.length = 2
    ·obtain ⟨u, v, rfl⟩ : ∃ u v, ps = [u, v] := by
      match ps, h2 with
      | [u, v], _ => exact ⟨u, v, rfl⟩
     obtain ⟨n, hn⟩ : ∃ n, spec_l1Num.f k ((tx w0).extract 5 (tx w0).size) = some n := by
      rw [tx_size, tx_extract]
      exact ⟨_, num_ev _ (by omega)⟩
     exact ⟨_, _, _, _, _, _, _, _, _, line_j0 (w1 := tx w1) (w2 := tx w2) (w3 := tx w3) a1 b1 a2 b2 (num_ev u (by omega)) (num_ev v (by omega)) hn⟩
    ·rw [show ((ps.length : Int) != 2) = true from bne_iff_ne.2 (by omega), line_off]
     exact ⟨_, _, _, _, _, _, _, _, _, rfl⟩
 ·unfold spec_l4Line.f
  rw [hc, Option.bind_some, List.length_map, if_neg (by omega)]
  exact ⟨_, _, _, _, _, _, _, _, _, rfl⟩
end Go.Proofs.YtgbdnbbfgcogjaaGreatDoor.Tx

namespace Go.Proofs.YtgbdnbbfgcogjaaGreatDoor.Tx
set_option linter.unusedSimpArgs false
set_option linter.unusedVariables false
open Go.RowKit Go.Proofs.YtgbdnbbfgcogjaaGreatDoor.Q Go.Proofs.YtgbdnbbfgcogjaaGreatDoor.Pure Go.Proofs.YtgbdnbbfgcogjaaGreatDoorW.PrintWords Go.Proofs.YtgbdnbbfgcogjaaGreatDoorW.PrintLast Go.Proofs.YtgbdnbbfgcogjaaGreatDoorW.PrintMore
open Go.Proofs.YtgbdnbbfgcogjaaGreatDoor.Sq (tx tx_size tx_data tx_of tx_extract parts parts_some parts_none parts_len lns trimL wordsL ruleV foldG foldG_len rulesGetF)
/-- The text of some rules. -/
def outT (l : List S39) : List UInt8 := (l.map lineT).flatten
theorem rsok_parts {l : List S39} (h : rsok l = true) : (∀ i, i < l.length → rok (l.getD i z39) = true) ∧ l.length ≤ 8 := by
 unfold rsok at h
 split at h
 ·rename_i ha
  rw [List.all_eq_true] at ha
  exact ⟨fun i hi => ha i (List.mem_range.2 hi), by have := of_decide_eq_true h; omega⟩
 ·cases h
theorem rsok_all {l : List S39} (h : rsok l = true) : ∀ r ∈ l, rok r = true := by
 intro r hr
 obtain ⟨i, hi, e⟩ := List.mem_iff_getElem.1 hr
 have := (rsok_parts h).1 i hi
 rwa [List.getD_eq_getElem?_getD, List.getElem?_eq_getElem hi, Option.getD_some, e] at this
theorem outT_len {l : List S39} (h : rsok l = true) : (outT l).length ≤ 100 * l.length := by
 have ha := rsok_all h
 clear h
 induction l with
 | nil => simp [outT]
 | cons r l ih =>
  have h1 := lineT_len (ha r List.mem_cons_self)
  have h2 := ih fun q hq => ha q (List.mem_cons_of_mem _ hq)
  unfold outT at h2 ⊢
  rw [List.map_cons, List.flatten_cons, List.length_append, List.length_cons]
  omega
theorem l4Put_ev {l : List S39} (h : rsok l = true) {k : Nat} (hk : l.length + 100 < k) : spec_l4Put.f k l = some (tx (outT l)) := by
 obtain ⟨hr, h8⟩ := rsok_parts h
 have e := l4Put_loop hr h8 l.length 0 [] rfl (by omega) (by simp; omega) k (by omega)
 rw [List.nil_append, List.drop_zero] at e
 exact e
theorem rulesPut_impl {l : List S39} {k : Nat} (hl : l.length ≤ 1048577) (hk : l.length + 100 < k) : impl_RulesPut.f k l = some (if rsok l = true then tx (outT l) else tx []) := by
 unfold impl_RulesPut.f
 rw [rulesOk_impl hl (by omega), Option.bind_some]
 by_cases h : rsok l = true
 ·obtain ⟨hr, h8⟩ := rsok_parts h
  have e := put_loop hr h8 l.length 0 [] rfl (by omega) (by simp; omega) k (by omega)
  rw [List.nil_append, List.drop_zero] at e
  rw [if_pos h, if_pos h]
  exact e
 ·rw [if_neg h, if_neg h]
  rfl
theorem rsok_nil : rsok ([] : List S39) = true := by decide
theorem trim_line (x : List UInt8) : trimL (tx (x ++ [10])) = x := by
 unfold trimL Lib.trimSuffix Lib.hasSuffix
 rw [tx_data, if_pos (by simp)]
 simp
theorem step_line {r : S39} (h : rok r = true) (acc : List S39) : Sq.stepG acc (tx (lineT r)) = some (acc ++ [r]) := by
 have hw : wordsL (tx (lineT r)) = (parts 32 (bodyT r)).map tx := by
  unfold wordsL
  rw [lineT_eq, trim_line]
 have hv : ruleV ((parts 32 (bodyT r)).map tx) = r := by
  unfold ruleV
  rw [ruleGet_words h]
 unfold Sq.stepG
 rw [hw, hv, if_pos (by rw [body_words]; rfl)]
theorem fold_lines : ∀ (l acc : List S39), (∀ r ∈ l, rok r = true) → foldG acc ((l.map lineT).map tx) = some (acc ++ l)
 | [], acc, _ => by rw [List.append_nil]; rfl
 | r :: l, acc, h => by
  show ((Sq.stepG acc (tx (lineT r))).bind fun m => foldG m ((l.map lineT).map tx)) = _
  rw [step_line (h r List.mem_cons_self), Option.bind_some, fold_lines l _ fun q hq => h q (List.mem_cons_of_mem _ hq), List.append_assoc]
  rfl
theorem lns_le (c : UInt8) : ∀ l : List UInt8, (lns c l).length ≤ l.length
 | [] => Nat.le_refl _
 | b :: r => by
  have ih := lns_le c r
  unfold lns
  split
  ·simp; omega
  ·cases hp : lns c r with
   | nil => simp
   | cons p ps => rw [hp] at ih; simp at ih ⊢; omega
theorem rulesGet_impl_yes {l : List S39} (h : rsok l = true) {k : Nat} (hk : 200 ≤ k) : impl_RulesGet.f k (tx (outT l)) = some (l, true) := by
 have hl := outT_len h
 have h8 := (rsok_parts h).2
 unfold impl_RulesGet.f rulesGetF
 rw [tx_size, if_pos (by omega), tx_data]
 unfold outT
 rw [lns_lines, fold_lines l [] (rsok_all h), List.nil_append]
 simp only
 rw [rulesPut_impl (by omega) (by omega), if_pos h, Option.bind_some]
 exact if_pos rfl
theorem rulesGet_impl_no {x : List UInt8} (hx : x.length ≤ 1048576) (hn : ∀ l, rsok l = true → x ≠ outT l) {k : Nat} (hk : 1100000 ≤ k) : impl_RulesGet.f k (tx x) = some ([], false) := by
 unfold impl_RulesGet.f rulesGetF
 rw [tx_size, if_pos hx, tx_data]
 rcases hf : foldG [] ((lns 10 x).map tx) with _ | l
 ·rfl
 ·simp only
  have hl := foldG_len _ _ _ hf
  have hle := lns_le 10 x
  rw [List.length_nil, List.length_map] at hl
  rw [rulesPut_impl (by omega) (by omega), Option.bind_some]
  apply if_neg
  by_cases hr : rsok l = true
  ·rw [if_pos hr]
   intro e
   exact hn l hr (tx_inj e).symm
  ·rw [if_neg hr]
   intro e
   exact hn [] rsok_nil (tx_inj e).symm
theorem wnat2 {i : Nat} (h : i ≤ 10000000) : wrap64 ((i : Int) + 1) = ((i + 1 : Nat) : Int) := by rw [w64 (by omega) (by omega)]; rfl
theorem rd_tx (ls : List (List UInt8)) (i : Nat) (p : List UInt8) (h : ls[i]? = some p) : rdOf ByteArray.empty (ls.map tx) (i : Int) = tx p := by
 show (ls.map tx).getD ((i : Int)).toNat _ = tx p
 rw [Int.toNat_natCast, List.getD_eq_getElem?_getD, List.getElem?_map, h]
 rfl
theorem specGet_yes {l : List S39} (h : rsok l = true) : ∀ (e i : Nat), l.length - i = e → i ≤ l.length → ∀ k, e + 500 < k → spec_RulesGet.l0 k (tx (outT l)) ((l.map bodyT ++ [[]]).map tx) (l.take i) (i : Int) = some (l, true) := by
 have h8 := (rsok_parts h).2
 have hlen : (((l.map bodyT ++ [[]]).map tx).length : Int) = ((l.length + 1 : Nat) : Int) := by simp
 intro e
 induction e with
 | zero =>
  intro i he hi k hk
  obtain ⟨k, rfl⟩ : ∃ m, k = m + 1 := ⟨k - 1, by omega⟩
  obtain rfl : i = l.length := by omega
  simp only [spec_RulesGet.l0]
  rw [hlen, wnat2 (by omega), if_neg (by omega), List.take_length, rulesOk_spec (by omega) (by omega), Option.bind_some, h, if_pos rfl, l4Put_ev h (by omega), Option.bind_some, if_pos rfl]
 | succ e ih =>
  intro i he hi k hk
  obtain ⟨k, rfl⟩ : ∃ m, k = m + 1 := ⟨k - 1, by omega⟩
  have hlt : i < l.length := by omega
  have hr : rok l[i] = true := rsok_all h _ (List.getElem_mem hlt)
  have hp : (l.map bodyT ++ [[]])[i]? = some (bodyT l[i]) := by
   rw [List.getElem?_append_left (by rw [List.length_map]; exact hlt), List.getElem?_map, List.getElem?_eq_getElem hlt]
   rfl
  simp only [spec_RulesGet.l0]
  rw [hlen, wnat2 (by omega), if_pos (by omega), if_pos (by omega), if_pos (by omega), rd_tx _ _ _ hp, line_ok hr (by omega), Option.bind_some]
  simp only
  rw [if_pos trivial, if_pos (by rw [List.length_take]; omega)]
  have ht : l.take i ++ [l[i]] = l.take (i + 1) := by rw [List.take_succ_eq_append_getElem hlt]
  refine Eq.trans ?_ (ih (i + 1) (by omega) (by omega) k (by omega))
  rw [← ht]
theorem specGet_no {x : List UInt8} (hn : ∀ l, rsok l = true → x ≠ outT l) (ls : List (List UInt8)) (hls : ∀ p ∈ ls, p.length ≤ 1048576) (hll : ls.length ≤ 1048577) : ∀ (e i : Nat) (acc : List S39), ls.length - i = e → acc.length + e ≤ 1048577 → i ≤ 1048577 → ∀ k, e + 2000100 < k → spec_RulesGet.l0 k (tx x) (ls.map tx) acc (i : Int) = some ([], false) := by
 have fin : ∀ (k : Nat) (acc : List S39), acc.length ≤ 1048577 → 2000050 < k → ((spec_RulesOk.f k acc).bind fun t124 => (if t124 = true then ((spec_l4Put.f k acc).bind fun t125 => (if t125.toList = (tx x).toList then (some (acc, true)) else (some ((([] : List (S39))), false)))) else (some ((([] : List (S39))), false)))) = some ([], false) := by
  intro k acc ha hk
  rw [rulesOk_spec ha (by omega), Option.bind_some]
  by_cases hr : rsok acc = true
  ·have h8 := (rsok_parts hr).2
   rw [if_pos hr, l4Put_ev hr (by omega), Option.bind_some, if_neg]
   rw [tx_toList, tx_toList]
   exact fun e => hn acc hr e.symm
  ·rw [if_neg hr]
 intro e
 induction e with
 | zero =>
  intro i acc he ha hi k hk
  obtain ⟨k, rfl⟩ : ∃ m, k = m + 1 := ⟨k - 1, by omega⟩
  simp only [spec_RulesGet.l0]
  rw [List.length_map, wnat2 (by omega), if_neg (by omega)]
  exact fin k acc (by omega) (by omega)
 | succ e ih =>
  intro i acc he ha hi k hk
  obtain ⟨k, rfl⟩ : ∃ m, k = m + 1 := ⟨k - 1, by omega⟩
  simp only [spec_RulesGet.l0]
  rw [List.length_map, wnat2 (by omega)]
  by_cases hc : ((i + 1 : Nat) : Int) < (ls.length : Int)
  ·have hlt : i < ls.length := by omega
   have hp : ls[i]? = some ls[i] := List.getElem?_eq_getElem hlt
   obtain ⟨a, b, c, d, f, g, p, q, o, hline⟩ := line_total ls[i] (hls _ (List.getElem_mem hlt)) (k := k) (by omega)
   rw [if_pos hc, if_pos (by omega), if_pos (by omega), rd_tx _ _ _ hp, hline, Option.bind_some]
   simp only
   cases o
   ·rw [if_neg (by simp)]
   ·rw [if_pos rfl, if_pos (by omega)]
    exact ih (i + 1) _ (by omega) (by rw [List.length_append, List.length_singleton]; omega) (by omega) k (by omega)
  ·rw [if_neg hc]
   exact fin k acc (by omega) (by omega)
theorem rulesGet_spec_yes {l : List S39} (h : rsok l = true) {k : Nat} (hk : 2000 ≤ k) : spec_RulesGet.f k (tx (outT l)) = some (l, true) := by
 have hl := outT_len h
 have h8 := (rsok_parts h).2
 have hc : spec_l1Cut.f k (tx (outT l)) 10 = some ((parts 10 (outT l)).map tx) := cut_ev 10 _ (by omega) (by omega)
 have hp : parts 10 (outT l) = l.map bodyT ++ [[]] := parts_lines l
 have e := specGet_yes h l.length 0 (by omega) (by omega) k (by omega)
 unfold spec_RulesGet.f
 rw [hc, Option.bind_some, hp]
 exact e
theorem rulesGet_spec_no {x : List UInt8} (hx : x.length ≤ 1048576) (hn : ∀ l, rsok l = true → x ≠ outT l) {k : Nat} (hk : 4000000 ≤ k) : spec_RulesGet.f k (tx x) = some ([], false) := by
 have hc : spec_l1Cut.f k (tx x) 10 = some ((parts 10 x).map tx) := cut_ev 10 _ (by omega) (by omega)
 have hpl := (parts_len 10 x).2
 have e := specGet_no hn (parts 10 x) (fun p hp => Nat.le_trans (parts_len_le 10 x p hp) hx) (by omega) (parts 10 x).length 0 [] (by omega) (by rw [List.length_nil]; omega) (by omega) k (by omega)
 unfold spec_RulesGet.f
 rw [hc, Option.bind_some]
 exact e
/-- A text is some valid rules', or it is none. -/
theorem rules_or (x : List UInt8) : (∃ l, rsok l = true ∧ x = outT l) ∨ ∀ l, rsok l = true → x ≠ outT l := by
 by_cases h : ∃ l, rsok l = true ∧ x = outT l
 ·exact .inl h
 ·exact .inr fun l hl e => h ⟨l, hl, e⟩
/-- Both read the same. -/
theorem rulesGet_both (x : List UInt8) (hx : x.length ≤ 1048576) : ∃ (l : List S39) (b : Bool), (rsok l = true) ∧ (b = true → x = outT l) ∧ ∀ k, 4000000 ≤ k → impl_RulesGet.f k (tx x) = some (l, b) ∧ spec_RulesGet.f k (tx x) = some (l, b) := by
 rcases rules_or x with ⟨l, hl, rfl⟩ | hn
 ·exact ⟨l, true, hl, fun _ => rfl, fun k hk => ⟨rulesGet_impl_yes hl (by omega), rulesGet_spec_yes hl (by omega)⟩⟩
 ·exact ⟨[], false, rsok_nil, (fun h => nomatch h), fun k hk => ⟨rulesGet_impl_no hx hn (by omega), rulesGet_spec_no hx hn (by omega)⟩⟩
end Go.Proofs.YtgbdnbbfgcogjaaGreatDoor.Tx

namespace Go.Proofs.YtgbdnbbfgcogjaaGreatDoor.Tx
set_option linter.unusedSimpArgs false
set_option linter.unusedVariables false
open Go.RowKit Go.Proofs.YtgbdnbbfgcogjaaGreatDoor.Q Go.Proofs.YtgbdnbbfgcogjaaGreatDoor.Pure Go.Proofs.YtgbdnbbfgcogjaaGreatDoorW.PrintWords Go.Proofs.YtgbdnbbfgcogjaaGreatDoorW.PrintLast Go.Proofs.YtgbdnbbfgcogjaaGreatDoorW.PrintMore
/-- A marked rule. -/
def mkR (v : Int) : S39 := ⟨v, v + 1, ⟨v + 2, v + 3⟩, ⟨v + 4, v + 5⟩, v + 6, v + 7⟩
theorem rdR_set {l : List S39} {i : Nat} (h : i < l.length) (z : S39) : rd_T39 (l.set i z) (i : Int) = z := by
 show (l.set i z).getD i _ = z
 rw [List.getD_eq_getElem?_getD, List.getElem?_set_self h]; rfl
theorem markRS_ev (l : List S39) (hl : l.length ≤ 10000000) (v : Int) (v0 : 1 ≤ v) (v1 : v ≤ 10000000) {k : Nat} (hk : l.length < k) : laws_markRuleS.f k l v = some (v + 8 * (l.length : Int), marks mkR 8 v l.length) := by
 unfold laws_markRuleS.f
 refine mark_loop laws_markRuleS.l0 mkR 8 (by omega) (fun k i xs v hi hx h0 h1 => ?_) (fun k xs v => ?_) l (by omega) v v0 (by omega) k hk
 ·have e2 : v + 1 + 1 = v + 2 := by omega
  have e3 : v + 2 + 1 = v + 3 := by omega
  have e4 : v + 3 + 1 = v + 4 := by omega
  have e5 : v + 4 + 1 = v + 5 := by omega
  have e6 : v + 5 + 1 = v + 6 := by omega
  have e7 : v + 6 + 1 = v + 7 := by omega
  have e8 : v + 7 + 1 = v + 8 := by omega
  simp only [laws_markRuleS.l0]
  rw [if_pos (by omega), if_pos (by omega)]
  rw [w64 (x := v + 1) (by omega) (by omega), e2, w64 (x := v + 2) (by omega) (by omega), e3, w64 (x := v + 3) (by omega) (by omega), e4, w64 (x := v + 4) (by omega) (by omega), e5, w64 (x := v + 5) (by omega) (by omega), e6, w64 (x := v + 6) (by omega) (by omega), e7, w64 (x := v + 7) (by omega) (by omega), e8, w64 (x := v + 8) (by omega) (by omega), w64 (x := (i : Int) + 1) (by omega) (by omega)]
  simp only [Option.bind_some, Int.toNat_natCast, List.set_set, rdR_set hi]
  rfl
 ·simp only [laws_markRuleS.l0]
  rw [if_neg (by omega)]
theorem heldRS_ev (n : Nat) (hn : n ≤ 10000000) (v : Int) (v0 : 1 ≤ v) (v1 : v ≤ 10000000) {k : Nat} (hk : n < k) : laws_heldRuleS.f k (marks mkR 8 v n) v = some (v + 8 * (n : Int)) := by
 unfold laws_heldRuleS.f
 refine held_loop laws_heldRuleS.l0 mkR 8 (by omega) (fun k i xs v hi hx h0 h1 hm => ?_) (fun k xs v => ?_) n (by omega) v v0 (by omega) k hk
 ·have e : rd_T39 xs (i : Int) = mkR v := by
   show xs.getD i _ = _
   rw [List.getD_eq_getElem?_getD, hm]; rfl
  have e2 : v + 1 + 1 = v + 2 := by omega
  have e3 : v + 2 + 1 = v + 3 := by omega
  have e4 : v + 3 + 1 = v + 4 := by omega
  have e5 : v + 4 + 1 = v + 5 := by omega
  have e6 : v + 5 + 1 = v + 6 := by omega
  have e7 : v + 6 + 1 = v + 7 := by omega
  have e8 : v + 7 + 1 = v + 8 := by omega
  simp only [laws_heldRuleS.l0]
  rw [if_pos (by omega), if_pos (by omega), e]
  unfold mkR
  rw [w64 (x := v + 1) (by omega) (by omega), e2, w64 (x := v + 2) (by omega) (by omega), e3, w64 (x := v + 3) (by omega) (by omega), e4, w64 (x := v + 4) (by omega) (by omega), e5, w64 (x := v + 5) (by omega) (by omega), e6, w64 (x := v + 6) (by omega) (by omega), e7, w64 (x := v + 7) (by omega) (by omega), e8, w64 (x := v + 8) (by omega) (by omega), w64 (x := (i : Int) + 1) (by omega) (by omega), if_pos rfl, if_pos rfl, if_pos rfl, if_pos rfl, if_pos rfl, if_pos rfl, if_pos rfl, if_pos rfl]
  rfl
 ·simp only [laws_heldRuleS.l0]
  rw [if_neg (by omega)]
end Go.Proofs.YtgbdnbbfgcogjaaGreatDoor.Tx

namespace Go.Proofs.YtgbdnbbfgcogjaaGreatDoor.Tx
set_option linter.unusedSimpArgs false
set_option linter.unusedVariables false
open Go.RowKit Go.Proofs.YtgbdnbbfgcogjaaGreatDoor.Q Go.Proofs.YtgbdnbbfgcogjaaGreatDoor.Pure Go.Proofs.YtgbdnbbfgcogjaaGreatDoor.Open Go.Proofs.YtgbdnbbfgcogjaaGreatDoorW.PrintWords Go.Proofs.YtgbdnbbfgcogjaaGreatDoorW.PrintLast Go.Proofs.YtgbdnbbfgcogjaaGreatDoorW.PrintMore
open Go.Proofs.YtgbdnbbfgcogjaaGreatDoor.Sq (tx tx_size tx_of)
theorem FnExactRulesGet_law : laws_FnExactRulesGet.Pure := by
 intro s _
 obtain ⟨k, hk⟩ : ∃ k : Nat, 200000000 ≤ k := ⟨200000000, Nat.le_refl _⟩
 refine ⟨k + 2, ?_⟩
 unfold laws_FnExactRulesGet.f
 by_cases h : (s.size : Int) > 1048576
 ·rw [if_pos h]
 ·rw [if_neg h]
  have hs := tx_of s
  have hl : s.data.toList.length = s.size := Array.length_toList
  obtain ⟨l, b, hr, _, hb⟩ := rulesGet_both s.data.toList (by omega)
  rw [hs] at hb
  have h8 := (rsok_parts hr).2
  obtain ⟨i2, s2⟩ := hb (k + 2) (by omega)
  obtain ⟨i1, _⟩ := hb (k + 1) (by omega)
  rw [s2, Option.bind_some, i2, Option.bind_some]
  simp only
  rw [eqRuleS_ev (by omega) (by omega), Option.bind_some, if_pos rfl, bne_self_eq_false]
  simp only [laws_FnExactRulesGet.j0]
  rw [if_neg (by simp), markRS_ev l (by omega) 1 (by omega) (by omega) (by omega), Option.bind_some]
  simp only
  rw [heldRS_ev l.length (by omega) 1 (by omega) (by omega) (by omega), Option.bind_some, if_neg (by omega), if_pos rfl, i1, Option.bind_some]
  simp only
  rw [eqRuleS_ev (by omega) (by omega), Option.bind_some, if_pos rfl, bne_self_eq_false]
  simp only [laws_FnExactRulesGet.j1]
  rw [if_neg (by simp), heldRS_ev l.length (by omega) 1 (by omega) (by omega) (by omega), Option.bind_some, if_neg (by omega), if_pos rfl]
end Go.Proofs.YtgbdnbbfgcogjaaGreatDoor.Tx
namespace Go.Proofs.YtgbdnbbfgcogjaaGreatDoor.Pure
open Go.Proofs.YtgbdnbbfgcogjaaGreatDoor.Q
theorem FnExactRulesGet : laws_FnExactRulesGet.Pure := Tx.FnExactRulesGet_law
end Go.Proofs.YtgbdnbbfgcogjaaGreatDoor.Pure

namespace Go.Proofs.YtgbdnbbfgcogjaaGreatDoor.Td
open Go.ChangeShapes Go.WideShapes Go.ChangeAt Go.RowKit
/-- A row's wrap that hands on both what the row lists and the world's shape. -/
theorem wrap3 {H : Type} {enc : TypeId × Value → H} {a : Assume} {C : Checked} {os : Os} {f : FuncId} {fn : Func} {s : ChangeSpec} {conds : List PathCond} {apart fresh handsOn again : Bool} {X : World → Array Value → Prop}
  (hX : ∀ (w w' : World) (args : Array Value), w.heap = w'.heap → X w args → X w' args)
  (own : ownKnob C.prog.godebug = none) (started : os.Started) (noInit : C.prog.inits.idxOf? f = none) (hfn : C.prog.funcs[f]? = some fn)
  (witness : ∃ (w : World) (tape : Tape) (i : Input), w.os = os ∧ (w.forCall tape i).Shaped C.prog ∧ i.vars = [] ∧ Input.okWide C.prog (w.forCall tape i) .any w.heap.size f i ∧
   ((s.pre enc C.prog fn conds apart (w.forCall tape i).memory i.args ∧ X (w.forCall tape i).memory i.args) ∧ sizedMet enc C.prog fn (OpenSpec.ofChange s) apart (w.forCall tape i).memory i.args) ∧ a.holds C.prog (lone (Frame.enter C.prog f i.args .normal) [] (w.forCall tape i)))
  (contract : ∀ (W : World) (base : Nat) (args : Array Value) (ds gs : List (DataW H)) (before : List MemPlace),
   (∀ (j : Nat) t v, fn.params[j]? = some t → args[j]? = some v → Value.okWide C.prog W .any base t v) →
   DataW.Whole enc C.prog fn.params.toList s.vars apart W args.toList ds gs before →
   W.ShapedOpen C.prog → X W args →
   Calls C.prog f args W fun e W' => ∃ v, e = .returned v ∧ s.post enc C.prog fn apart fresh handsOn again W args v W') :
  ReturnsInHanded a C os f .any (fun w args => (s.pre enc C.prog fn conds apart w args ∧ X w args) ∧ sizedMet enc C.prog fn (OpenSpec.ofChange s) apart w args) (s.post enc C.prog fn apart fresh handsOn again) := by
 refine returnsInHanded_of_calls own started noInit witness ?_
 intro w tape i _ hsh _ hok hpre _
 obtain ⟨_, _, _, fn', hfn', _, _, _, _, hval⟩ := hok
 obtain rfl : fn' = fn := Option.some.inj (hfn'.symm.trans hfn)
 obtain ⟨⟨⟨ds, gs, before, hw, _⟩, hx⟩, _⟩ := hpre
 refine (contract (w.forCall tape i) w.heap.size i.args ds gs before hval (DataW.Whole.of_heap (w' := w.forCall tape i) (by rfl) hw) hsh (hX _ _ _ (by rfl) hx)).mono fun e W' ⟨v, he, hp⟩ => ?_
 subst he
 exact ChangeSpec.post_blind hp
set_option maxRecDepth 100000 in
theorem door_met3 (os : Os) (args : Array Value) : laidMetH Tryz.prog Rows.fnExactRulesGetRow.laid ((World.laidAll Tryz.prog os Rows.fnExactRulesGetRow.laid).forCall (fun _ _ => 0) ⟨#[], args, []⟩).memory := by
 rw [MakeChecks.laidMetH_plain _ _ _ (by kernel_rfl)]
 exact laidMet_laidAll _ (by kernel_rfl) (by kernel_rfl)
theorem of_laid3 {W : World} (h : laidMetH Tryz.prog Rows.fnExactRulesGetRow.laid W) (hs : W.ShapedOpen Tryz.prog) : Tb.T3 W := by
 rw [MakeChecks.laidMetH_plain _ _ _ (by kernel_rfl)] at h
 have h2 : laidMet Tryz.prog (("internal/strconv.uint64pow10", Rows.laid_internal_strconv_uint64pow10) :: Rows.fnExactRulesGetRow.laid.drop 3) W := h.tail.tail
 have h4 : laidMet Tryz.prog (("strconv.ErrRange", Rows.laid_strconv_ErrRange) :: Rows.fnExactRulesGetRow.laid.drop 5) W := h2.tail.tail
 have h5 : laidMet Tryz.prog (("strconv.ErrSyntax", Rows.laid_strconv_ErrSyntax) :: Rows.fnExactRulesGetRow.laid.drop 6) W := h4.tail
 have hrow : ∀ u, Tryz.prog.typeName? 3 u = some "*errors.errorString" → u = 138 := fun u hu => typeName_ptr_named (nm := "errors.errorString") (by kernel_rfl) (by kernel_rfl) (by decide) u hu
 refine ⟨⟨Lib.tabIs_of_head (g := 3) (t := 127) (e := 113) (n := 20) (by kernel_rfl) (by kernel_rfl) (by kernel_rfl) (by kernel_rfl) (by kernel_rfl) (by kernel_rfl) h2, ?_, ?_⟩, ?_⟩
 ·obtain ⟨a, s, hv, _⟩ := laid_sentinel (g := 1) (ti := 57) (tp := 138) (te := 140) (ts := 9) h5 (by kernel_rfl) (by kernel_rfl) Tryz.underlying57 hrow Tryz.underlying138 Tryz.underlying140 rfl rfl Tryz.underlying9 (by kernel_rfl) (by kernel_rfl)
  exact ⟨_, World.var?_cell (by kernel_rfl) hv 0, .inr ⟨_, _, rfl⟩⟩
 ·obtain ⟨a, s, hv, _⟩ := laid_sentinel (g := 2) (ti := 57) (tp := 138) (te := 140) (ts := 9) h4 (by kernel_rfl) (by kernel_rfl) Tryz.underlying57 hrow Tryz.underlying138 Tryz.underlying140 rfl rfl Tryz.underlying9 (by kernel_rfl) (by kernel_rfl)
  exact ⟨_, World.var?_cell (by kernel_rfl) hv 0, .inr ⟨_, _, rfl⟩⟩
 ·exact cell_of_shapedOpen_int (zero := #[.int .i64 0]) (t := 3) hs (of_decide_eq_true (by kernel_rfl)) (by kernel_rfl) rfl (by kernel_rfl) (by kernel_rfl) Tryz.underlying3
end Go.Proofs.YtgbdnbbfgcogjaaGreatDoor.Td

namespace Go.Proofs.YtgbdnbbfgcogjaaGreatDoor.fnExactRulesGet
open Go.ChangeShapes Go.WideShapes Go.ChangeAt Go.RowKit Go.Proofs.YtgbdnbbfgcogjaaGreatDoorW.PrintWords Go.Proofs.YtgbdnbbfgcogjaaGreatDoor.Open Go.Proofs.YtgbdnbbfgcogjaaGreatDoor.Q
open Go.ChangeMaps (open_string shut_string)
set_option linter.unusedVariables false
theorem own : ownKnob Tryz.prog.godebug = none := by kernel_rfl
theorem laidOut : laidOutB Tryz.prog = true := by kernel_rfl
set_option maxRecDepth 100000 in
theorem lifted (os : Os) (started : os.Started) (H : Type) (enc : TypeId × Value → H) :
  ReturnsInHanded {} Tryz.checked os 3 .any (fun w args => (Rows.fnExactRulesGetSpec.pre enc Tryz.prog Tryz.f3 [] false w args ∧ laidMetH Tryz.prog Rows.fnExactRulesGetRow.laid w) ∧ sizedMet enc Tryz.prog Tryz.f3 (OpenSpec.ofChange Rows.fnExactRulesGetSpec) false w args) (Rows.fnExactRulesGetSpec.post enc Tryz.prog Tryz.f3 false true false false) := by
 refine Td.wrap3 (C := Tryz.checked) (X := (fun w _ => laidMetH Tryz.prog Rows.fnExactRulesGetRow.laid w)) (fun _ _ _ hh h => h.of_heap hh) own started (by kernel_rfl) Tryz.func3
  (ChangeSpec.witness_shaped (enc := enc) (C := Tryz.checked) (os := os) (X := (fun w _ => laidMetH Tryz.prog Rows.fnExactRulesGetRow.laid w)) false (World.laidAll Tryz.prog os Rows.fnExactRulesGetRow.laid) #[.string ByteArray.empty] 8 (World.laidAll_os _ _ _) (World.shaped_of_ZipB (by kernel_rfl) (by kernel_rfl)) (by kernel_rfl) (by kernel_rfl) (by kernel_rfl) (Td.door_met3 os _)) ?_
 intro W base args ds gs before hval0 hW hSh hL
 have hT := Td.of_laid3 hL hSh
 have hval : ∀ (j : Nat) t v, Tryz.f3.params[j]? = some t → args[j]? = some v → Value.okWide Tryz.prog W .any base t v := hval0
 have hW' := hW
 obtain ⟨p, q, hA0, hV, rfl, hfz, hnd⟩ := hW
 have hA : DataW.TrodAll enc Tryz.prog W 0 (fun _ => true) true Tryz.f3.params.toList args.toList ds p := hA0
 rw [Tryz.params3] at hA hval
 obtain ⟨v0, vs0, d0, ds0, p0, q0, hargs, rfl, rfl, h0, r0⟩ := trodAll_cons hA
 obtain ⟨rfl, rfl, rfl⟩ := trodAll_nil r0
 obtain rfl : args = #[v0] := by cases args; simp_all
 obtain ⟨rfl, rfl⟩ := trodVars_none hV
 have lt0 : ∀ x ∈ p0, x.block < W.heap.size := by obtain ⟨m, hm⟩ := h0; exact DataW.trod_lt m _ _ _ hm
 have k0 := h0
 obtain ⟨x0, K0, w0⟩ := open_arg (op9 W) h0
 obtain rfl := string_of_cells (okWide_string Tryz.underlying9 (hval 0 9 v0 rfl rfl)) K0
 obtain ⟨k, hp⟩ := Pure.FnExactRulesGet x0 w0
 refine (laws_FnExactRulesGet.calls k x0 true W hT  hp).mono ?_
 rintro e W' ⟨rfl, bel0⟩
 have bel : Below W.heap.size W W' := bel0
 exact ⟨_, rfl, _, _, _, [], _, [], hW', trodAll_mk1 (shut_bool Tryz.underlying4 _), (trodAll_cons_mk (Below.trod laidOut (by kernel_rfl) (of_decide_eq_true (by kernel_rfl)) k0 bel lt0) trodAll_mk0), rfl, bel.frame _, fun h => by cases h⟩
theorem over : Rows.fnExactRulesGetRow.holds Tryz.pinned (OpenSpec.ofChange Rows.fnExactRulesGetSpec) :=
 OpenClaim.holds_of_wide 3 Tryz.f3 rfl rfl rfl rfl rfl rfl rfl ⟨rfl, rfl, rfl, rfl, rfl⟩ rfl rfl rfl rfl rfl (by kernel_rfl) Tryz.func3 (by kernel_rfl)
  (of_decide_eq_true (by kernel_rfl)) (by unfold Func.isWrapper; first | (rw [if_pos (by decide +kernel)]; kernel_rfl) | (rw [if_neg (by decide +kernel)]; exact ⟨rfl, rfl⟩))
  (fun os started H enc _ => lifted os started H enc)
theorem proved : Rows.FnExactRulesGetCardSaid :=
 Claim7.holds_tied_plain_at .later [] [.data, .data, .data, .data, .sentinel, .sentinel, .pinned] true (true, "f61e80bd2dfc30d34aa1dbb9d57781174b895e6ee703e121d0ea6ea454929872") true
  over (fun _ h => by cases h) (by kernel_rfl) (fun _ h => by cases h) fnExactRulesGet_row_tie rfl ⟨rfl, rfl⟩ (by kernel_rfl) rfl
  (fun f fn hf hfn => by
   obtain rfl : f = 3 := Option.some.inj ((show Tryz.prog.funcNamed "loop.example/overfare/laws.FnExactRulesGet" = some 3 by kernel_rfl).symm.trans hf) |>.symm
   obtain rfl : fn = Tryz.f3 := (Option.some.inj (Tryz.func3.symm.trans hfn)).symm
   exact ⟨by kernel_rfl, fun j t ht => by
    rw [Tryz.params3] at ht
    have hm : t ∈ [9] := by simpa using Array.mem_of_getElem? ht
    have hall : ([9].all fun u => !Tryz.prog.wantsStandIn u) = true := by kernel_rfl
    exact (show Tryz.prog.wantsStandIn t = false by simpa using List.all_eq_true.1 hall t hm)⟩)
  (by kernel_rfl)
#print axioms proved
end Go.Proofs.YtgbdnbbfgcogjaaGreatDoor.fnExactRulesGet
namespace Go.Proofs.YtgbdnbbfgcogjaaGreatDoor
/-- The row, under a short name, for the claim. -/
theorem fnExactRulesGet_holds : Rows.FnExactRulesGetCardSaid := fnExactRulesGet.proved
end Go.Proofs.YtgbdnbbfgcogjaaGreatDoor
