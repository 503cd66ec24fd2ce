/- The law FnCellsFind (part 7 of 7): for every input the call answers true and its arguments read afterwards as before. No condition beyond the row's own. -/
import Derived.Deep.Slices
import Derived.Deep.Fields
import Derived.ChangeSame
import Derived.ProofKit
import Derived.WideShapes
import Derived.RowKit
import Derived.Laws.BitsLemmas
import Derived.Test.YtbhgkpfbggkgdaaRows
import Derived.WalkKit
import Derived.OpenShut
import Derived.ShutString
import Derived.ChangeOld
import Derived.Below
import Derived.SizedLaws
import Derived.Test.YtbhgkpfbggkgdaaCFnCellsFind6
namespace Go.Proofs.Ytbhgkpfbggkgdaa.Q
open Go.RowKit Go.Proofs.YtbhgkpfbggkgdaaW.PrintWords Go.Proofs.YtbhgkpfbggkgdaaW.PrintLast Go.Proofs.YtbhgkpfbggkgdaaW.PrintMore
attribute [local go_sem] max2_int min2_int max_two min_two max_three min_three max_four min_four
set_option linter.unusedVariables false
set_option linter.unusedSimpArgs false
def laws_FnCellsFind.l0 : Nat → List (S67) → Int → Int → Int → Int → Int → Int → Int → Int → Int → Option (Bool)
 | 0, _, _, _, _, _, _, _, _, _, _ => none
 | k + 1, x3, x5, x7, x111000, x111001, x111002, x111003, x111004, x111005, x111006 => if x7 < (x3.length : Int) then (if 0 ≤ x7 then ((impl_CellsMeet.f ((rd_T67 x3 x7).f0) ((rd_T67 x3 x7).f1) ((rd_T67 x3 x7).f2) ((rd_T67 x3 x7).f3) ((rd_T67 x3 x7).f4) ((rd_T67 x3 x7).f5) ((rd_T67 x3 x7).f6) x111000 x111001 x111002 x111003 x111004 x111005 x111006).bind fun t112 => (if t112 = true then (some (x5 == ((rd_T67 x3 x7).f6))) else (laws_FnCellsFind.l0 k x3 x5 (wrap64 (x7 + 1)) x111000 x111001 x111002 x111003 x111004 x111005 x111006))) else (none)) else (some (x5 == (-1)))
def laws_FnCellsFind.f (k : Nat) (l0 : List Int) : Option (Bool) := if (l0.length : Int) > 1048576 then (some true) else ((spec_DrawCellsFind.f k l0).bind fun bt101 => ((impl_CellsFind.f k bt101.1 bt101.2.1 bt101.2.2.1 bt101.2.2.2).bind fun t108 => ((spec_CellsFind.f k bt101.1 bt101.2.1 bt101.2.2.1 bt101.2.2.2).bind fun t109 => (if t108 = t109 then (laws_FnCellsFind.l0 k bt101.1 t108 0 bt101.2.1 bt101.2.1 bt101.2.2.1 bt101.2.2.1 bt101.2.2.2 bt101.2.2.2 0) else (some false)))))
set_option maxHeartbeats 8000000 in
set_option maxRecDepth 100000 in
theorem laws_FnCellsFind.calls (k : Nat) (A0 : Option Addr) (c0 : Nat) (l0 : List Int) (r : Bool) (w : World) (hr0 : Kd.C (Kd.int .u8) w A0 l0.length l0) (hc0 : l0.length ≤ c0) (h : laws_FnCellsFind.f k l0 = some r) :
  Calls Try.prog 10 #[.slice A0 l0.length c0] w fun e w' => e = .returned (.bool r) ∧ Below w.heap.size w w' := by
 have hu36 := Try.underlying36
 have hu67 := Try.underlying67
 have HR0 := Aside0.mk hr0
 have HC0 := Aside0.mk hc0
 clear hr0 hc0
 have HB := Aside0.mk (Below.refl w.heap.size w)
 have H : (if (l0.length : Int) > 1048576 then (some true) else ((spec_DrawCellsFind.f k l0).bind fun bt101 => ((impl_CellsFind.f k bt101.1 bt101.2.1 bt101.2.2.1 bt101.2.2.2).bind fun t108 => ((spec_CellsFind.f k bt101.1 bt101.2.1 bt101.2.2.1 bt101.2.2.2).bind fun t109 => (if t108 = t109 then (laws_FnCellsFind.l0 k bt101.1 t108 0 bt101.2.1 bt101.2.1 bt101.2.2.1 bt101.2.2.1 bt101.2.2.2 bt101.2.2.2 0) else (some false)))))) = some r := h
 clear h
 by_cases c2 : (l0.length : Int) > 1048576
 ·rw [if_pos c2] at H
  have c2b0 : decide (1048576 < (l0.length : Int)) = true := decide_eq_true c2
  have c2b1 : decide (1048576 < l0.length) = true := decide_eq_true (by omega)
  clear c2
  obtain rfl := Option.some.inj H
  go_enter Try.func10, Try.ntmps10
  go_wp2
  go_ret
  exact ⟨by first | rfl | (simp [errW_none, errW_some] <;> rfl) | (simp [*, errW_none, errW_some] <;> rfl), by repeat (first | (with_reducible first | exact HB.out | apply below_alloc | apply pw_below_drewN | apply below_drew1) | exact HB.out)⟩
 ·rw [if_neg c2] at H
  have c2b0 : decide (1048576 < (l0.length : Int)) = false := decide_eq_false c2
  have c2b1 : decide (1048576 < l0.length) = false := decide_eq_false (by omega)
  clear c2
  replace H := Option.bind_eq_some_iff.mp H
  obtain ⟨⟨t101, t104, t105, t106⟩, A30, H⟩ := H
  replace H : ((impl_CellsFind.f k t101 t104 t105 t106).bind fun t108 => ((spec_CellsFind.f k t101 t104 t105 t106).bind fun t109 => (if t108 = t109 then (laws_FnCellsFind.l0 k t101 t108 0 t104 t104 t105 t105 t106 t106 0) else (some false)))) = some r := H
  have A3 := Aside0.mk A30
  clear A30
  replace H := Option.bind_eq_some_iff.mp H
  obtain ⟨t108, A40, H⟩ := H
  replace H : ((spec_CellsFind.f k t101 t104 t105 t106).bind fun t109 => (if t108 = t109 then (laws_FnCellsFind.l0 k t101 t108 0 t104 t104 t105 t105 t106 t106 0) else (some false))) = some r := H
  have A4 := Aside0.mk A40
  clear A40
  replace H := Option.bind_eq_some_iff.mp H
  obtain ⟨t109, A50, H⟩ := H
  replace H : (if t108 = t109 then (laws_FnCellsFind.l0 k t101 t108 0 t104 t104 t105 t105 t106 t106 0) else (some false)) = some r := H
  have A5 := Aside0.mk A50
  clear A50
  by_cases c6 : t108 = t109
  ·rw [if_pos c6] at H
   have c6b0 : (t108 == t109) = true := beq_iff_eq.mpr c6
   have c6b1 : (t108 != t109) = false := bne_eq_false_iff_eq.mpr c6
   clear c6
   have H' := Aside0.mk H
   clear H
   go_enter Try.func10, Try.ntmps10
   go_wp2_with (first | ((with_reducible refine gate_callee (f := 49) rfl ?_); refine goesL_ (some 13) rfl rfl Try.func49 (by kernel_rfl) rfl #[.slice A0 l0.length c0] rfl (by (try simp only [List.map_toArray, List.map_cons, List.map_nil]); first | done | rfl | (simp only [List.length_drop, List.length_take]; rfl)) ?_; (with_reducible refine (spec_DrawCellsFind.calls k _ _ l0 t101 t104 t105 t106 _ ?side1 ?side2 A3.out).mono ?_); (case side1 => repeat (first | exact HR0.out | (with_reducible refine Kd.C_alloc ?_ _) | (with_reducible refine Kd.C_drewN ?_ _) | (with_reducible refine Kd.C_drew ?_))); (case side2 => exact HC0.out); rintro e w7 ⟨v102, rfl, ho0, hb⟩; refine ⟨_, rfl, ?_⟩; have n0_ := Aside0.mk (Kd.R_lower ho0 (below_size (by repeat (first | (with_reducible first | exact HB.out | apply below_alloc | apply pw_below_drewN | apply below_drew1) | exact HB.out)))); have n1_ := Aside0.mk (below_step (by repeat (first | (with_reducible first | exact HB.out | apply below_alloc | apply pw_below_drewN | apply below_drew1) | exact HB.out)) hb); clear HB; have HO103 := n0_; have HB := n1_; clear n0_ n1_; (try clear hb); (try clear hb2); (try clear hk); (try clear hi); (try clear ho0)) | ((with_reducible refine gate_dst (N := 4) rfl ?_); refine box_event ?hg (N := 4) ?hd (cs := #[.int .i64 0, .int .i64 0, .int .i64 0]) (t := 36) ?hr ?_; (case hd => rfl); (case hg => rfl); (case hr => first | (go_simp; done) | (go_simp; rfl)); intro gb107 hg w8 hbox hb; have n0_ := Aside0.mk (Kd.R_below (by (with_reducible repeat (first | apply Kd.R_alloc | apply Kd.R_drewN | apply Kd.R_drew)); exact HO103.out) hb); have n1_ := Aside0.mk (below_step (by repeat (first | (with_reducible first | exact HB.out | apply below_alloc | apply pw_below_drewN | apply below_drew1) | exact HB.out)) hb); have n2_ := Aside0.mk (hbox); have n3_ := Aside0.mk ((by rw [hg]; exact (below_size (by repeat (first | (with_reducible first | exact HB.out | apply below_alloc | apply pw_below_drewN | apply below_drew1) | exact HB.out))) : w.heap.size ≤ gb107)); have n4_ := Aside0.mk ((by rw [hg]; exact (below_size (by repeat (first | (with_reducible first | exact HB.out | apply below_alloc | apply pw_below_drewN | apply below_drew1) | exact HB.out))) : w.heap.size ≤ gb107)); clear HO103; clear HB; have HO103 := n0_; have HB := n1_; have BK107 := n2_; have GW107 := n3_; have GE107 := n4_; clear n0_ n1_ n2_ n3_ n4_; clear hb hbox hg; have hcz9_0 : w8.cell? ⟨gb107, 0, none⟩ = some (.int .i64 0) := (blk_cell BK107.out 0).trans rfl; have hcz9_1 : w8.cell? ⟨gb107, 1, none⟩ = some (.int .i64 0) := (blk_cell BK107.out 1).trans rfl; have hcz9_2 : w8.cell? ⟨gb107, 2, none⟩ = some (.int .i64 0) := (blk_cell BK107.out 2).trans rfl; have hfz9_0 := blk_frozen BK107.out 0; have hfz9_1 := blk_frozen BK107.out 1; have hfz9_2 := blk_frozen BK107.out 2; obtain ⟨Ao10, co10, eo10⟩ := Kd.R_slice HO103.out; subst eo10) | ((with_reducible refine gate_callee (f := 22) rfl ?_); refine goesL_ (some 18) rfl rfl Try.func22 (by kernel_rfl) rfl #[.slice Ao10 t101.length co10, .agg #[.int .i64 t104, .int .i64 t105, .int .i64 t106]] rfl (by (try simp only [List.map_toArray, List.map_cons, List.map_nil]); first | done | rfl | (simp only [List.length_drop, List.length_take]; rfl)) ?_; (with_reducible refine (impl_CellsFind.calls k _ _ t101 t104 t105 t106 t108 _ ?side1 ?side2 A4.out).mono ?_); (case side1 => refine (Kd.R_reads' (e := 67) (base := w.heap.size) (ok := fun k_ => True) (n := t101.length) (c := co10) ?_).2.2; exact (by (with_reducible repeat (first | apply Kd.R_alloc | apply Kd.R_drewN | apply Kd.R_drew)); exact (Kd.R_mono (Kd.R_far (p := ⟨gb107, 2, none⟩) (Kd.R_far (p := ⟨gb107, 1, none⟩) (Kd.R_far (p := ⟨gb107, 0, none⟩) (Kd.R_types HO103.out BK107.out (by decide)) (fun _ hk => hk.2) (.int .i64 t104)) (fun _ hk => hk.2) (.int .i64 t105)) (fun _ hk => hk.2) (.int .i64 t106)) (fun _ h_ => h_.1)))); (case side2 => exact (Kd.R_reads' HO103.out).2.1); rintro e w11 ⟨rfl, hb⟩; refine ⟨_, rfl, ?_⟩; have n0_ := Aside0.mk (Kd.R_below (by (with_reducible repeat (first | apply Kd.R_alloc | apply Kd.R_drewN | apply Kd.R_drew)); exact (Kd.R_mono (Kd.R_far (p := ⟨gb107, 2, none⟩) (Kd.R_far (p := ⟨gb107, 1, none⟩) (Kd.R_far (p := ⟨gb107, 0, none⟩) (Kd.R_types HO103.out BK107.out (by decide)) (fun _ hk => hk.2) (.int .i64 t104)) (fun _ hk => hk.2) (.int .i64 t105)) (fun _ hk => hk.2) (.int .i64 t106)) (fun _ h_ => h_.1))) hb); have n1_ := Aside0.mk (blk_below (g := gb107) (o := .cells #[.int .i64 t104, .int .i64 t105, .int .i64 t106] 36 (0, 0)) (by (with_reducible repeat (first | refine blk_drewN ?_ _ | refine blk_drew ?_ | refine blk_alloc ?_ _)); refine blk_put (cs := #[.int .i64 t104, .int .i64 t105, .int .i64 0]) ?_ 2 _ rfl; (with_reducible repeat (first | refine blk_drewN ?_ _ | refine blk_drew ?_ | refine blk_alloc ?_ _)); refine blk_put (cs := #[.int .i64 t104, .int .i64 0, .int .i64 0]) ?_ 1 _ rfl; (with_reducible repeat (first | refine blk_drewN ?_ _ | refine blk_drew ?_ | refine blk_alloc ?_ _)); refine blk_put (cs := #[.int .i64 0, .int .i64 0, .int .i64 0]) ?_ 0 _ rfl; (with_reducible repeat (first | refine blk_drewN ?_ _ | refine blk_drew ?_ | refine blk_alloc ?_ _)); exact BK107.out) hb); have n2_ := Aside0.mk (below_step (by repeat (first | (with_reducible first | exact HB.out | apply below_alloc | apply pw_below_drewN | apply below_drew1 | refine below_set ?_ GE107.out) | exact HB.out)) hb); clear HO103; clear BK107; clear HB; have HO103 := n0_; have BK107 := n1_; have HB := n2_; clear n0_ n1_ n2_; (try clear hb); (try clear hb2); (try clear hk); (try clear hi); have hcz12_0 : w11.cell? ⟨gb107, 0, none⟩ = some (.int .i64 t104) := (blk_cell BK107.out 0).trans rfl; have hcz12_1 : w11.cell? ⟨gb107, 1, none⟩ = some (.int .i64 t105) := (blk_cell BK107.out 1).trans rfl; have hcz12_2 : w11.cell? ⟨gb107, 2, none⟩ = some (.int .i64 t106) := (blk_cell BK107.out 2).trans rfl; have hfz12_0 := blk_frozen BK107.out 0; have hfz12_1 := blk_frozen BK107.out 1; have hfz12_2 := blk_frozen BK107.out 2) | ((with_reducible refine gate_callee (f := 19) rfl ?_); refine goesL_ (some 22) rfl rfl Try.func19 (by kernel_rfl) rfl #[.slice Ao10 t101.length co10, .agg #[.int .i64 t104, .int .i64 t105, .int .i64 t106]] rfl (by (try simp only [List.map_toArray, List.map_cons, List.map_nil]); first | done | rfl | (simp only [List.length_drop, List.length_take]; rfl)) ?_; (with_reducible refine (spec_CellsFind.calls k _ _ t101 t104 t105 t106 t109 _ ?side1 ?side2 A5.out).mono ?_); (case side1 => repeat (first | exact (Kd.R_reads' HO103.out).2.2 | (with_reducible refine Kd.C_alloc ?_ _) | (with_reducible refine Kd.C_drewN ?_ _) | (with_reducible refine Kd.C_drew ?_))); (case side2 => exact (Kd.R_reads' HO103.out).2.1); rintro e w13 ⟨rfl, hb⟩; refine ⟨_, rfl, ?_⟩; have n0_ := Aside0.mk (Kd.R_below (by (with_reducible repeat (first | apply Kd.R_alloc | apply Kd.R_drewN | apply Kd.R_drew)); exact HO103.out) hb); have n1_ := Aside0.mk (blk_below (g := gb107) (o := .cells #[.int .i64 t104, .int .i64 t105, .int .i64 t106] 36 (0, 0)) (by (with_reducible repeat (first | refine blk_drewN ?_ _ | refine blk_drew ?_ | refine blk_alloc ?_ _)); exact BK107.out) hb); have n2_ := Aside0.mk (below_step (by repeat (first | (with_reducible first | exact HB.out | apply below_alloc | apply pw_below_drewN | apply below_drew1 | refine below_set ?_ GE107.out) | exact HB.out)) hb); clear HO103; clear BK107; clear HB; have HO103 := n0_; have BK107 := n1_; have HB := n2_; clear n0_ n1_ n2_; (try clear hb); (try clear hb2); (try clear hk); (try clear hi); have hcz14_0 : w13.cell? ⟨gb107, 0, none⟩ = some (.int .i64 t104) := (blk_cell BK107.out 0).trans rfl; have hcz14_1 : w13.cell? ⟨gb107, 1, none⟩ = some (.int .i64 t105) := (blk_cell BK107.out 1).trans rfl; have hcz14_2 : w13.cell? ⟨gb107, 2, none⟩ = some (.int .i64 t106) := (blk_cell BK107.out 2).trans rfl; have hfz14_0 := blk_frozen BK107.out 0; have hfz14_1 := blk_frozen BK107.out 1; have hfz14_2 := blk_frozen BK107.out 2) | ((with_reducible refine gate_dst (N := 6) rfl ?_); refine box_event ?hg (N := 6) ?hd (cs := #[.int .i64 0, .int .i64 0, .int .i64 0, .int .i64 0, .int .i64 0, .int .i64 0, .int .i64 0]) (t := 67) ?hr ?_; (case hd => rfl); (case hg => rfl); (case hr => first | (go_simp; done) | (go_simp; rfl)); intro gb110 hg w15 hbox hb; have n0_ := Aside0.mk (Kd.R_below (Kd.R_elderB (by (with_reducible repeat (first | apply Kd.R_alloc | apply Kd.R_drewN | apply Kd.R_drew)); exact HO103.out) gb110 (Nat.le_of_eq hg.symm)) hb); have n1_ := Aside0.mk (blk_below (g := gb107) (o := .cells #[.int .i64 t104, .int .i64 t105, .int .i64 t106] 36 (0, 0)) (by (with_reducible repeat (first | refine blk_drewN ?_ _ | refine blk_drew ?_ | refine blk_alloc ?_ _)); exact BK107.out) hb); have n2_ := Aside0.mk (below_step (by repeat (first | (with_reducible first | exact HB.out | apply below_alloc | apply pw_below_drewN | apply below_drew1 | refine below_set ?_ GE107.out) | exact HB.out)) hb); have n3_ := Aside0.mk (hbox); have n4_ := Aside0.mk ((by rw [hg]; exact (below_size (by repeat (first | (with_reducible first | exact HB.out | apply below_alloc | apply pw_below_drewN | apply below_drew1 | refine below_set ?_ GE107.out) | exact HB.out))) : w.heap.size ≤ gb110)); have n5_ := Aside0.mk ((by rw [hg]; exact (below_size (by repeat (first | (with_reducible first | exact HB.out | apply below_alloc | apply pw_below_drewN | apply below_drew1 | refine below_set ?_ GE107.out) | exact HB.out))) : w.heap.size ≤ gb110)); have n6_ := Aside0.mk ((by rw [hg]; exact Nat.ne_of_lt (blk_lt (g := gb107) (o := .cells #[.int .i64 t104, .int .i64 t105, .int .i64 t106] 36 (0, 0)) (by (with_reducible repeat (first | refine blk_drewN ?_ _ | refine blk_drew ?_ | refine blk_alloc ?_ _)); exact BK107.out)) : gb107 ≠ gb110)); have n7_ := Aside0.mk ((by rw [hg]; exact Nat.ne_of_gt (blk_lt (g := gb107) (o := .cells #[.int .i64 t104, .int .i64 t105, .int .i64 t106] 36 (0, 0)) (by (with_reducible repeat (first | refine blk_drewN ?_ _ | refine blk_drew ?_ | refine blk_alloc ?_ _)); exact BK107.out)) : gb110 ≠ gb107)); clear HO103; clear BK107; clear HB; have HO103 := n0_; have BK107 := n1_; have HB := n2_; have BK110 := n3_; have GW110 := n4_; have GE110 := n5_; have NB107_110 := n6_; have NB110_107 := n7_; clear n0_ n1_ n2_ n3_ n4_ n5_ n6_ n7_; clear hb hbox hg; have hnb16 := NB110_107.out; have hnc16 := NB107_110.out; have hcz17_0 : w15.cell? ⟨gb110, 0, none⟩ = some (.int .i64 0) := (blk_cell BK110.out 0).trans rfl; have hcz17_1 : w15.cell? ⟨gb110, 1, none⟩ = some (.int .i64 0) := (blk_cell BK110.out 1).trans rfl; have hcz17_2 : w15.cell? ⟨gb110, 2, none⟩ = some (.int .i64 0) := (blk_cell BK110.out 2).trans rfl; have hcz17_3 : w15.cell? ⟨gb110, 3, none⟩ = some (.int .i64 0) := (blk_cell BK110.out 3).trans rfl; have hcz17_4 : w15.cell? ⟨gb110, 4, none⟩ = some (.int .i64 0) := (blk_cell BK110.out 4).trans rfl; have hcz17_5 : w15.cell? ⟨gb110, 5, none⟩ = some (.int .i64 0) := (blk_cell BK110.out 5).trans rfl; have hcz17_6 : w15.cell? ⟨gb110, 6, none⟩ = some (.int .i64 0) := (blk_cell BK110.out 6).trans rfl; have hfz17_0 := blk_frozen BK110.out 0; have hfz17_1 := blk_frozen BK110.out 1; have hfz17_2 := blk_frozen BK110.out 2; have hfz17_3 := blk_frozen BK110.out 3; have hfz17_4 := blk_frozen BK110.out 4; have hfz17_5 := blk_frozen BK110.out 5; have hfz17_6 := blk_frozen BK110.out 6))
   go_loopg [7] k (fun kq v7 w' => ∃ (x7_1 : Int), v7 = .int .i64 x7_1 ∧ Aside0 (laws_FnCellsFind.l0 kq t101 t108 x7_1 t104 t104 t105 t105 t106 t106 0 = some r) ∧ Aside0 (kq ≤ k) ∧ Aside0 (Kd.R k67 67 w' w.heap.size (fun k_ => k_ ≠ gb110) (.slice Ao10 t101.length co10) t101) ∧ Aside0 (w'.heap[gb107]? = some (.cells #[.int .i64 t104, .int .i64 t105, .int .i64 t106] 36 (0, 0))) ∧ Aside0 (w'.heap[gb110]? = some (.cells #[.int .i64 t104, .int .i64 t104, .int .i64 t105, .int .i64 t105, .int .i64 t106, .int .i64 t106, .int .i64 0] 67 (0, 0))) ∧ Aside0 (Below w.heap.size w w'))
   case atStart => exact ⟨(0), (by first | rfl | (simp; done) | (simp [*]; done)), H', ⟨Nat.le_refl _⟩, ⟨by (with_reducible repeat (first | apply Kd.R_alloc | apply Kd.R_drewN | apply Kd.R_drew)); exact Kd.R_mono (Kd.R_far (p := ⟨gb110, 6, none⟩) (Kd.R_far (p := ⟨gb110, 5, none⟩) (Kd.R_far (p := ⟨gb110, 4, none⟩) (Kd.R_far (p := ⟨gb110, 3, none⟩) (Kd.R_far (p := ⟨gb110, 2, none⟩) (Kd.R_far (p := ⟨gb110, 1, none⟩) (Kd.R_far (p := ⟨gb110, 0, none⟩) (Kd.R_mono HO103.out (fun k_ hk => (⟨hk, hk.2⟩ : _ ∧ k_ ≠ gb110))) (fun _ hk => hk.2) (.int .i64 t104)) (fun _ hk => hk.2) (.int .i64 t104)) (fun _ hk => hk.2) (.int .i64 t105)) (fun _ hk => hk.2) (.int .i64 t105)) (fun _ hk => hk.2) (.int .i64 t106)) (fun _ hk => hk.2) (.int .i64 t106)) (fun _ hk => hk.2) (.int .i64 0)) (fun _ hk => hk.1.2)⟩, ⟨by (with_reducible repeat (first | refine blk_drewN ?_ _ | refine blk_drew ?_ | refine blk_alloc ?_ _)); refine blk_far ?_ NB107_110.out _; (with_reducible repeat (first | refine blk_drewN ?_ _ | refine blk_drew ?_ | refine blk_alloc ?_ _)); refine blk_far ?_ NB107_110.out _; (with_reducible repeat (first | refine blk_drewN ?_ _ | refine blk_drew ?_ | refine blk_alloc ?_ _)); refine blk_far ?_ NB107_110.out _; (with_reducible repeat (first | refine blk_drewN ?_ _ | refine blk_drew ?_ | refine blk_alloc ?_ _)); refine blk_far ?_ NB107_110.out _; (with_reducible repeat (first | refine blk_drewN ?_ _ | refine blk_drew ?_ | refine blk_alloc ?_ _)); refine blk_far ?_ NB107_110.out _; (with_reducible repeat (first | refine blk_drewN ?_ _ | refine blk_drew ?_ | refine blk_alloc ?_ _)); refine blk_far ?_ NB107_110.out _; (with_reducible repeat (first | refine blk_drewN ?_ _ | refine blk_drew ?_ | refine blk_alloc ?_ _)); refine blk_far ?_ NB107_110.out _; (with_reducible repeat (first | refine blk_drewN ?_ _ | refine blk_drew ?_ | refine blk_alloc ?_ _)); exact BK107.out⟩, ⟨by (with_reducible repeat (first | refine blk_drewN ?_ _ | refine blk_drew ?_ | refine blk_alloc ?_ _)); refine blk_put (cs := #[.int .i64 t104, .int .i64 t104, .int .i64 t105, .int .i64 t105, .int .i64 t106, .int .i64 t106, .int .i64 0]) ?_ 6 _ rfl; (with_reducible repeat (first | refine blk_drewN ?_ _ | refine blk_drew ?_ | refine blk_alloc ?_ _)); refine blk_put (cs := #[.int .i64 t104, .int .i64 t104, .int .i64 t105, .int .i64 t105, .int .i64 t106, .int .i64 0, .int .i64 0]) ?_ 5 _ rfl; (with_reducible repeat (first | refine blk_drewN ?_ _ | refine blk_drew ?_ | refine blk_alloc ?_ _)); refine blk_put (cs := #[.int .i64 t104, .int .i64 t104, .int .i64 t105, .int .i64 t105, .int .i64 0, .int .i64 0, .int .i64 0]) ?_ 4 _ rfl; (with_reducible repeat (first | refine blk_drewN ?_ _ | refine blk_drew ?_ | refine blk_alloc ?_ _)); refine blk_put (cs := #[.int .i64 t104, .int .i64 t104, .int .i64 t105, .int .i64 0, .int .i64 0, .int .i64 0, .int .i64 0]) ?_ 3 _ rfl; (with_reducible repeat (first | refine blk_drewN ?_ _ | refine blk_drew ?_ | refine blk_alloc ?_ _)); refine blk_put (cs := #[.int .i64 t104, .int .i64 t104, .int .i64 0, .int .i64 0, .int .i64 0, .int .i64 0, .int .i64 0]) ?_ 2 _ rfl; (with_reducible repeat (first | refine blk_drewN ?_ _ | refine blk_drew ?_ | refine blk_alloc ?_ _)); refine blk_put (cs := #[.int .i64 t104, .int .i64 0, .int .i64 0, .int .i64 0, .int .i64 0, .int .i64 0, .int .i64 0]) ?_ 1 _ rfl; (with_reducible repeat (first | refine blk_drewN ?_ _ | refine blk_drew ?_ | refine blk_alloc ?_ _)); refine blk_put (cs := #[.int .i64 0, .int .i64 0, .int .i64 0, .int .i64 0, .int .i64 0, .int .i64 0, .int .i64 0]) ?_ 0 _ rfl; (with_reducible repeat (first | refine blk_drewN ?_ _ | refine blk_drew ?_ | refine blk_alloc ?_ _)); exact BK110.out⟩, ⟨by repeat (first | (with_reducible first | exact HB.out | apply below_alloc | apply pw_below_drewN | apply below_drew1 | refine below_set ?_ GE107.out | refine below_set ?_ GE110.out) | exact HB.out)⟩⟩
   case round =>
    clear H'
    try clear c1
    try clear c2
    try clear c2b0
    try clear c2b1
    try clear p2
    try clear c4
    try clear c6
    try clear c6b0
    try clear c6b1
    try clear c10
    try clear c16
    try clear hcz12_0
    try clear hcz12_1
    try clear hcz12_2
    try clear hcz14_0
    try clear hcz14_1
    try clear hcz14_2
    try clear hcz17_0
    try clear hcz17_1
    try clear hcz17_2
    try clear hcz17_3
    try clear hcz17_4
    try clear hcz17_5
    try clear hcz17_6
    try clear hcz9_0
    try clear hcz9_1
    try clear hcz9_2
    try clear hfz12_0
    try clear hfz12_1
    try clear hfz12_2
    try clear hfz14_0
    try clear hfz14_1
    try clear hfz14_2
    try clear hfz17_0
    try clear hfz17_1
    try clear hfz17_2
    try clear hfz17_3
    try clear hfz17_4
    try clear hfz17_5
    try clear hfz17_6
    try clear hfz9_0
    try clear hfz9_1
    try clear hfz9_2
    obtain ⟨x7_1, rfl, HA, HK1, HO_3, BK107, BK110, HB⟩ := hrel
    cases gk with
    | zero => exact absurd HA.out (by simp [laws_FnCellsFind.l0])
    | succ k1 =>
     have H := HA.out
     clear HA
     simp only [laws_FnCellsFind.l0] at H
     by_cases c18 : x7_1 < (t101.length : Int)
     ·rw [if_pos c18] at H
      have c18b0 : decide (x7_1 < (t101.length : Int)) = true := decide_eq_true c18
      clear c18
      by_cases c19 : 0 ≤ x7_1
      ·rw [if_pos c19] at H
       have c19b0 : decide (0 ≤ x7_1) = true := decide_eq_true c19
       clear c19
       replace H := Option.bind_eq_some_iff.mp H
       obtain ⟨t112, A200, H⟩ := H
       replace H : (if t112 = true then (some (t108 == ((rd_T67 t101 x7_1).f6))) else (laws_FnCellsFind.l0 k1 t101 t108 (wrap64 (x7_1 + 1)) t104 t104 t105 t105 t106 t106 0)) = some r := H
       have A20 := Aside0.mk A200
       clear A200
       by_cases c21 : t112 = true
       ·subst c21
        have H1 : (some (t108 == ((rd_T67 t101 x7_1).f6))) = some r := by rw [if_pos rfl] at H; exact H
        clear H
        have H := H1
        clear H1
        obtain rfl := Option.some.inj H
        try go_wp2
        have n0_ := Aside0.mk (Kd.R_drew HO_3.out)
        have n1_ := Aside0.mk (blk_drew BK107.out)
        have n2_ := Aside0.mk (blk_drew BK110.out)
        have n3_ := Aside0.mk (below_drew1 HB.out)
        clear HO_3
        clear BK107
        clear BK110
        clear HB
        have HO_3 := n0_
        have BK107 := n1_
        have BK110 := n2_
        have HB := n3_
        clear n0_ n1_ n2_ n3_
        have p111 : 0 ≤ (x7_1 : Int) := of_decide_eq_true (by first | (with_reducible assumption) | assumption)
        have q111 : x7_1 < (t101.length : Int) := of_decide_eq_true (by first | (with_reducible assumption) | assumption)
        obtain ⟨ad111, e111, hx111_0, hx111_1, hx111_2, hx111_3, hx111_4, hx111_5, hx111_6⟩ := at_T67 (Kd.R_reads' HO_3.out).2.2 x7_1 p111 q111
        cases e111
        replace p111 := eq_true p111
        replace q111 := eq_true q111
        refine start_ (n := 6) (S := fun w' => w'.cell? ⟨gb110, 0, none⟩ = some (.int .i64 t104) ∧ w'.cell? ⟨gb110, 1, none⟩ = some (.int .i64 t104) ∧ w'.cell? ⟨gb110, 2, none⟩ = some (.int .i64 t105) ∧ w'.cell? ⟨gb110, 3, none⟩ = some (.int .i64 t105) ∧ w'.cell? ⟨gb110, 4, none⟩ = some (.int .i64 t106) ∧ w'.cell? ⟨gb110, 5, none⟩ = some (.int .i64 t106) ∧ w'.cell? ⟨gb110, 6, none⟩ = some (.int .i64 0) ∧ w'.cell? (ad111.add ((x7_1).toNat * 7)) = some (.int .i64 ((rd_T67 t101 x7_1).f0)) ∧ w'.cell? ⟨(ad111.add ((x7_1).toNat * 7)).block, (ad111.add ((x7_1).toNat * 7)).off + 1, none⟩ = some (.int .i64 ((rd_T67 t101 x7_1).f1)) ∧ w'.cell? ⟨(ad111.add ((x7_1).toNat * 7)).block, (ad111.add ((x7_1).toNat * 7)).off + 2, none⟩ = some (.int .i64 ((rd_T67 t101 x7_1).f2)) ∧ w'.cell? ⟨(ad111.add ((x7_1).toNat * 7)).block, (ad111.add ((x7_1).toNat * 7)).off + 3, none⟩ = some (.int .i64 ((rd_T67 t101 x7_1).f3)) ∧ w'.cell? ⟨(ad111.add ((x7_1).toNat * 7)).block, (ad111.add ((x7_1).toNat * 7)).off + 4, none⟩ = some (.int .i64 ((rd_T67 t101 x7_1).f4)) ∧ w'.cell? ⟨(ad111.add ((x7_1).toNat * 7)).block, (ad111.add ((x7_1).toNat * 7)).off + 5, none⟩ = some (.int .i64 ((rd_T67 t101 x7_1).f5)) ∧ w'.cell? ⟨(ad111.add ((x7_1).toNat * 7)).block, (ad111.add ((x7_1).toNat * 7)).off + 6, none⟩ = some (.int .i64 ((rd_T67 t101 x7_1).f6))) (ds := []) #[false, false, false, false, false, false] (by kernel_rfl) rfl rfl ⟨(blk_cell BK110.out 0).trans rfl, (blk_cell BK110.out 1).trans rfl, (blk_cell BK110.out 2).trans rfl, (blk_cell BK110.out 3).trans rfl, (blk_cell BK110.out 4).trans rfl, (blk_cell BK110.out 5).trans rfl, (blk_cell BK110.out 6).trans rfl, hx111_0, hx111_1, hx111_2, hx111_3, hx111_4, hx111_5, hx111_6⟩ (fun hHeld => ?_)
        generalize wr.drew = w22 at HO_3 BK107 BK110 HB hx111_0 hx111_1 hx111_2 hx111_3 hx111_4 hx111_5 hx111_6 hHeld ⊢
        refine pure_ (i := 0) (N := some 43) (v := ?_) (a' := ?_) #[true, false, false, false, false, false] rfl rfl (by kernel_rfl) (fun _ _ _ h => h) (Or.inl ⟨by rfl, ?_⟩) ?_ ?_
        rotate_left
        ·intro w'
         go_simp
         with_reducible rfl
        rotate_left
        ·simp only [Act.put, List.setIfInBounds_toArray, List.set_cons_zero, List.set_cons_succ, i64_w, i32_w]
         rfl
        refine pure_ (i := 1) (N := some 44) (v := ?_) (a' := ?_) #[true, true, false, false, false, false] rfl rfl (by kernel_rfl) (fun _ _ _ h => h) (Or.inl ⟨by rfl, ?_⟩) ?_ ?_
        rotate_left
        ·intro w'
         go_simp
         with_reducible rfl
        rotate_left
        ·simp only [Act.put, List.setIfInBounds_toArray, List.set_cons_zero, List.set_cons_succ, i64_w, i32_w]
         rfl
        refine pure_ (i := 2) (N := some 45) (v := ?_) (a' := ?_) #[true, true, true, false, false, false] rfl rfl (by kernel_rfl) (fun _ _ _ h => h) (Or.inl ⟨by rfl, ?_⟩) ?_ ?_
        rotate_left
        ·intro w'
         go_simp
         with_reducible rfl
        rotate_left
        ·simp only [Act.put, List.setIfInBounds_toArray, List.set_cons_zero, List.set_cons_succ, i64_w, i32_w]
         rfl
        refine take_ (i := 3) (N := some 46) (v := ?_) (a' := ?_) #[true, true, true, true, false, false] rfl rfl (by kernel_rfl) (fun _ _ _ h => h) (Or.inl ⟨by rfl, ?_⟩) hHeld ?_ ?_
        rotate_left
        ·rintro w' ⟨s0, s1, s2, s3, s4, s5, s6, s7, s8, s9, s10, s11, s12, s13⟩
         go_simp
         with_reducible rfl
        rotate_left
        ·simp only [Act.put, List.setIfInBounds_toArray, List.set_cons_zero, List.set_cons_succ, i64_w, i32_w]
         rfl
        refine take_ (i := 4) (N := some 47) (v := ?_) (a' := ?_) #[true, true, true, true, true, false] rfl rfl (by kernel_rfl) (fun _ _ _ h => h) (Or.inl ⟨by rfl, ?_⟩) hHeld ?_ ?_
        rotate_left
        ·rintro w' ⟨s0, s1, s2, s3, s4, s5, s6, s7, s8, s9, s10, s11, s12, s13⟩
         go_simp
         with_reducible rfl
        rotate_left
        ·simp only [Act.put, List.setIfInBounds_toArray, List.set_cons_zero, List.set_cons_succ, i64_w, i32_w]
         rfl
        refine one_ (i := 5) (N := some 48) #[true, true, true, true, true, true] rfl rfl (by kernel_rfl) (by decide) (fun K hK => ?_)
        refine goes_ Try.func46 (by kernel_rfl) rfl #[.agg #[.int .i64 ((rd_T67 t101 x7_1).f0), .int .i64 ((rd_T67 t101 x7_1).f1), .int .i64 ((rd_T67 t101 x7_1).f2), .int .i64 ((rd_T67 t101 x7_1).f3), .int .i64 ((rd_T67 t101 x7_1).f4), .int .i64 ((rd_T67 t101 x7_1).f5), .int .i64 ((rd_T67 t101 x7_1).f6)], .agg #[.int .i64 t104, .int .i64 t104, .int .i64 t105, .int .i64 t105, .int .i64 t106, .int .i64 t106, .int .i64 0]] (by rfl) rfl rfl (by (try simp only [List.map_toArray, List.map_cons, List.map_nil]); first | done | rfl | (simp only [List.length_drop, List.length_take]; rfl)) ?_
        with_reducible refine (impl_CellsMeet.calls ((rd_T67 t101 x7_1).f0) ((rd_T67 t101 x7_1).f1) ((rd_T67 t101 x7_1).f2) ((rd_T67 t101 x7_1).f3) ((rd_T67 t101 x7_1).f4) ((rd_T67 t101 x7_1).f5) ((rd_T67 t101 x7_1).f6) t104 t104 t105 t105 t106 t106 0 true _ A20.out).mono ?_
        rintro e w23 ⟨rfl, hb⟩
        have HS7_ := (hb.cell (World.block_lt_of_cell? _ _ (hHeld.2.2.2.2.2.2.2.1))).trans (hHeld.2.2.2.2.2.2.2.1)
        have HS8_ := (hb.cell (World.block_lt_of_cell? _ _ (hHeld.2.2.2.2.2.2.2.2.1))).trans (hHeld.2.2.2.2.2.2.2.2.1)
        have HS9_ := (hb.cell (World.block_lt_of_cell? _ _ (hHeld.2.2.2.2.2.2.2.2.2.1))).trans (hHeld.2.2.2.2.2.2.2.2.2.1)
        have HS10_ := (hb.cell (World.block_lt_of_cell? _ _ (hHeld.2.2.2.2.2.2.2.2.2.2.1))).trans (hHeld.2.2.2.2.2.2.2.2.2.2.1)
        have HS11_ := (hb.cell (World.block_lt_of_cell? _ _ (hHeld.2.2.2.2.2.2.2.2.2.2.2.1))).trans (hHeld.2.2.2.2.2.2.2.2.2.2.2.1)
        have HS12_ := (hb.cell (World.block_lt_of_cell? _ _ (hHeld.2.2.2.2.2.2.2.2.2.2.2.2.1))).trans (hHeld.2.2.2.2.2.2.2.2.2.2.2.2.1)
        have HS13_ := (hb.cell (World.block_lt_of_cell? _ _ (hHeld.2.2.2.2.2.2.2.2.2.2.2.2.2))).trans (hHeld.2.2.2.2.2.2.2.2.2.2.2.2.2)
        refine ⟨_, rfl, ?_⟩
        have n0_ := Aside0.mk (Kd.R_below (by (with_reducible repeat (first | apply Kd.R_alloc | apply Kd.R_drewN | apply Kd.R_drew)); exact HO_3.out) hb)
        have n1_ := Aside0.mk (blk_below (g := gb107) (o := .cells #[.int .i64 t104, .int .i64 t105, .int .i64 t106] 36 (0, 0)) (by (with_reducible repeat (first | refine blk_drewN ?_ _ | refine blk_drew ?_ | refine blk_alloc ?_ _)); exact BK107.out) hb)
        have n2_ := Aside0.mk (blk_below (g := gb110) (o := .cells #[.int .i64 t104, .int .i64 t104, .int .i64 t105, .int .i64 t105, .int .i64 t106, .int .i64 t106, .int .i64 0] 67 (0, 0)) (by (with_reducible repeat (first | refine blk_drewN ?_ _ | refine blk_drew ?_ | refine blk_alloc ?_ _)); exact BK110.out) hb)
        have n3_ := Aside0.mk (below_step (by repeat (first | (with_reducible first | exact HB.out | apply below_alloc | apply pw_below_drewN | apply below_drew1 | refine below_set ?_ GE107.out | refine below_set ?_ GE110.out) | exact HB.out)) hb)
        clear HO_3
        clear BK107
        clear BK110
        clear HB
        have HO_3 := n0_
        have BK107 := n1_
        have BK110 := n2_
        have HB := n3_
        clear n0_ n1_ n2_ n3_
        (try clear hb)
        (try clear hb2)
        (try clear hk)
        (try clear hi)
        refine hK.out _ _ ⟨(blk_cell BK110.out 0).trans rfl, (blk_cell BK110.out 1).trans rfl, (blk_cell BK110.out 2).trans rfl, (blk_cell BK110.out 3).trans rfl, (blk_cell BK110.out 4).trans rfl, (blk_cell BK110.out 5).trans rfl, (blk_cell BK110.out 6).trans rfl, HS7_, HS8_, HS9_, HS10_, HS11_, HS12_, HS13_⟩ (fun hHeld => ?_)
        clear hK K
        refine norm_ (a' := ?_) ?_ ?_
        rotate_left
        ·show Act.put _ (some 48) _ = _
         simp only [Act.put, List.setIfInBounds_toArray, List.set_cons_zero, List.set_cons_succ, i64_w, i32_w]
         rfl
        refine done_ (by kernel_rfl) ?_
        have p113 : 0 ≤ (x7_1 : Int) := of_decide_eq_true (by first | (with_reducible assumption) | assumption)
        have q113 : x7_1 < (t101.length : Int) := of_decide_eq_true (by first | (with_reducible assumption) | assumption)
        obtain ⟨ad113, e113, hx113_0, hx113_1, hx113_2, hx113_3, hx113_4, hx113_5, hx113_6⟩ := at_T67 (Kd.R_reads' HO_3.out).2.2 x7_1 p113 q113
        obtain rfl : ad111 = ad113 := (by injection e113)
        replace p113 := eq_true p113
        replace q113 := eq_true q113
        try go_wp2
        go_ret
        exact ⟨by first | rfl | (simp [errW_none, errW_some] <;> rfl) | (simp [*, errW_none, errW_some] <;> rfl), by repeat (first | (with_reducible first | exact HB.out | apply below_alloc | apply pw_below_drewN | apply below_drew1 | refine below_set ?_ GE107.out | refine below_set ?_ GE110.out) | exact HB.out)⟩
       ·replace c21 := Bool.eq_false_iff.mpr c21
        subst c21
        have H1 : (laws_FnCellsFind.l0 k1 t101 t108 (wrap64 (x7_1 + 1)) t104 t104 t105 t105 t106 t106 0) = some r := by rw [if_neg (show ¬ (false = true) by decide)] at H; exact H
        clear H
        have H := H1
        clear H1
        have H' := Aside0.mk H
        clear H
        try go_wp2
        have n0_ := Aside0.mk (Kd.R_drew HO_3.out)
        have n1_ := Aside0.mk (blk_drew BK107.out)
        have n2_ := Aside0.mk (blk_drew BK110.out)
        have n3_ := Aside0.mk (below_drew1 HB.out)
        clear HO_3
        clear BK107
        clear BK110
        clear HB
        have HO_3 := n0_
        have BK107 := n1_
        have BK110 := n2_
        have HB := n3_
        clear n0_ n1_ n2_ n3_
        have p111 : 0 ≤ (x7_1 : Int) := of_decide_eq_true (by first | (with_reducible assumption) | assumption)
        have q111 : x7_1 < (t101.length : Int) := of_decide_eq_true (by first | (with_reducible assumption) | assumption)
        obtain ⟨ad111, e111, hx111_0, hx111_1, hx111_2, hx111_3, hx111_4, hx111_5, hx111_6⟩ := at_T67 (Kd.R_reads' HO_3.out).2.2 x7_1 p111 q111
        cases e111
        replace p111 := eq_true p111
        replace q111 := eq_true q111
        refine start_ (n := 6) (S := fun w' => w'.cell? ⟨gb110, 0, none⟩ = some (.int .i64 t104) ∧ w'.cell? ⟨gb110, 1, none⟩ = some (.int .i64 t104) ∧ w'.cell? ⟨gb110, 2, none⟩ = some (.int .i64 t105) ∧ w'.cell? ⟨gb110, 3, none⟩ = some (.int .i64 t105) ∧ w'.cell? ⟨gb110, 4, none⟩ = some (.int .i64 t106) ∧ w'.cell? ⟨gb110, 5, none⟩ = some (.int .i64 t106) ∧ w'.cell? ⟨gb110, 6, none⟩ = some (.int .i64 0) ∧ w'.cell? (ad111.add ((x7_1).toNat * 7)) = some (.int .i64 ((rd_T67 t101 x7_1).f0)) ∧ w'.cell? ⟨(ad111.add ((x7_1).toNat * 7)).block, (ad111.add ((x7_1).toNat * 7)).off + 1, none⟩ = some (.int .i64 ((rd_T67 t101 x7_1).f1)) ∧ w'.cell? ⟨(ad111.add ((x7_1).toNat * 7)).block, (ad111.add ((x7_1).toNat * 7)).off + 2, none⟩ = some (.int .i64 ((rd_T67 t101 x7_1).f2)) ∧ w'.cell? ⟨(ad111.add ((x7_1).toNat * 7)).block, (ad111.add ((x7_1).toNat * 7)).off + 3, none⟩ = some (.int .i64 ((rd_T67 t101 x7_1).f3)) ∧ w'.cell? ⟨(ad111.add ((x7_1).toNat * 7)).block, (ad111.add ((x7_1).toNat * 7)).off + 4, none⟩ = some (.int .i64 ((rd_T67 t101 x7_1).f4)) ∧ w'.cell? ⟨(ad111.add ((x7_1).toNat * 7)).block, (ad111.add ((x7_1).toNat * 7)).off + 5, none⟩ = some (.int .i64 ((rd_T67 t101 x7_1).f5)) ∧ w'.cell? ⟨(ad111.add ((x7_1).toNat * 7)).block, (ad111.add ((x7_1).toNat * 7)).off + 6, none⟩ = some (.int .i64 ((rd_T67 t101 x7_1).f6))) (ds := []) #[false, false, false, false, false, false] (by kernel_rfl) rfl rfl ⟨(blk_cell BK110.out 0).trans rfl, (blk_cell BK110.out 1).trans rfl, (blk_cell BK110.out 2).trans rfl, (blk_cell BK110.out 3).trans rfl, (blk_cell BK110.out 4).trans rfl, (blk_cell BK110.out 5).trans rfl, (blk_cell BK110.out 6).trans rfl, hx111_0, hx111_1, hx111_2, hx111_3, hx111_4, hx111_5, hx111_6⟩ (fun hHeld => ?_)
        generalize wr.drew = w24 at HO_3 BK107 BK110 HB hx111_0 hx111_1 hx111_2 hx111_3 hx111_4 hx111_5 hx111_6 hHeld ⊢
        refine pure_ (i := 0) (N := some 43) (v := ?_) (a' := ?_) #[true, false, false, false, false, false] rfl rfl (by kernel_rfl) (fun _ _ _ h => h) (Or.inl ⟨by rfl, ?_⟩) ?_ ?_
        rotate_left
        ·intro w'
         go_simp
         with_reducible rfl
        rotate_left
        ·simp only [Act.put, List.setIfInBounds_toArray, List.set_cons_zero, List.set_cons_succ, i64_w, i32_w]
         rfl
        refine pure_ (i := 1) (N := some 44) (v := ?_) (a' := ?_) #[true, true, false, false, false, false] rfl rfl (by kernel_rfl) (fun _ _ _ h => h) (Or.inl ⟨by rfl, ?_⟩) ?_ ?_
        rotate_left
        ·intro w'
         go_simp
         with_reducible rfl
        rotate_left
        ·simp only [Act.put, List.setIfInBounds_toArray, List.set_cons_zero, List.set_cons_succ, i64_w, i32_w]
         rfl
        refine pure_ (i := 2) (N := some 45) (v := ?_) (a' := ?_) #[true, true, true, false, false, false] rfl rfl (by kernel_rfl) (fun _ _ _ h => h) (Or.inl ⟨by rfl, ?_⟩) ?_ ?_
        rotate_left
        ·intro w'
         go_simp
         with_reducible rfl
        rotate_left
        ·simp only [Act.put, List.setIfInBounds_toArray, List.set_cons_zero, List.set_cons_succ, i64_w, i32_w]
         rfl
        refine take_ (i := 3) (N := some 46) (v := ?_) (a' := ?_) #[true, true, true, true, false, false] rfl rfl (by kernel_rfl) (fun _ _ _ h => h) (Or.inl ⟨by rfl, ?_⟩) hHeld ?_ ?_
        rotate_left
        ·rintro w' ⟨s0, s1, s2, s3, s4, s5, s6, s7, s8, s9, s10, s11, s12, s13⟩
         go_simp
         with_reducible rfl
        rotate_left
        ·simp only [Act.put, List.setIfInBounds_toArray, List.set_cons_zero, List.set_cons_succ, i64_w, i32_w]
         rfl
        refine take_ (i := 4) (N := some 47) (v := ?_) (a' := ?_) #[true, true, true, true, true, false] rfl rfl (by kernel_rfl) (fun _ _ _ h => h) (Or.inl ⟨by rfl, ?_⟩) hHeld ?_ ?_
        rotate_left
        ·rintro w' ⟨s0, s1, s2, s3, s4, s5, s6, s7, s8, s9, s10, s11, s12, s13⟩
         go_simp
         with_reducible rfl
        rotate_left
        ·simp only [Act.put, List.setIfInBounds_toArray, List.set_cons_zero, List.set_cons_succ, i64_w, i32_w]
         rfl
        refine one_ (i := 5) (N := some 48) #[true, true, true, true, true, true] rfl rfl (by kernel_rfl) (by decide) (fun K hK => ?_)
        refine goes_ Try.func46 (by kernel_rfl) rfl #[.agg #[.int .i64 ((rd_T67 t101 x7_1).f0), .int .i64 ((rd_T67 t101 x7_1).f1), .int .i64 ((rd_T67 t101 x7_1).f2), .int .i64 ((rd_T67 t101 x7_1).f3), .int .i64 ((rd_T67 t101 x7_1).f4), .int .i64 ((rd_T67 t101 x7_1).f5), .int .i64 ((rd_T67 t101 x7_1).f6)], .agg #[.int .i64 t104, .int .i64 t104, .int .i64 t105, .int .i64 t105, .int .i64 t106, .int .i64 t106, .int .i64 0]] (by rfl) rfl rfl (by (try simp only [List.map_toArray, List.map_cons, List.map_nil]); first | done | rfl | (simp only [List.length_drop, List.length_take]; rfl)) ?_
        with_reducible refine (impl_CellsMeet.calls ((rd_T67 t101 x7_1).f0) ((rd_T67 t101 x7_1).f1) ((rd_T67 t101 x7_1).f2) ((rd_T67 t101 x7_1).f3) ((rd_T67 t101 x7_1).f4) ((rd_T67 t101 x7_1).f5) ((rd_T67 t101 x7_1).f6) t104 t104 t105 t105 t106 t106 0 false _ A20.out).mono ?_
        rintro e w25 ⟨rfl, hb⟩
        have HS7_ := (hb.cell (World.block_lt_of_cell? _ _ (hHeld.2.2.2.2.2.2.2.1))).trans (hHeld.2.2.2.2.2.2.2.1)
        have HS8_ := (hb.cell (World.block_lt_of_cell? _ _ (hHeld.2.2.2.2.2.2.2.2.1))).trans (hHeld.2.2.2.2.2.2.2.2.1)
        have HS9_ := (hb.cell (World.block_lt_of_cell? _ _ (hHeld.2.2.2.2.2.2.2.2.2.1))).trans (hHeld.2.2.2.2.2.2.2.2.2.1)
        have HS10_ := (hb.cell (World.block_lt_of_cell? _ _ (hHeld.2.2.2.2.2.2.2.2.2.2.1))).trans (hHeld.2.2.2.2.2.2.2.2.2.2.1)
        have HS11_ := (hb.cell (World.block_lt_of_cell? _ _ (hHeld.2.2.2.2.2.2.2.2.2.2.2.1))).trans (hHeld.2.2.2.2.2.2.2.2.2.2.2.1)
        have HS12_ := (hb.cell (World.block_lt_of_cell? _ _ (hHeld.2.2.2.2.2.2.2.2.2.2.2.2.1))).trans (hHeld.2.2.2.2.2.2.2.2.2.2.2.2.1)
        have HS13_ := (hb.cell (World.block_lt_of_cell? _ _ (hHeld.2.2.2.2.2.2.2.2.2.2.2.2.2))).trans (hHeld.2.2.2.2.2.2.2.2.2.2.2.2.2)
        refine ⟨_, rfl, ?_⟩
        have n0_ := Aside0.mk (Kd.R_below (by (with_reducible repeat (first | apply Kd.R_alloc | apply Kd.R_drewN | apply Kd.R_drew)); exact HO_3.out) hb)
        have n1_ := Aside0.mk (blk_below (g := gb107) (o := .cells #[.int .i64 t104, .int .i64 t105, .int .i64 t106] 36 (0, 0)) (by (with_reducible repeat (first | refine blk_drewN ?_ _ | refine blk_drew ?_ | refine blk_alloc ?_ _)); exact BK107.out) hb)
        have n2_ := Aside0.mk (blk_below (g := gb110) (o := .cells #[.int .i64 t104, .int .i64 t104, .int .i64 t105, .int .i64 t105, .int .i64 t106, .int .i64 t106, .int .i64 0] 67 (0, 0)) (by (with_reducible repeat (first | refine blk_drewN ?_ _ | refine blk_drew ?_ | refine blk_alloc ?_ _)); exact BK110.out) hb)
        have n3_ := Aside0.mk (below_step (by repeat (first | (with_reducible first | exact HB.out | apply below_alloc | apply pw_below_drewN | apply below_drew1 | refine below_set ?_ GE107.out | refine below_set ?_ GE110.out) | exact HB.out)) hb)
        clear HO_3
        clear BK107
        clear BK110
        clear HB
        have HO_3 := n0_
        have BK107 := n1_
        have BK110 := n2_
        have HB := n3_
        clear n0_ n1_ n2_ n3_
        (try clear hb)
        (try clear hb2)
        (try clear hk)
        (try clear hi)
        refine hK.out _ _ ⟨(blk_cell BK110.out 0).trans rfl, (blk_cell BK110.out 1).trans rfl, (blk_cell BK110.out 2).trans rfl, (blk_cell BK110.out 3).trans rfl, (blk_cell BK110.out 4).trans rfl, (blk_cell BK110.out 5).trans rfl, (blk_cell BK110.out 6).trans rfl, HS7_, HS8_, HS9_, HS10_, HS11_, HS12_, HS13_⟩ (fun hHeld => ?_)
        clear hK K
        refine norm_ (a' := ?_) ?_ ?_
        rotate_left
        ·show Act.put _ (some 48) _ = _
         simp only [Act.put, List.setIfInBounds_toArray, List.set_cons_zero, List.set_cons_succ, i64_w, i32_w]
         rfl
        refine done_ (by kernel_rfl) ?_
        try go_wp2
        go_roundg k1
        case measure => have := HK1.out; omega
        case rel => exact ⟨(wrap64 (x7_1 + 1)), (by first | rfl | (simp; done) | (simp [*]; done)), H', ⟨by have := HK1.out; omega⟩, ⟨by (with_reducible repeat (first | apply Kd.R_alloc | apply Kd.R_drewN | apply Kd.R_drew)); exact HO_3.out⟩, ⟨by (with_reducible repeat (first | refine blk_drewN ?_ _ | refine blk_drew ?_ | refine blk_alloc ?_ _)); exact BK107.out⟩, ⟨by (with_reducible repeat (first | refine blk_drewN ?_ _ | refine blk_drew ?_ | refine blk_alloc ?_ _)); exact BK110.out⟩, ⟨by repeat (first | (with_reducible first | exact HB.out | apply below_alloc | apply pw_below_drewN | apply below_drew1 | refine below_set ?_ GE107.out | refine below_set ?_ GE110.out) | exact HB.out)⟩⟩
      ·rw [if_neg c19] at H
       exact absurd H (by simp)
     ·rw [if_neg c18] at H
      have c18b0 : decide (x7_1 < (t101.length : Int)) = false := decide_eq_false c18
      clear c18
      obtain rfl := Option.some.inj H
      go_wp2
      go_ret
      exact ⟨by first | rfl | (simp [errW_none, errW_some] <;> rfl) | (simp [*, errW_none, errW_some] <;> rfl), by repeat (first | (with_reducible first | exact HB.out | apply below_alloc | apply pw_below_drewN | apply below_drew1 | refine below_set ?_ GE107.out | refine below_set ?_ GE110.out) | exact HB.out)⟩
  ·rw [if_neg c6] at H
   have c6b0 : (t108 == t109) = false := beq_eq_false_iff_ne.mpr c6
   have c6b1 : (t108 != t109) = true := bne_iff_ne.mpr c6
   obtain rfl := Option.some.inj H
   go_enter Try.func10, Try.ntmps10
   go_wp2_with (first | ((with_reducible refine gate_callee (f := 49) rfl ?_); refine goesL_ (some 13) rfl rfl Try.func49 (by kernel_rfl) rfl #[.slice A0 l0.length c0] rfl (by (try simp only [List.map_toArray, List.map_cons, List.map_nil]); first | done | rfl | (simp only [List.length_drop, List.length_take]; rfl)) ?_; (with_reducible refine (spec_DrawCellsFind.calls k _ _ l0 t101 t104 t105 t106 _ ?side1 ?side2 A3.out).mono ?_); (case side1 => repeat (first | exact HR0.out | (with_reducible refine Kd.C_alloc ?_ _) | (with_reducible refine Kd.C_drewN ?_ _) | (with_reducible refine Kd.C_drew ?_))); (case side2 => exact HC0.out); rintro e w26 ⟨v102, rfl, ho0, hb⟩; refine ⟨_, rfl, ?_⟩; have n0_ := Aside0.mk (Kd.R_lower ho0 (below_size (by repeat (first | (with_reducible first | exact HB.out | apply below_alloc | apply pw_below_drewN | apply below_drew1) | exact HB.out)))); have n1_ := Aside0.mk (below_step (by repeat (first | (with_reducible first | exact HB.out | apply below_alloc | apply pw_below_drewN | apply below_drew1) | exact HB.out)) hb); clear HB; have HO103 := n0_; have HB := n1_; clear n0_ n1_; (try clear hb); (try clear hb2); (try clear hk); (try clear hi); (try clear ho0)) | ((with_reducible refine gate_dst (N := 4) rfl ?_); refine box_event ?hg (N := 4) ?hd (cs := #[.int .i64 0, .int .i64 0, .int .i64 0]) (t := 36) ?hr ?_; (case hd => rfl); (case hg => rfl); (case hr => first | (go_simp; done) | (go_simp; rfl)); intro gb107 hg w27 hbox hb; have n0_ := Aside0.mk (Kd.R_below (by (with_reducible repeat (first | apply Kd.R_alloc | apply Kd.R_drewN | apply Kd.R_drew)); exact HO103.out) hb); have n1_ := Aside0.mk (below_step (by repeat (first | (with_reducible first | exact HB.out | apply below_alloc | apply pw_below_drewN | apply below_drew1) | exact HB.out)) hb); have n2_ := Aside0.mk (hbox); have n3_ := Aside0.mk ((by rw [hg]; exact (below_size (by repeat (first | (with_reducible first | exact HB.out | apply below_alloc | apply pw_below_drewN | apply below_drew1) | exact HB.out))) : w.heap.size ≤ gb107)); have n4_ := Aside0.mk ((by rw [hg]; exact (below_size (by repeat (first | (with_reducible first | exact HB.out | apply below_alloc | apply pw_below_drewN | apply below_drew1) | exact HB.out))) : w.heap.size ≤ gb107)); clear HO103; clear HB; have HO103 := n0_; have HB := n1_; have BK107 := n2_; have GW107 := n3_; have GE107 := n4_; clear n0_ n1_ n2_ n3_ n4_; clear hb hbox hg; have hcz28_0 : w27.cell? ⟨gb107, 0, none⟩ = some (.int .i64 0) := (blk_cell BK107.out 0).trans rfl; have hcz28_1 : w27.cell? ⟨gb107, 1, none⟩ = some (.int .i64 0) := (blk_cell BK107.out 1).trans rfl; have hcz28_2 : w27.cell? ⟨gb107, 2, none⟩ = some (.int .i64 0) := (blk_cell BK107.out 2).trans rfl; have hfz28_0 := blk_frozen BK107.out 0; have hfz28_1 := blk_frozen BK107.out 1; have hfz28_2 := blk_frozen BK107.out 2; obtain ⟨Ao29, co29, eo29⟩ := Kd.R_slice HO103.out; subst eo29) | ((with_reducible refine gate_callee (f := 22) rfl ?_); refine goesL_ (some 18) rfl rfl Try.func22 (by kernel_rfl) rfl #[.slice Ao29 t101.length co29, .agg #[.int .i64 t104, .int .i64 t105, .int .i64 t106]] rfl (by (try simp only [List.map_toArray, List.map_cons, List.map_nil]); first | done | rfl | (simp only [List.length_drop, List.length_take]; rfl)) ?_; (with_reducible refine (impl_CellsFind.calls k _ _ t101 t104 t105 t106 t108 _ ?side1 ?side2 A4.out).mono ?_); (case side1 => refine (Kd.R_reads' (e := 67) (base := w.heap.size) (ok := fun k_ => True) (n := t101.length) (c := co29) ?_).2.2; exact (by (with_reducible repeat (first | apply Kd.R_alloc | apply Kd.R_drewN | apply Kd.R_drew)); exact (Kd.R_mono (Kd.R_far (p := ⟨gb107, 2, none⟩) (Kd.R_far (p := ⟨gb107, 1, none⟩) (Kd.R_far (p := ⟨gb107, 0, none⟩) (Kd.R_types HO103.out BK107.out (by decide)) (fun _ hk => hk.2) (.int .i64 t104)) (fun _ hk => hk.2) (.int .i64 t105)) (fun _ hk => hk.2) (.int .i64 t106)) (fun _ h_ => h_.1)))); (case side2 => exact (Kd.R_reads' HO103.out).2.1); rintro e w30 ⟨rfl, hb⟩; refine ⟨_, rfl, ?_⟩; have n0_ := Aside0.mk (Kd.R_below (by (with_reducible repeat (first | apply Kd.R_alloc | apply Kd.R_drewN | apply Kd.R_drew)); exact (Kd.R_mono (Kd.R_far (p := ⟨gb107, 2, none⟩) (Kd.R_far (p := ⟨gb107, 1, none⟩) (Kd.R_far (p := ⟨gb107, 0, none⟩) (Kd.R_types HO103.out BK107.out (by decide)) (fun _ hk => hk.2) (.int .i64 t104)) (fun _ hk => hk.2) (.int .i64 t105)) (fun _ hk => hk.2) (.int .i64 t106)) (fun _ h_ => h_.1))) hb); have n1_ := Aside0.mk (blk_below (g := gb107) (o := .cells #[.int .i64 t104, .int .i64 t105, .int .i64 t106] 36 (0, 0)) (by (with_reducible repeat (first | refine blk_drewN ?_ _ | refine blk_drew ?_ | refine blk_alloc ?_ _)); refine blk_put (cs := #[.int .i64 t104, .int .i64 t105, .int .i64 0]) ?_ 2 _ rfl; (with_reducible repeat (first | refine blk_drewN ?_ _ | refine blk_drew ?_ | refine blk_alloc ?_ _)); refine blk_put (cs := #[.int .i64 t104, .int .i64 0, .int .i64 0]) ?_ 1 _ rfl; (with_reducible repeat (first | refine blk_drewN ?_ _ | refine blk_drew ?_ | refine blk_alloc ?_ _)); refine blk_put (cs := #[.int .i64 0, .int .i64 0, .int .i64 0]) ?_ 0 _ rfl; (with_reducible repeat (first | refine blk_drewN ?_ _ | refine blk_drew ?_ | refine blk_alloc ?_ _)); exact BK107.out) hb); have n2_ := Aside0.mk (below_step (by repeat (first | (with_reducible first | exact HB.out | apply below_alloc | apply pw_below_drewN | apply below_drew1 | refine below_set ?_ GE107.out) | exact HB.out)) hb); clear HO103; clear BK107; clear HB; have HO103 := n0_; have BK107 := n1_; have HB := n2_; clear n0_ n1_ n2_; (try clear hb); (try clear hb2); (try clear hk); (try clear hi); have hcz31_0 : w30.cell? ⟨gb107, 0, none⟩ = some (.int .i64 t104) := (blk_cell BK107.out 0).trans rfl; have hcz31_1 : w30.cell? ⟨gb107, 1, none⟩ = some (.int .i64 t105) := (blk_cell BK107.out 1).trans rfl; have hcz31_2 : w30.cell? ⟨gb107, 2, none⟩ = some (.int .i64 t106) := (blk_cell BK107.out 2).trans rfl; have hfz31_0 := blk_frozen BK107.out 0; have hfz31_1 := blk_frozen BK107.out 1; have hfz31_2 := blk_frozen BK107.out 2) | ((with_reducible refine gate_callee (f := 19) rfl ?_); refine goesL_ (some 22) rfl rfl Try.func19 (by kernel_rfl) rfl #[.slice Ao29 t101.length co29, .agg #[.int .i64 t104, .int .i64 t105, .int .i64 t106]] rfl (by (try simp only [List.map_toArray, List.map_cons, List.map_nil]); first | done | rfl | (simp only [List.length_drop, List.length_take]; rfl)) ?_; (with_reducible refine (spec_CellsFind.calls k _ _ t101 t104 t105 t106 t109 _ ?side1 ?side2 A5.out).mono ?_); (case side1 => repeat (first | exact (Kd.R_reads' HO103.out).2.2 | (with_reducible refine Kd.C_alloc ?_ _) | (with_reducible refine Kd.C_drewN ?_ _) | (with_reducible refine Kd.C_drew ?_))); (case side2 => exact (Kd.R_reads' HO103.out).2.1); rintro e w32 ⟨rfl, hb⟩; refine ⟨_, rfl, ?_⟩; have n0_ := Aside0.mk (Kd.R_below (by (with_reducible repeat (first | apply Kd.R_alloc | apply Kd.R_drewN | apply Kd.R_drew)); exact HO103.out) hb); have n1_ := Aside0.mk (blk_below (g := gb107) (o := .cells #[.int .i64 t104, .int .i64 t105, .int .i64 t106] 36 (0, 0)) (by (with_reducible repeat (first | refine blk_drewN ?_ _ | refine blk_drew ?_ | refine blk_alloc ?_ _)); exact BK107.out) hb); have n2_ := Aside0.mk (below_step (by repeat (first | (with_reducible first | exact HB.out | apply below_alloc | apply pw_below_drewN | apply below_drew1 | refine below_set ?_ GE107.out) | exact HB.out)) hb); clear HO103; clear BK107; clear HB; have HO103 := n0_; have BK107 := n1_; have HB := n2_; clear n0_ n1_ n2_; (try clear hb); (try clear hb2); (try clear hk); (try clear hi)))
   go_ret
   exact ⟨by first | rfl | (simp [errW_none, errW_some] <;> rfl) | (simp [*, errW_none, errW_some] <;> rfl), by repeat (first | (with_reducible first | exact HB.out | apply below_alloc | apply pw_below_drewN | apply below_drew1 | refine below_set ?_ GE107.out) | exact HB.out)⟩
end Go.Proofs.Ytbhgkpfbggkgdaa.Q

namespace Go.Proofs.Ytbhgkpfbggkgdaa.Open
open Go.RowKit Go.ChangeShapes Go.WideShapes Go.Deep Go.Proofs.YtbhgkpfbggkgdaaW.PrintWords
/-- A number fits its kind. -/
def Fits (k : IntKind) (n : Int) : Prop := (Lit.int k n).wf = true
/-- What the cells of a type say. -/
def Opens (P : Program) (w : World) (t : TypeId) {α : Type} (d : Kd α) (p : α → Prop) : Prop :=
 ∀ (H : Type) (enc : TypeId × Value → H) (base : Nat) (spare : Nat → Bool) (held : Bool) (fuel : Nat) (cs : List Value) (x : DataW H × List MemPlace),
  DataW.trod enc P w base spare held fuel t cs = some x → ∃ a, d.K w a cs ∧ p a
theorem opens_int {P : Program} {w : World} {t : TypeId} {k : IntKind} (ht : P.underlying t = some (.int k)) : Opens P w t (Kd.int k) (fun n => Fits k n) := by
 intro H enc base spare held fuel cs x h
 obtain ⟨n, rfl, _, hw⟩ := DataW.trod_int ht h
 exact ⟨n, rfl, hw⟩
theorem pick {α : Type} (n : Nat) (R : Nat → α → Prop) (h : ∀ i, i < n → ∃ a, R i a) : ∃ xs : List α, xs.length = n ∧ ∀ i a, xs[i]? = some a → R i a := by
 induction n with
 | zero => exact ⟨[], rfl, fun i a e => by simp at e⟩
 | succ n ih =>
  obtain ⟨xs, hl, hx⟩ := ih (fun i hi => h i (by omega))
  obtain ⟨a, ha⟩ := h n (by omega)
  refine ⟨xs ++ [a], by simp [hl], fun i b e => ?_⟩
  rcases Nat.lt_or_ge i xs.length with hi | hi
  ·rw [List.getElem?_append_left hi] at e
   exact hx i b e
  ·have hlt := (List.getElem?_eq_some_iff.1 e).1
   rw [List.length_append, List.length_singleton] at hlt
   obtain rfl : i = xs.length := by omega
   simp at e
   subst e
   rw [hl]
   exact ha
theorem opens_slice {P : Program} {w : World} {t e : TypeId} {α : Type} {d : Kd α} {p : α → Prop} (ht : P.underlying t = some (.slice e)) (hc : P.cellsOf e = d.sz) (he : Opens P w e d p) :
  Opens P w t (Kd.slice e d) (fun xs => xs.length ≤ 9223372036854775807 ∧ ∀ y ∈ xs, p y) := by
 intro H enc base spare held fuel cs x h
 rcases open_slice ht h with ⟨rfl, _⟩ | ⟨a, len, cap, m, n, D, Pl, rfl, _, hl, hm, hmm, _, hi⟩
 ·exact ⟨[], ⟨none, 0, rfl, by simp, by simp, by simp, fun hn => by simp at hn⟩, by simp, by simp⟩
 ·have hle : len ≤ m := by rw [hmm]; split <;> omega
  obtain ⟨xs, hxl, hx⟩ := pick len (fun i y => p y ∧ ∃ c, c.length = d.sz ∧ d.K w y c ∧ ∀ j u, c[j]? = some u → w.cell? (a.add (i * d.sz + j)) = some u) (fun i hil => by
   obtain ⟨cs', h1, h2⟩ := hi i (by omega)
   obtain ⟨y, hK, hp⟩ := he _ _ _ _ _ _ _ _ h2
   obtain ⟨_, hcl, hat⟩ := World.cells?_some h1
   rw [hc] at hcl hat
   refine ⟨y, hp, cs', hcl, hK, fun j u hu => ?_⟩
   have hj := (List.getElem?_eq_some_iff.1 hu).1
   rw [← Go.Deep.add_add, hat j (by omega), hu])
  have hmx : maxLen = 9223372036854775807 := rfl
  refine ⟨xs, ⟨some a, cap, by rw [hxl], by omega, ?_⟩, by omega, fun y hy => ?_⟩
  ·refine ⟨rfl, by omega, fun _ => ⟨a, rfl, fun j q hj => ?_⟩⟩
   obtain ⟨_, c, h1, h2, h3⟩ := hx j q hj
   exact ⟨c, h1, h2, h3⟩
  ·obtain ⟨i, hi2⟩ := List.getElem?_of_mem hy
   exact (hx i y hi2).1
theorem open_arg {H : Type} {enc : TypeId × Value → H} {P : Program} {w : World} {base : Nat} {spare : Nat → Bool} {held : Bool} {t : TypeId} {α : Type} {d : Kd α} {p : α → Prop} {v : Value} {dt : DataW H} {ps : List MemPlace} (he : Opens P w t d p)
  (h : DataW.Trod enc P w base spare held t v dt ps) : ∃ a, d.K w a v.cells.toList ∧ p a := by
 obtain ⟨fuel, hf⟩ := h
 exact he _ _ _ _ _ _ _ _ hf
theorem slice_of_cells {a A : Option Addr} {len cap n c : Nat} (h : (Value.slice a len cap).cells.toList = [.slice A n c]) : A = a ∧ len = n ∧ c = cap := by
 simp only [Value.cells, List.cons.injEq, Value.slice.injEq, and_true] at h
 exact ⟨h.1.symm, h.2.1, h.2.2.symm⟩
end Go.Proofs.Ytbhgkpfbggkgdaa.Open

namespace Go.Proofs.Ytbhgkpfbggkgdaa.Q
open Go.RowKit Go.Proofs.YtbhgkpfbggkgdaaW.PrintWords Go.Proofs.Ytbhgkpfbggkgdaa.Open
theorem op5 (w : World) : Opens Try.prog w 5 (Kd.int .u8) (fun x => Open.Fits .u8 x) := opens_int Try.underlying5
theorem op40 (w : World) : Opens Try.prog w 40 (Kd.slice 5 (Kd.int .u8)) (fun x => (x.length ≤ 9223372036854775807 ∧ ∀ y ∈ x, Open.Fits .u8 y)) := opens_slice Try.underlying40 (by kernel_rfl) (op5 w)
end Go.Proofs.Ytbhgkpfbggkgdaa.Q

namespace Go.Proofs.Ytbhgkpfbggkgdaa.Q
open Go.Proofs.Ytbhgkpfbggkgdaa.Open
/-- The pure statement of laws_FnCellsFind. -/
def laws_FnCellsFind.Pure : Prop := ∀ (x0 : List Int), ((x0.length ≤ 9223372036854775807 ∧ ∀ y ∈ x0, Open.Fits .u8 y)) → ∃ k, laws_FnCellsFind.f k x0 = some true
end Go.Proofs.Ytbhgkpfbggkgdaa.Q

namespace Go.Proofs.Ytbhgkpfbggkgdaa.Pure
open Go.RowKit
theorem w64 {x : Int} (h : -9223372036854775808 ≤ x) (h' : x ≤ 9223372036854775807) : wrap64 x = x := by
 unfold wrap64
 omega
/-- A loop that leaves at the first place that isn't good. -/
theorem scan_loop {β : Type} (l0 : Nat → Int → Option β) (n K : Nat) (good : Nat → Bool) (bad fin : β)
  (hgood : ∀ k i : Nat, i < n → K ≤ k → (∀ j, j < i → good j = true) → good i = true → l0 (k + 1) (i : Int) = l0 k ((i + 1 : Nat) : Int))
  (hbad : ∀ k i : Nat, i < n → K ≤ k → (∀ j, j < i → good j = true) → good i = false → l0 (k + 1) (i : Int) = some bad)
  (hend : ∀ k : Nat, K ≤ k → l0 (k + 1) (n : Int) = some fin) :
  ∀ k, n + K < k → l0 k 0 = some (if (List.range n).all good then fin else bad) := by
 have key : ∀ (e k i : Nat), n - i = e → e + K < k → i ≤ n → (∀ j, j < i → good j = true) → l0 k (i : Int) = some (if (List.range n).all good then fin else bad) := by
  intro e
  induction e with
  | zero =>
   intro k i he hk hi hg
   obtain ⟨k, rfl⟩ : ∃ m, k = m + 1 := ⟨k - 1, by omega⟩
   obtain rfl : i = n := by omega
   rw [hend k (by omega), if_pos]
   rw [List.all_eq_true]
   exact fun x hx => hg x (List.mem_range.1 hx)
  | succ e ih =>
   intro k i he hk hi hg
   obtain ⟨k, rfl⟩ : ∃ m, k = m + 1 := ⟨k - 1, by omega⟩
   cases hc : good i with
   | true =>
    rw [hgood k i (by omega) (by omega) hg hc]
    refine ih k (i + 1) (by omega) (by omega) (by omega) (fun j hj => ?_)
    by_cases h : j = i
    ·rw [h]; exact hc
    ·exact hg j (by omega)
   | false =>
    rw [hbad k i (by omega) (by omega) hg hc, if_neg]
    rw [List.all_eq_true]
    intro h
    have := h i (List.mem_range.2 (by omega))
    rw [hc] at this
    exact absurd this (by simp)
 intro k hk
 exact key n k 0 (by omega) (by omega) (by omega) (fun j hj => by omega)
/-- Two loops that go on, or leave with the same answer, at each place. -/
theorem same_loop {β : Type} (l0 l1 : Nat → Int → Option β) (n K : Nat)
  (hs : ∀ i : Nat, i < n → (∀ k, K ≤ k → l0 (k + 1) (i : Int) = l0 k ((i + 1 : Nat) : Int) ∧ l1 (k + 1) (i : Int) = l1 k ((i + 1 : Nat) : Int)) ∨ ∃ r, ∀ k, K ≤ k → l0 (k + 1) (i : Int) = some r ∧ l1 (k + 1) (i : Int) = some r)
  (he : ∃ r, ∀ k : Nat, K ≤ k → l0 (k + 1) (n : Int) = some r ∧ l1 (k + 1) (n : Int) = some r) : ∃ r, ∀ k, n + K < k → l0 k 0 = some r ∧ l1 k 0 = some r := by
 have key : ∀ (e i : Nat), n - i = e → i ≤ n → ∃ r, ∀ k, e + K < k → l0 k (i : Int) = some r ∧ l1 k (i : Int) = some r := by
  intro e
  induction e with
  | zero =>
   intro i hi1 hi
   obtain rfl : i = n := by omega
   obtain ⟨r, hr⟩ := he
   refine ⟨r, fun k hk => ?_⟩
   obtain ⟨k, rfl⟩ : ∃ m, k = m + 1 := ⟨k - 1, by omega⟩
   exact hr k (by omega)
  | succ e ih =>
   intro i hi1 hi
   rcases hs i (by omega) with h | ⟨r, hr⟩
   ·obtain ⟨r, hr⟩ := ih (i + 1) (by omega) (by omega)
    refine ⟨r, fun k hk => ?_⟩
    obtain ⟨k, rfl⟩ : ∃ m, k = m + 1 := ⟨k - 1, by omega⟩
    rw [(h k (by omega)).1, (h k (by omega)).2]
    exact hr k (by omega)
   ·refine ⟨r, fun k hk => ?_⟩
    obtain ⟨k, rfl⟩ : ∃ m, k = m + 1 := ⟨k - 1, by omega⟩
    exact hr k (by omega)
 obtain ⟨r, hr⟩ := key n 0 (by omega) (by omega)
 exact ⟨r, fun k hk => hr k hk⟩
end Go.Proofs.Ytbhgkpfbggkgdaa.Pure

namespace Go.Proofs.Ytbhgkpfbggkgdaa.Pure
open Go.RowKit Go.Proofs.Ytbhgkpfbggkgdaa.Q Go.Proofs.YtbhgkpfbggkgdaaW.PrintWords Go.Proofs.YtbhgkpfbggkgdaaW.PrintLast Go.Proofs.YtbhgkpfbggkgdaaW.PrintMore
/-- How many addresses a block of b bits has. -/
def sz (b : Int) : Int := 2 ^ (32 - b).toNat
theorem sz_pos (b : Int) : 0 < sz b := Int.pow_pos (by omega)
theorem sz_le {b : Int} (h : 0 ≤ b) : sz b ≤ 4294967296 := by
 have h1 : (32 - b).toNat ≤ 32 := by omega
 have h2 : (2 : Nat) ^ (32 - b).toNat ≤ 2 ^ 32 := Nat.pow_le_pow_right (by omega) h1
 have h3 : ((2 : Nat) ^ (32 - b).toNat : Nat) ≤ 4294967296 := by simpa using h2
 unfold sz
 have h4 : ((2 ^ (32 - b).toNat : Nat) : Int) = (2 : Int) ^ (32 - b).toNat := by norm_cast
 omega
theorem in_spec (a lo hi : Int) : spec_l1In.f a lo hi = some (decide (lo ≤ a ∧ a ≤ hi)) := by
 unfold spec_l1In.f
 by_cases h : a ≥ lo
 ·rw [if_pos h]; simp [show lo ≤ a from h]
 ·rw [if_neg h]; simp [show ¬ lo ≤ a from h]
theorem in_impl (a lo hi : Int) : impl_in.f a lo hi = some (decide (lo ≤ a ∧ a ≤ hi)) := by
 unfold impl_in.f
 by_cases h : a ≥ lo
 ·rw [if_pos h]; simp [show lo ≤ a from h]
 ·rw [if_neg h]; simp [show ¬ lo ≤ a from h]
theorem addr_spec (a : Int) : spec_l1Addr.f a = some (decide (0 ≤ a ∧ a ≤ 4294967295)) := by
 unfold spec_l1Addr.f
 rw [in_spec]
 rfl
theorem two_ev : ∀ (m k : Nat) (x : Int), m < k → 0 ≤ x → x * 2 ^ m ≤ 9223372036854775807 → m ≤ 62 → spec_l1Two.l0 k m x = some (x * 2 ^ m) := by
 intro m
 induction m with
 | zero =>
  intro k x hk h0 h1 _
  obtain ⟨k, rfl⟩ : ∃ j, k = j + 1 := ⟨k - 1, by omega⟩
  simp only [spec_l1Two.l0]
  rw [if_neg (by omega)]
  simp
 | succ m ih =>
  intro k x hk h0 h1 hm
  obtain ⟨k, rfl⟩ : ∃ j, k = j + 1 := ⟨k - 1, by omega⟩
  simp only [spec_l1Two.l0]
  rw [if_pos (by omega)]
  have e : x * 2 ^ (m + 1) = x * 2 * 2 ^ m := by rw [Int.pow_succ]; rw [Int.mul_comm (2 ^ m) 2, Int.mul_assoc]
  have p : (1 : Int) ≤ 2 ^ m := Int.pow_pos (by omega)
  have h2 : x * 2 ≤ x * 2 * 2 ^ m := by
   have := Int.mul_le_mul_of_nonneg_left p (show 0 ≤ x * 2 by omega)
   omega
  rw [w64 (by omega) (by omega), w64 (by omega) (by omega), show (((m + 1 : Nat) : Int) - 1) = (m : Int) by omega, ih k (x * 2) (by omega) (by omega) (by rw [← e]; exact h1) (by omega), e]
theorem size_spec {b : Int} {k : Nat} (h0 : 0 ≤ b) (h1 : b ≤ 32) (hk : 40 ≤ k) : spec_l1Size.f k b = some (sz b) := by
 unfold spec_l1Size.f spec_l1Two.f
 rw [w64 (by omega) (by omega)]
 have e : (32 - b) = (((32 - b).toNat : Nat) : Int) := by omega
 have hs := sz_le h0
 rw [e, two_ev _ k 1 (by omega) (by omega) (by unfold sz at hs; omega) (by omega)]
 simp [sz]
/-- A block is valid. -/
def bok (a b : Int) : Bool := decide (0 ≤ a ∧ a ≤ 4294967295 ∧ 0 ≤ b ∧ b ≤ 32 ∧ a % sz b = 0)
theorem bok_iff {a b : Int} : bok a b = true ↔ 0 ≤ a ∧ a ≤ 4294967295 ∧ 0 ≤ b ∧ b ≤ 32 ∧ a % sz b = 0 := by
 unfold bok
 rw [decide_eq_true_iff]
theorem tmod_of {a b : Int} (h : 0 ≤ a) : Int.tmod a (sz b) = a % sz b := Int.tmod_eq_emod_of_nonneg h
theorem ok_spec {k : Nat} (a b : Int) (hk : 40 ≤ k) : spec_BlockOk.f k a b = some (bok a b) := by
 unfold spec_BlockOk.f
 rw [addr_spec, Option.bind_some]
 by_cases h : 0 ≤ a ∧ a ≤ 4294967295
 ·rw [if_pos (by simpa using h), in_spec, Option.bind_some]
  by_cases h2 : 0 ≤ b ∧ b ≤ 32
  ·rw [if_pos (by simpa using h2), size_spec h2.1 h2.2 hk, Option.bind_some, if_neg (by have := sz_pos b; omega), tmod_of h.1]
   congr 1
   unfold bok
   rw [Bool.eq_iff_iff]
   simp [h, h2]
  ·rw [if_neg (by simpa using h2)]
   congr 1
   symm
   unfold bok
   rw [decide_eq_false_iff_not]
   omega
 ·rw [if_neg (by simpa using h)]
  congr 1
  symm
  unfold bok
  rw [decide_eq_false_iff_not]
  omega
theorem last_spec {k : Nat} {a b : Int} (h : bok a b = true) (hk : 40 ≤ k) : spec_l1Last.f k a b = some (a + sz b - 1) := by
 obtain ⟨h1, h2, h3, h4, _⟩ := bok_iff.1 h
 have := sz_le h3
 have := sz_pos b
 unfold spec_l1Last.f
 rw [size_spec h3 h4 hk, Option.bind_some, w64 (x := a + sz b) (by omega) (by omega), w64 (by omega) (by omega)]
end Go.Proofs.Ytbhgkpfbggkgdaa.Pure

namespace Go.Proofs.Ytbhgkpfbggkgdaa.Pure
set_option linter.unusedSimpArgs false
open Go.RowKit Go.Proofs.Ytbhgkpfbggkgdaa.Q Go.Proofs.YtbhgkpfbggkgdaaW.PrintWords Go.Proofs.YtbhgkpfbggkgdaaW.PrintLast Go.Proofs.YtbhgkpfbggkgdaaW.PrintMore
theorem rdC (l : List S67) (i : Nat) : rd_T67 l (i : Int) = l.getD i z67 := rfl
/-- A cell has a call. -/
def chas (x : S67) (a b c : Int) : Bool := decide (x.f0 ≤ a ∧ a ≤ x.f1) && (decide (x.f2 ≤ b ∧ b ≤ x.f3) && decide (x.f4 ≤ c ∧ c ≤ x.f5))
theorem has_ev (x : S67) (a b c : Int) : spec_l5Has.f x.f0 x.f1 x.f2 x.f3 x.f4 x.f5 x.f6 a b c = some (chas x a b c) := by
 unfold spec_l5Has.f chas
 simp only [in_spec, Option.bind_some]
 generalize decide (x.f0 ≤ a ∧ a ≤ x.f1) = p
 generalize decide (x.f2 ≤ b ∧ b ≤ x.f3) = q
 cases p <;> cases q <;> rfl
theorem cellsFind_ev {l : List S67} (a b c : Int) (hl : l.length ≤ 1048577) : ∃ r, ∀ k, l.length + 0 < k → spec_CellsFind.f k l a b c = some r ∧ impl_CellsFind.f k l a b c = some r := by
 unfold spec_CellsFind.f impl_CellsFind.f
 refine same_loop (fun k i => spec_CellsFind.l0 k l i a b c) (fun k i => impl_CellsFind.l0 k l (l.length : Int) i a b c) l.length 0 ?_ ⟨-1, fun k _ => ?_⟩
 ·intro i hi
  have ew : wrap64 ((i : Int) + 1) = ((i + 1 : Nat) : Int) := by rw [w64 (by omega) (by omega)]; rfl
  have h1 : (i : Int) < (l.length : Int) := by omega
  have h2 : 0 ≤ (i : Int) := by omega
  have e : ∀ (k : Nat), impl_CellsFind.l0 (k + 1) l (l.length : Int) (i : Int) a b c = if chas (l.getD i z67) a b c = true then some (l.getD i z67).f6 else impl_CellsFind.l0 k l (l.length : Int) ((i + 1 : Nat) : Int) a b c := by
   intro k
   simp only [impl_CellsFind.l0, if_pos h1, if_pos h2, rdC, in_impl, Option.bind_some, ew]
   unfold chas
   generalize decide ((l.getD i z67).f0 ≤ a ∧ a ≤ (l.getD i z67).f1) = p
   generalize decide ((l.getD i z67).f2 ≤ b ∧ b ≤ (l.getD i z67).f3) = q
   generalize decide ((l.getD i z67).f4 ≤ c ∧ c ≤ (l.getD i z67).f5) = r
   cases p <;> cases q <;> cases r <;> rfl
  have e' : ∀ (k : Nat), spec_CellsFind.l0 (k + 1) l (i : Int) a b c = if chas (l.getD i z67) a b c = true then some (l.getD i z67).f6 else spec_CellsFind.l0 k l ((i + 1 : Nat) : Int) a b c := by
   intro k
   simp only [spec_CellsFind.l0, if_pos h1, if_pos h2, rdC, has_ev, Option.bind_some, ew]
  by_cases h : chas (l.getD i z67) a b c = true
  ·exact .inr ⟨_, fun k _ => ⟨by rw [e', if_pos h], by rw [e, if_pos h]⟩⟩
  ·exact .inl (fun k _ => ⟨by rw [e', if_neg h], by rw [e, if_neg h]⟩)
 ·simp only [spec_CellsFind.l0, impl_CellsFind.l0]
  rw [if_neg (by omega), if_neg (by omega)]
  exact ⟨rfl, rfl⟩
end Go.Proofs.Ytbhgkpfbggkgdaa.Pure

namespace Go.Proofs.Ytbhgkpfbggkgdaa.Pure
set_option linter.unusedSimpArgs false
open Go.RowKit Go.Proofs.Ytbhgkpfbggkgdaa.Q Go.Proofs.Ytbhgkpfbggkgdaa.Open Go.Proofs.YtbhgkpfbggkgdaaW.PrintWords Go.Proofs.YtbhgkpfbggkgdaaW.PrintLast Go.Proofs.YtbhgkpfbggkgdaaW.PrintMore
/-- Bytes, at most two thousand of them. -/
def rdOk (xs : List Int) : Prop := (∀ y ∈ xs, 0 ≤ y ∧ y ≤ 255) ∧ xs.length ≤ 2000
theorem fits_u8 {y : Int} (h : Fits .u8 y) : 0 ≤ y ∧ y ≤ 255 := by
 have g : (decide (IntKind.u8.min ≤ y) && decide (y ≤ IntKind.u8.max)) = true := h
 rw [Bool.and_eq_true, decide_eq_true_eq, decide_eq_true_eq] at g
 exact g
theorem xor_nn {a b : Int} (ha : 0 ≤ a) (ha' : a < 4611686018427387904) (hb : 0 ≤ b) (hb' : b < 4611686018427387904) : 0 ≤ Go.bits .xor .i64 a b := by
 obtain ⟨m, rfl⟩ := Int.eq_ofNat_of_zero_le ha
 obtain ⟨n, rfl⟩ := Int.eq_ofNat_of_zero_le hb
 have hm : m < 2 ^ 62 := by omega
 have hn : n < 2 ^ 62 := by omega
 have hx : m ^^^ n < 2 ^ 62 := Nat.xor_lt_two_pow hm hn
 simp only [Go.bits, BitVec.ofInt_natCast, BitVec.toNat_xor, BitVec.toNat_ofNat]
 rw [Nat.mod_eq_of_lt (show m < 2 ^ IntKind.i64.bits by show m < 2 ^ 64; omega), Nat.mod_eq_of_lt (show n < 2 ^ IntKind.i64.bits by show n < 2 ^ 64; omega), IntKind.wrap_i64]
 generalize m ^^^ n = z at hx
 omega
theorem rd_byte {xs : List Int} (hx : rdOk xs) (i : Int) : 0 ≤ rd xs i ∧ rd xs i ≤ 255 := by
 show 0 ≤ xs.getD i.toNat 0 ∧ xs.getD i.toNat 0 ≤ 255
 rw [List.getD_eq_getElem?_getD]
 by_cases h : i.toNat < xs.length
 ·rw [List.getElem?_eq_getElem h]
  exact hx.1 _ (List.getElem_mem h)
 ·rw [List.getElem?_eq_none (by omega)]
  decide
theorem tmod_in {a n : Int} (ha : 0 ≤ a) (hn : 1 ≤ n) : 0 ≤ Int.tmod a n ∧ Int.tmod a n < n := ⟨Int.tmod_nonneg _ ha, Int.tmod_lt_of_pos _ (by omega)⟩
theorem pick_ev {xs : List Int} (hx : rdOk xs) {s n : Int} (hs : 0 ≤ s) (hs' : s ≤ 1000000000) (hn : 1 ≤ n) {k : Nat} (hk : 1 ≤ k) : ∃ v, spec_l1Rd_pick.f k xs s n = some (v, s + 1) ∧ 0 ≤ v ∧ v < n := by
 obtain ⟨k, rfl⟩ : ∃ m, k = m + 1 := ⟨k - 1, by omega⟩
 have hl := hx.2
 unfold spec_l1Rd_pick.f
 rw [if_neg (by omega), w64 (x := s + 1) (by omega) (by omega)]
 simp only [spec_l1Rd_pick.j0]
 rw [w64 (x := s + 1 - 1) (by omega) (by omega), show s + 1 - 1 = s by omega]
 by_cases h0 : xs.length = 0
 ·rw [if_pos (by simp [h0])]
  exact ⟨0, rfl, by omega, by omega⟩
 ·rw [if_neg (by simp; intro h; exact h0 (by rw [h]; rfl))]
  by_cases h1 : s < (xs.length : Int)
  ·obtain ⟨g0, g1⟩ := rd_byte hx s
   rw [if_pos h1, if_pos hs, if_neg (by omega), w64 (by omega) (by omega)]
   obtain ⟨t0, t1⟩ := tmod_in g0 hn
   exact ⟨_, rfl, t0, t1⟩
  ·rw [if_neg h1, if_neg (by omega)]
   obtain ⟨i0, i1⟩ := tmod_in (n := (xs.length : Int)) hs (by omega)
   rw [if_pos i0, if_pos i1, w64 (x := s * 7) (by omega) (by omega), w64 (x := s * 7 + 3) (by omega) (by omega)]
   obtain ⟨j0, j1⟩ := tmod_in (a := s * 7 + 3) (n := (xs.length : Int)) (by omega) (by omega)
   rw [if_pos j0, if_pos j1, if_neg (by omega)]
   obtain ⟨g0, g1⟩ := rd_byte hx (Int.tmod s (xs.length : Int))
   obtain ⟨f0, f1⟩ := rd_byte hx (Int.tmod (s * 7 + 3) (xs.length : Int))
   have q0 : 0 ≤ Int.tdiv s (xs.length : Int) := Int.tdiv_nonneg hs (by omega)
   have q1 : Int.tdiv s (xs.length : Int) ≤ s := by
    rw [Int.tdiv_eq_ediv_of_nonneg hs]
    exact Int.ediv_le_self _ hs
   generalize rd xs (Int.tmod s (xs.length : Int)) = g at *
   generalize rd xs (Int.tmod (s * 7 + 3) (xs.length : Int)) = f at *
   generalize Int.tdiv s (xs.length : Int) = q at *
   rw [w64 (x := g) (by omega) (by omega), w64 (x := f) (by omega) (by omega), w64 (x := q) (by omega) (by omega), w64 (x := g * 131) (by omega) (by omega), w64 (x := f * 1117) (by omega) (by omega), w64 (x := s * 29) (by omega) (by omega), w64 (x := q * 53) (by omega) (by omega), w64 (x := g * 131 + f * 1117) (by omega) (by omega), w64 (x := g * 131 + f * 1117 + s * 29) (by omega) (by omega), w64 (x := g * 131 + f * 1117 + s * 29 + q * 53) (by omega) (by omega)]
   have hA : 0 ≤ g * 131 + f * 1117 + s * 29 + q * 53 := by omega
   have hA' : g * 131 + f * 1117 + s * 29 + q * 53 < 4611686018427387904 := by omega
   generalize g * 131 + f * 1117 + s * 29 + q * 53 = A at hA hA'
   rw [Int.tdiv_eq_ediv_of_nonneg hA, w64 (x := A / 64) (by omega) (by omega)]
   obtain ⟨t0, t1⟩ := tmod_in (xor_nn hA hA' (b := A / 64) (by omega) (by omega)) hn
   exact ⟨_, rfl, t0, t1⟩
theorem one_ev {xs : List Int} (hx : rdOk xs) {s : Int} (hs : 0 ≤ s) (hs' : s ≤ 1000000000) (l : List Int) (hl : 1 ≤ l.length) {k : Nat} (hk : 1 ≤ k) : ∃ v, spec_l1Rd_one.f k xs s l = some (v, s + 1) ∧ v ∈ l := by
 unfold spec_l1Rd_one.f
 obtain ⟨v, e, v0, v1⟩ := pick_ev hx hs hs' (n := (l.length : Int)) (by omega) hk
 rw [e, Option.bind_some]
 dsimp only
 rw [if_pos v0, if_pos v1]
 refine ⟨_, rfl, ?_⟩
 show l.getD v.toNat 0 ∈ l
 rw [List.getD_eq_getElem?_getD, List.getElem?_eq_getElem (by omega)]
 exact List.getElem_mem _
theorem drAddr_ev {xs : List Int} (hx : rdOk xs) {s : Int} (hs : 0 ≤ s) (hs' : s ≤ 999999990) {k : Nat} (hk : 1 ≤ k) : ∃ a, spec_l12Addr.f k xs s = some (a, s + 6) ∧ 0 ≤ a ∧ a ≤ 4294967295 := by
 unfold spec_l12Addr.f
 obtain ⟨v0, e0, l0, u0⟩ := pick_ev hx (s := s) (n := 256) (by omega) (by omega) (by omega) hk
 obtain ⟨v1, e1, l1, u1⟩ := pick_ev hx (s := s + 1) (n := 8) (by omega) (by omega) (by omega) hk
 obtain ⟨v2, e2, l2, u2⟩ := pick_ev hx (s := s + 1 + 1) (n := 16) (by omega) (by omega) (by omega) hk
 obtain ⟨v3, e3, l3, u3⟩ := pick_ev hx (s := s + 1 + 1 + 1) (n := 256) (by omega) (by omega) (by omega) hk
 obtain ⟨v4, e4, l4, u4⟩ := pick_ev hx (s := s + 1 + 1 + 1 + 1) (n := 64) (by omega) (by omega) (by omega) hk
 simp only [e0, e1, e2, e3, e4, Option.bind_some]
 rw [w64 (x := 167772160 + v0) (by omega) (by omega), w64 (x := 167772160 + v1) (by omega) (by omega), w64 (x := 167772416 + v2) (by omega) (by omega), w64 (x := 3232235520 + v3) (by omega) (by omega), w64 (x := v4 * 256) (by omega) (by omega), w64 (x := 2886729728 + v4 * 256) (by omega) (by omega)]
 obtain ⟨v, e, hv⟩ := one_ev hx (s := s + 1 + 1 + 1 + 1 + 1) (by omega) (by omega) [167772160 + v0, 167772160 + v1, 167772416 + v2, 3232235520 + v3, 0, 4294967295, 184549375, 2886729728 + v4 * 256] (by simp) hk
 rw [e, Option.bind_some]
 refine ⟨v, by show some (v, s + 1 + 1 + 1 + 1 + 1 + 1) = _; congr 2; omega, ?_⟩
 simp only [List.mem_cons, List.not_mem_nil, or_false] at hv
 omega
theorem over_ev {a b : Int} (h0 : 0 ≤ a) (h1 : a ≤ 4294967295) (h2 : 0 ≤ b) (h3 : b ≤ 32) {k : Nat} (hk : 40 ≤ k) : spec_l1Over.f k a b = some (a / sz b * sz b, b) ∧ bok (a / sz b * sz b) b = true := by
 have hp := sz_pos b
 have hd : sz b * (a / sz b) + a % sz b = a := Int.mul_ediv_add_emod a (sz b)
 have hr := Int.emod_nonneg a (show sz b ≠ 0 by omega)
 have hq : 0 ≤ a / sz b := Int.ediv_nonneg h0 (by omega)
 have hq' : a / sz b ≤ a := Int.ediv_le_self _ h0
 have hm : 0 ≤ a / sz b * sz b := Int.mul_nonneg hq (by omega)
 rw [Int.mul_comm] at hd
 constructor
 ·unfold spec_l1Over.f
  rw [size_spec h2 h3 hk, Option.bind_some, if_neg (by omega), Option.bind_some, Int.tdiv_eq_ediv_of_nonneg h0, w64 (x := a / sz b) (by omega) (by omega), w64 (by omega) (by omega)]
 ·rw [bok_iff]
  exact ⟨hm, by omega, h2, h3, Int.mul_emod_left _ _⟩
theorem drBlock_ev {xs : List Int} (hx : rdOk xs) {s : Int} (hs : 0 ≤ s) (hs' : s ≤ 999999980) {k : Nat} (hk : 40 ≤ k) : ∃ a b, spec_l12Block.f k xs s = some (a, b, s + 7) ∧ bok a b = true := by
 unfold spec_l12Block.f
 obtain ⟨a, ea, a0, a1⟩ := drAddr_ev hx hs (by omega) (show 1 ≤ k by omega)
 obtain ⟨b, eb, hb⟩ := one_ev hx (s := s + 6) (by omega) (by omega) [32, 31, 30, 28, 24, 24, 25, 16, 8, 1, 0, 29] (by simp) (show 1 ≤ k by omega)
 simp only [List.mem_cons, List.not_mem_nil, or_false] at hb
 obtain ⟨eo, ho⟩ := over_ev (b := b) a0 a1 (by omega) (by omega) hk
 rw [ea, Option.bind_some]
 dsimp only
 rw [eb, Option.bind_some]
 dsimp only
 rw [eo, Option.bind_some]
 exact ⟨_, _, by show some (_, _, s + 6 + 1) = _; congr 3; omega, ho⟩
theorem open_ev {xs : List Int} (hx : ∀ y ∈ xs, 0 ≤ y ∧ y ≤ 255) : ∃ ys, spec_l1Open.f xs = some (ys, 0) ∧ rdOk ys := by
 unfold spec_l1Open.f
 by_cases h : (xs.length : Int) > 2000
 ·rw [if_pos h, if_pos (by omega)]
  exact ⟨_, rfl, fun y hy => hx y (List.mem_of_mem_take hy), by rw [List.length_take]; omega⟩
 ·rw [if_neg h]
  exact ⟨_, rfl, hx, by omega⟩
end Go.Proofs.Ytbhgkpfbggkgdaa.Pure

namespace Go.Proofs.Ytbhgkpfbggkgdaa.Pure
set_option linter.unusedSimpArgs false
open Go.RowKit Go.Proofs.Ytbhgkpfbggkgdaa.Q Go.Proofs.YtbhgkpfbggkgdaaW.PrintWords Go.Proofs.YtbhgkpfbggkgdaaW.PrintLast Go.Proofs.YtbhgkpfbggkgdaaW.PrintMore
/-- A rule is valid. -/
def rok (r : S109) : Bool := bok r.f2.f0 r.f2.f1 && (bok r.f3.f0 r.f3.f1 && (decide (0 ≤ r.f4 ∧ r.f4 ≤ r.f5) && (decide (r.f5 ≤ 65535) && (decide (0 ≤ r.f0 ∧ r.f0 ≤ 2) && (decide (r.f1 = 0) || (decide (r.f0 = 2) && decide (0 ≤ r.f1 ∧ r.f1 ≤ 3)))))))
theorem l4Ok_ev (r : S109) {k : Nat} (hk : 41 ≤ k) : spec_l4Ok.f k r.f0 r.f1 r.f2.f0 r.f2.f1 r.f3.f0 r.f3.f1 r.f4 r.f5 = some (rok r) := by
 obtain ⟨k, rfl⟩ : ∃ m, k = m + 1 := ⟨k - 1, by omega⟩
 unfold spec_l4Ok.f rok
 simp only [spec_l4Ok.j0, ok_spec _ _ (show 40 ≤ k + 1 by omega), in_spec, Option.bind_some]
 cases bok r.f2.f0 r.f2.f1
 ·simp
 ·cases bok r.f3.f0 r.f3.f1
  ·simp
  ·by_cases h4 : 0 ≤ r.f4 ∧ r.f4 ≤ r.f5
   ·by_cases h5 : r.f5 ≤ 65535
    ·by_cases h0 : 0 ≤ r.f0 ∧ r.f0 ≤ 2
     ·by_cases h2 : r.f0 = 2
      ·have e : (0 ≤ r.f1 ∧ r.f1 ≤ 3) ↔ (r.f1 = 0 ∨ (0 ≤ r.f1 ∧ r.f1 ≤ 3)) := by omega
       simp [h4, h0, h2, show ¬ r.f5 > 65535 by omega, h5]
       omega
      ·simp [h4, h0, h2, show ¬ r.f5 > 65535 by omega, h5]
       first | rfl | (rw [Bool.eq_iff_iff]; simp)
     ·simp [h4, h0, show ¬ r.f5 > 65535 by omega, h5]
    ·simp [h4, show r.f5 > 65535 by omega, h5]
   ·simp [h4]
theorem rdR (l : List S109) (i : Nat) : rd_T109 l (i : Int) = l.getD i z109 := rfl
/-- Rules are valid. -/
def rsok (l : List S109) : Bool := if (List.range l.length).all (fun i => rok (l.getD i z109)) then decide ((l.length : Int) ≤ 8) else false
theorem rulesOk_spec {l : List S109} {k : Nat} (hl : l.length ≤ 1048577) (hk : l.length + 50 < k) : spec_RulesOk.f k l = some (rsok l) := by
 unfold spec_RulesOk.f rsok
 refine scan_loop (fun k i => spec_RulesOk.l0 k l i) l.length 50 (fun i => rok (l.getD i z109)) false _ ?_ ?_ ?_ k hk
 ·intro k i hi hk _ hg
  simp only [spec_RulesOk.l0]
  rw [if_pos (by omega), if_pos (by omega), rdR, l4Ok_ev _ (by omega), Option.bind_some, if_pos hg, w64 (by omega) (by omega)]
  rfl
 ·intro k i hi hk _ hg
  simp only [spec_RulesOk.l0]
  rw [if_pos (by omega), if_pos (by omega), rdR, l4Ok_ev _ (by omega), Option.bind_some, if_neg (by rw [hg]; simp)]
 ·intro k _
  simp only [spec_RulesOk.l0]
  rw [if_neg (by omega)]
end Go.Proofs.Ytbhgkpfbggkgdaa.Pure

namespace Go.Proofs.Ytbhgkpfbggkgdaa.Pure
set_option linter.unusedSimpArgs false
set_option linter.unusedVariables false
open Go.RowKit Go.Proofs.Ytbhgkpfbggkgdaa.Q Go.Proofs.Ytbhgkpfbggkgdaa.Open Go.Proofs.YtbhgkpfbggkgdaaW.PrintWords Go.Proofs.YtbhgkpfbggkgdaaW.PrintLast Go.Proofs.YtbhgkpfbggkgdaaW.PrintMore
theorem drRule_ev {xs : List Int} (hx : rdOk xs) {s : Int} (hs : 0 ≤ s) (hs' : s ≤ 999999900) {k : Nat} (hk : 50 ≤ k) : ∃ a b c d e f g h t, spec_l12Rule.f k xs s = some (a, b, c, d, e, f, g, h, t) ∧ s ≤ t ∧ t ≤ s + 18 := by
 unfold spec_l12Rule.f
 obtain ⟨a, ea, ha⟩ := one_ev hx (s := s) (by omega) (by omega) [0, 1, 2, 2, 2] (by simp) (show 1 ≤ k by omega)
 obtain ⟨b0, b1, eb, _⟩ := drBlock_ev hx (s := s + 1) (by omega) (by omega) (show 40 ≤ k by omega)
 obtain ⟨c0, c1, ec, _⟩ := drBlock_ev hx (s := s + 1 + 7) (by omega) (by omega) (show 40 ≤ k by omega)
 obtain ⟨d, ed, hd⟩ := one_ev hx (s := s + 1 + 7 + 7) (by omega) (by omega) [0, 0, 80, 100] (by simp) (show 1 ≤ k by omega)
 obtain ⟨f, ef, hf⟩ := one_ev hx (s := s + 1 + 7 + 7 + 1) (by omega) (by omega) [65535, 80, 100, 443] (by simp) (show 1 ≤ k by omega)
 obtain ⟨v, ev, _⟩ := pick_ev hx (s := s + 1 + 7 + 7 + 1 + 1) (n := 2) (by omega) (by omega) (by omega) (show 1 ≤ k by omega)
 simp only [ea, eb, ec, ed, ef, ev, Option.bind_some]
 split <;> split <;> exact ⟨_, _, _, _, _, _, _, _, _, rfl, by omega, by omega⟩
theorem drRules_ev {xs : List Int} (hx : rdOk xs) {s : Int} (hs : 0 ≤ s) (hs' : s ≤ 999990000) {k : Nat} (hk : 70 ≤ k) : ∃ l t, spec_l12Rules.f k xs s = some (l, t) ∧ s ≤ t ∧ t ≤ s + 200 ∧ l.length ≤ 6 := by
 have key : ∀ (n : Nat) (l : List S109) (u : Int) (k : Nat), 0 ≤ u → u + 18 * (n : Int) ≤ 999999000 → l.length + n ≤ 100 → n ≤ 10 → 60 + n ≤ k → ∃ l' t, spec_l12Rules.l0 k l (n : Int) xs u = some (l', t) ∧ u ≤ t ∧ t ≤ u + 18 * (n : Int) + 2 ∧ l'.length ≤ l.length + n + 1 := by
  intro n
  induction n with
  | zero =>
   intro l u k hu hu' hl hn hk
   obtain ⟨k, rfl⟩ : ∃ m, k = m + 1 := ⟨k - 1, by omega⟩
   simp only [spec_l12Rules.l0]
   obtain ⟨v, ev, _⟩ := pick_ev hx (s := u) (n := 2) (by omega) (by omega) (by omega) (show 1 ≤ k by omega)
   obtain ⟨a, ea, ha⟩ := one_ev hx (s := u + 1) (by omega) (by omega) [1, 2, 2] (by simp) (show 1 ≤ k by omega)
   obtain ⟨eo, _⟩ := over_ev (a := 0) (b := 0) (by omega) (by omega) (by omega) (by omega) (show 40 ≤ k by omega)
   rw [if_neg (by omega)]
   simp only [ev, ea, eo, Option.bind_some]
   by_cases h : v = 0
   ·rw [if_pos h, if_pos (by omega)]
    exact ⟨_, _, rfl, by omega, by omega, by simp⟩
   ·rw [if_neg h]
    exact ⟨_, _, rfl, by omega, by omega, by omega⟩
  | succ n ih =>
   intro l u k hu hu' hl hn hk
   obtain ⟨k, rfl⟩ : ∃ m, k = m + 1 := ⟨k - 1, by omega⟩
   simp only [spec_l12Rules.l0]
   obtain ⟨a, b, c, d, e, f, g, h, t, et, t0, t1⟩ := drRule_ev hx (s := u) (by omega) (by omega) (show 50 ≤ k by omega)
   rw [if_pos (by omega), et, Option.bind_some]
   dsimp only
   rw [if_pos (by omega), w64 (by omega) (by omega), show ((n + 1 : Nat) : Int) - 1 = (n : Int) by omega]
   obtain ⟨l', t', e', g0, g1, g2⟩ := ih (l ++ [⟨a, b, ⟨c, d⟩, ⟨e, f⟩, g, h⟩]) t k (by omega) (by omega) (by rw [List.length_append, List.length_singleton]; omega) (by omega) (by omega)
   rw [List.length_append, List.length_singleton] at g2
   exact ⟨l', t', e', by omega, by omega, by omega⟩
 unfold spec_l12Rules.f
 obtain ⟨v, ev, v0, v1⟩ := pick_ev hx (s := s) (n := 5) (by omega) (by omega) (by omega) (show 1 ≤ k by omega)
 obtain ⟨n, rfl⟩ := Int.eq_ofNat_of_zero_le v0
 obtain ⟨l, t, e, t0, t1, h⟩ := key n [] (s + 1) k (by omega) (by omega) (by rw [List.length_nil]; omega) (by omega) (by omega)
 rw [ev, Option.bind_some]
 exact ⟨l, t, e, by omega, by omega, by rw [List.length_nil] at h; omega⟩
theorem drCall_ev {xs : List Int} (hx : rdOk xs) {s : Int} (hs : 0 ≤ s) (hs' : s ≤ 999999900) {k : Nat} (hk : 50 ≤ k) : ∃ a b c t, spec_l12Call.f k xs s = some (a, b, c, t) ∧ s ≤ t ∧ t ≤ s + 14 := by
 unfold spec_l12Call.f
 obtain ⟨a, ea, _⟩ := drAddr_ev hx (s := s) (by omega) (by omega) (show 1 ≤ k by omega)
 obtain ⟨b, eb, _⟩ := drAddr_ev hx (s := s + 6) (by omega) (by omega) (show 1 ≤ k by omega)
 obtain ⟨v, ev, _⟩ := pick_ev hx (s := s + 6 + 6) (n := 256) (by omega) (by omega) (by omega) (show 1 ≤ k by omega)
 obtain ⟨c, ec, _⟩ := one_ev hx (s := s + 6 + 6 + 1) (by omega) (by omega) [0, 80, 81, 100, 443, 65535, v] (by simp) (show 1 ≤ k by omega)
 simp only [ea, eb, ev, ec, Option.bind_some]
 exact ⟨_, _, _, _, rfl, by omega, by omega⟩
theorem drAnyCall_ev {xs : List Int} (hx : rdOk xs) {s : Int} (hs : 0 ≤ s) (hs' : s ≤ 999999000) {k : Nat} (hk : 50 ≤ k) : ∃ a b c t, spec_l12AnyCall.f k xs s = some (a, b, c, t) := by
 unfold spec_l12AnyCall.f spec_l12AnyAddr.f
 obtain ⟨a, b, c, t, e, t0, t1⟩ := drCall_ev hx (s := s) (by omega) (by omega) hk
 obtain ⟨v, ev, _⟩ := pick_ev hx (s := t) (n := 20) (by omega) (by omega) (by omega) (show 1 ≤ k by omega)
 obtain ⟨x, ex, _⟩ := pick_ev hx (s := t + 1) (n := 16) (by omega) (by omega) (by omega) (show 1 ≤ k by omega)
 obtain ⟨y, ey, _⟩ := one_ev hx (s := t + 1 + 1) (by omega) (by omega) [-1, 4294967296, 1099511627776] (by simp) (show 1 ≤ k by omega)
 obtain ⟨z, ez, _⟩ := drAddr_ev hx (s := t + 1 + 1) (by omega) (by omega) (show 1 ≤ k by omega)
 obtain ⟨p, ep, _⟩ := one_ev hx (s := t + 1) (by omega) (by omega) [-1, 65536] (by simp) (show 1 ≤ k by omega)
 simp only [e, ev, ex, ey, ez, ep, Option.bind_some]
 split
 ·split <;> exact ⟨_, _, _, _, rfl⟩
 ·split <;> exact ⟨_, _, _, _, rfl⟩
theorem l3Num_ev (n : Int) {k : Nat} (x : List Int) (hx : x.length ≤ 1000000) (hk : x.length < k) : ∃ y, spec_l3Num.f k x n = some y ∧ y.length ≤ x.length + 1 := by
 have fin : ∀ i : Nat, i ≤ x.length → ((some (([] : List Int) : List Int)).bind fun y126 => ((some (x.take (i : Int).toNat : List Int)).bind fun y129 => (if y126.length + y129.length < 17592186044416 then ((some (y126 ++ y129 : List Int)).bind fun y133 => ((some (([n] : List Int) : List Int)).bind fun y136 => (if y133.length + y136.length < 17592186044416 then ((some (y133 ++ y136 : List Int)).bind fun y139 => ((some (x.drop (i : Int).toNat : List Int)).bind fun y142 => (if y139.length + y142.length < 17592186044416 then (some (y139 ++ y142)) else (none)))) else (none)))) else (none)))) = some (x.take i ++ [n] ++ x.drop i) := by
  intro i hi
  simp only [Option.bind_some, Int.toNat_natCast, List.length_append, List.length_nil, List.length_take, List.length_singleton, List.length_drop, List.nil_append]
  rw [if_pos (by omega), if_pos (by omega), if_pos (by omega)]
 have len : ∀ i : Nat, i ≤ x.length → (x.take i ++ [n] ++ x.drop i).length ≤ x.length + 1 := by
  intro i hi
  rw [List.length_append, List.length_append, List.length_take, List.length_drop, List.length_singleton]
  omega
 have key : ∀ (e i k : Nat), x.length - i = e → i ≤ x.length → e < k → ∃ y, spec_l3Num.l0 k x n (i : Int) = some y ∧ y.length ≤ x.length + 1 := by
  intro e
  induction e with
  | zero =>
   intro i k he hi hk
   obtain ⟨k, rfl⟩ : ∃ m, k = m + 1 := ⟨k - 1, by omega⟩
   simp only [spec_l3Num.l0]
   rw [if_neg (by omega)]
   have f := fin i hi
   simp only [Option.bind_some] at f ⊢
   rw [if_pos (by omega), if_pos (by omega)]
   exact ⟨_, f, len i hi⟩
  | succ e ih =>
   intro i k he hi hk
   obtain ⟨k, rfl⟩ : ∃ m, k = m + 1 := ⟨k - 1, by omega⟩
   simp only [spec_l3Num.l0]
   rw [if_pos (by omega), if_pos (by omega), w64 (by omega) (by omega), show ((i : Int) + 1) = ((i + 1 : Nat) : Int) by omega]
   by_cases h1 : rd x (i : Int) < n
   ·rw [if_pos h1]
    exact ih (i + 1) k (by omega) (by omega) (by omega)
   ·rw [if_neg h1]
    by_cases h2 : rd x (i : Int) = n
    ·rw [if_pos h2]
     exact ⟨_, rfl, by omega⟩
    ·rw [if_neg h2]
     have f := fin i hi
     simp only [Option.bind_some] at f ⊢
     rw [if_pos (by omega)]
     exact ⟨_, f, len i hi⟩
 exact key x.length 0 k (by omega) (by omega) hk
theorem edges_ev (l : List S109) (hl : l.length ≤ 1000) (hr : ∀ i, i < l.length → rok (l.getD i z109) = true) (w : Int) (x : List Int) (hx : x.length ≤ 10000) {k : Nat} (hk : 20000 ≤ k) : ∃ y, spec_l4Edges.f k l w x = some y ∧ y.length ≤ x.length + 2 * l.length := by
 have key : ∀ (e i k : Nat) (x : List Int), l.length - i = e → i ≤ l.length → x.length ≤ 10000 + 2 * i → 15000 + 3 * e ≤ k → ∃ y, spec_l4Edges.l0 k l w x (i : Int) = some y ∧ y.length ≤ x.length + 2 * e := by
  intro e
  induction e with
  | zero =>
   intro i k x he hi hx hk
   obtain ⟨k, rfl⟩ : ∃ m, k = m + 1 := ⟨k - 1, by omega⟩
   simp only [spec_l4Edges.l0]
   rw [if_neg (by omega)]
   exact ⟨_, rfl, by omega⟩
  | succ e ih =>
   intro i k x he hi hx hk
   obtain ⟨k, rfl⟩ : ∃ m, k = m + 1 := ⟨k - 1, by omega⟩
   obtain ⟨k, rfl⟩ : ∃ m, k = m + 1 := ⟨k - 1, by omega⟩
   obtain ⟨k, rfl⟩ : ∃ m, k = m + 1 := ⟨k - 1, by omega⟩
   have hrr := hr i (by omega)
   rw [show l.getD i z109 = rd_T109 l (i : Int) from (rdR l i).symm] at hrr
   unfold rok at hrr
   rw [Bool.and_eq_true, Bool.and_eq_true] at hrr
   have j2 : ∀ a b c : Int, ∃ y, spec_l4Edges.j2 (k + 1) l w x (i : Int) a b c = some y ∧ y.length ≤ x.length + 2 * (e + 1) := by
    intro a b c
    simp only [spec_l4Edges.j2]
    obtain ⟨y, ey, hy⟩ := l3Num_ev a x (by omega) (show x.length < k by omega)
    obtain ⟨y', ey', hy'⟩ := l3Num_ev (wrap64 (b + 1)) y (by omega) (show y.length < k by omega)
    rw [ey, Option.bind_some, w64 (x := (i : Int) + 1) (by omega) (by omega), show ((i : Int) + 1) = ((i + 1 : Nat) : Int) by omega, ey', Option.bind_some]
    split
    ·obtain ⟨z, ez, hz⟩ := ih (i + 1) k y' (by omega) (by omega) (by omega) (by omega)
     exact ⟨z, ez, by omega⟩
    ·obtain ⟨z, ez, hz⟩ := ih (i + 1) k y (by omega) (by omega) (by omega) (by omega)
     exact ⟨z, ez, by omega⟩
   have j1 : ∀ a b c : Int, ∃ y, spec_l4Edges.j1 (k + 1 + 1) l w x (i : Int) a b c = some y ∧ y.length ≤ x.length + 2 * (e + 1) := by
    intro a b c
    simp only [spec_l4Edges.j1]
    split
    ·rw [if_pos (by omega), if_pos (by omega), last_spec hrr.2.1 (by omega), Option.bind_some]
     exact j2 _ _ _
    ·exact j2 _ _ _
   simp only [spec_l4Edges.l0]
   rw [if_pos (by omega), if_pos (by omega)]
   split
   ·rw [last_spec hrr.1 (by omega), Option.bind_some]
    exact j1 _ _ _
   ·exact j1 _ _ _
 unfold spec_l4Edges.f
 exact key l.length 0 k x (by omega) (by omega) (by omega) (by omega)
theorem edges_none (w : Int) (x : List Int) {k : Nat} (hk : 1 ≤ k) : spec_l4Edges.f k [] w x = some x := by
 obtain ⟨k, rfl⟩ : ∃ m, k = m + 1 := ⟨k - 1, by omega⟩
 unfold spec_l4Edges.f
 simp only [spec_l4Edges.l0]
 rw [if_neg (by simp)]
theorem about_ev (r : S109) (h : rok r = true) (a b c : Int) {k : Nat} (hk : 40 ≤ k) : ∃ v, spec_l4About.f k r.f0 r.f1 r.f2.f0 r.f2.f1 r.f3.f0 r.f3.f1 r.f4 r.f5 a b c = some v := by
 unfold rok at h
 rw [Bool.and_eq_true, Bool.and_eq_true] at h
 unfold spec_l4About.f
 simp only [last_spec h.1 hk, last_spec h.2.1 hk, in_spec, Option.bind_some]
 split
 ·split <;> exact ⟨_, rfl⟩
 ·exact ⟨_, rfl⟩
theorem first_ev (l : List S109) (hl : l.length ≤ 1000) (hr : ∀ i, i < l.length → rok (l.getD i z109) = true) (a b c : Int) {k : Nat} (hk : l.length + 50 ≤ k) : ∃ v, spec_l4First.f k l a b c = some v := by
 have key : ∀ (e i k : Nat), l.length - i = e → i ≤ l.length → e + 50 ≤ k → ∃ v, spec_l4First.l0 k l (i : Int) a b c = some v := by
  intro e
  induction e with
  | zero =>
   intro i k he hi hk
   obtain ⟨k, rfl⟩ : ∃ m, k = m + 1 := ⟨k - 1, by omega⟩
   simp only [spec_l4First.l0]
   rw [if_neg (by omega)]
   exact ⟨_, rfl⟩
  | succ e ih =>
   intro i k he hi hk
   obtain ⟨k, rfl⟩ : ∃ m, k = m + 1 := ⟨k - 1, by omega⟩
   simp only [spec_l4First.l0]
   have hrr := hr i (by omega)
   rw [show l.getD i z109 = rd_T109 l (i : Int) from (rdR l i).symm] at hrr
   obtain ⟨v, ev⟩ := about_ev _ hrr a b c (show 40 ≤ k by omega)
   rw [if_pos (by omega), if_pos (by omega), ev, Option.bind_some, w64 (x := (i : Int) + 1) (by omega) (by omega), show ((i : Int) + 1) = ((i + 1 : Nat) : Int) by omega]
   split
   ·exact ⟨_, rfl⟩
   ·exact ih (i + 1) k (by omega) (by omega) (by omega)
 exact key l.length 0 k (by omega) (by omega) (by omega)
theorem to_ev (x : List Int) (i m : Int) : ∃ v, spec_l5To.f x i m = some v ∨ ¬ 0 ≤ wrap64 (i + 1) := by
 by_cases h : 0 ≤ wrap64 (i + 1)
 ·unfold spec_l5To.f
  by_cases g : wrap64 (i + 1) < (x.length : Int)
  ·rw [if_pos g, if_pos h]; exact ⟨_, .inl rfl⟩
  ·rw [if_neg g]; exact ⟨_, .inl rfl⟩
 ·exact ⟨0, .inr h⟩
theorem to_ev' (x : List Int) (i : Nat) (m : Int) (hi : i ≤ 1000000) : ∃ v, spec_l5To.f x (i : Int) m = some v := by
 obtain ⟨v, h | h⟩ := to_ev x i m
 ·exact ⟨v, h⟩
 ·rw [w64 (by omega) (by omega)] at h
  omega
theorem join_ev (l : List S67) (hl : l.length ≤ 1000000) (a b c d e f g : Int) : ∃ y, spec_l5Join.f l a b c d e f g = some y ∧ y.length ≤ l.length + 1 := by
 unfold spec_l5Join.f
 rw [w64 (x := (l.length : Int) - 1) (by omega) (by omega), if_pos (show l.length < 2513169434916 by omega)]
 by_cases h : (l.length : Int) - 1 ≥ 0
 ·rw [if_pos h, if_pos (by omega), if_pos (by omega)]
  repeat' split
  all_goals exact ⟨_, rfl, by simp⟩
 ·rw [if_neg h]
  exact ⟨_, rfl, by simp⟩
theorem cells_loop (l : List S109) (hl : l.length ≤ 1000) (hr : ∀ i, i < l.length → rok (l.getD i z109) = true) (A B C : List Int) (hA : A.length ≤ 50) (hB : B.length ≤ 50) (hC : C.length ≤ 50) (k : Nat) (hk : 150000 ≤ k) :
  ∃ y, spec_l5Cells.l0 k l [] 0 A B C = some y := by
 -- the innermost loop: back to the one around it
 have i2 : ∀ (a b : Nat), a < A.length → b < B.length → ∀ (e c k : Nat) (out : List S67), C.length - c = e → c ≤ C.length → out.length + e ≤ 900000 → 2000 ≤ k → ∃ out', out'.length ≤ out.length + e ∧ spec_l5Cells.l2 (k + e + 1) l out (a : Int) (b : Int) (c : Int) A B C = spec_l5Cells.l1 k l out' (a : Int) ((b + 1 : Nat) : Int) A B C := by
  intro a b ha hb e
  induction e with
  | zero =>
   intro c k out he hc ho hk
   simp only [spec_l5Cells.l2, Nat.add_zero]
   rw [if_neg (by omega), w64 (x := (b : Int) + 1) (by omega) (by omega), show ((b : Int) + 1) = ((b + 1 : Nat) : Int) by omega]
   exact ⟨out, by omega, rfl⟩
  | succ e ih =>
   intro c k out he hc ho hk
   obtain ⟨K, hK⟩ : ∃ K, K = k + e + 1 := ⟨_, rfl⟩
   rw [show k + (e + 1) + 1 = K + 1 by omega]
   simp only [spec_l5Cells.l2]
   obtain ⟨v, ev⟩ := first_ev l hl hr (rd A (a : Int)) (rd B (b : Int)) (rd C (c : Int)) (show l.length + 50 ≤ K by omega)
   obtain ⟨x, ex⟩ := to_ev' A a 4294967295 (by omega)
   obtain ⟨y, ey⟩ := to_ev' B b 4294967295 (by omega)
   obtain ⟨z, ez⟩ := to_ev' C c 65535 (by omega)
   obtain ⟨q, eq, hq⟩ := join_ev out (by omega) (rd A (a : Int)) x (rd B (b : Int)) y (rd C (c : Int)) z v
   rw [if_pos (by omega), if_pos (by omega), if_pos (by omega), if_pos (by omega), if_pos (by omega), if_pos (by omega), ev, Option.bind_some, w64 (x := (c : Int) + 1) (by omega) (by omega), show ((c : Int) + 1) = ((c + 1 : Nat) : Int) by omega]
   by_cases h : v ≥ 0
   ·rw [if_pos h, ex, Option.bind_some, ey, Option.bind_some, ez, Option.bind_some, eq, Option.bind_some]
    obtain ⟨o, ho', e'⟩ := ih (c + 1) k q (by omega) (by omega) (by omega) hk
    rw [← hK] at e'
    exact ⟨o, by omega, e'⟩
   ·rw [if_neg h]
    obtain ⟨o, ho', e'⟩ := ih (c + 1) k out (by omega) (by omega) (by omega) hk
    rw [← hK] at e'
    exact ⟨o, by omega, e'⟩
 have i1 : ∀ a : Nat, a < A.length → ∀ (e b k : Nat) (out : List S67), B.length - b = e → b ≤ B.length → out.length + e * 50 ≤ 900000 → 2000 ≤ k → ∃ out', out'.length ≤ out.length + e * 50 ∧ spec_l5Cells.l1 (k + e * (C.length + 2) + 1) l out (a : Int) (b : Int) A B C = spec_l5Cells.l0 k l out' ((a + 1 : Nat) : Int) A B C := by
  intro a ha e
  induction e with
  | zero =>
   intro b k out he hb ho hk
   simp only [spec_l5Cells.l1, Nat.zero_mul, Nat.add_zero]
   rw [if_neg (by omega), w64 (x := (a : Int) + 1) (by omega) (by omega), show ((a : Int) + 1) = ((a + 1 : Nat) : Int) by omega]
   exact ⟨out, by omega, rfl⟩
  | succ e ih =>
   intro b k out he hb ho hk
   obtain ⟨o, ho', e'⟩ := i2 a b ha (by omega) C.length 0 (k + e * (C.length + 2) + 1) out (by omega) (by omega) (by omega) (by omega)
   rw [show k + (e + 1) * (C.length + 2) + 1 = (k + e * (C.length + 2) + 1 + C.length + 1) + 1 by rw [Nat.add_mul]; omega]
   simp only [spec_l5Cells.l1]
   rw [if_pos (by omega)]
   rw [show ((0 : Nat) : Int) = 0 from rfl] at e'
   rw [e']
   obtain ⟨o2, ho2, e2⟩ := ih (b + 1) k o (by omega) (by omega) (by omega) hk
   exact ⟨o2, by omega, e2⟩
 have i0 : ∀ (e a k : Nat) (out : List S67), A.length - a = e → a ≤ A.length → out.length + e * 2500 ≤ 900000 → 2000 ≤ k → ∃ y, spec_l5Cells.l0 (k + e * (B.length * (C.length + 2) + 2) + 1) l out (a : Int) A B C = some y := by
  intro e
  induction e with
  | zero =>
   intro a k out he ha ho hk
   simp only [spec_l5Cells.l0, Nat.zero_mul, Nat.add_zero]
   rw [if_neg (by omega)]
   exact ⟨_, rfl⟩
  | succ e ih =>
   intro a k out he ha ho hk
   obtain ⟨o, ho', e'⟩ := i1 a (by omega) B.length 0 (k + e * (B.length * (C.length + 2) + 2) + 1) out (by omega) (by omega) (by omega) (by omega)
   rw [show k + (e + 1) * (B.length * (C.length + 2) + 2) + 1 = (k + e * (B.length * (C.length + 2) + 2) + 1 + B.length * (C.length + 2) + 1) + 1 by rw [Nat.add_mul]; omega]
   simp only [spec_l5Cells.l0]
   rw [if_pos (by omega)]
   rw [show ((0 : Nat) : Int) = 0 from rfl] at e'
   rw [e']
   exact ih (a + 1) k o (by omega) (by omega) (by omega) hk
 have h1 : B.length * (C.length + 2) ≤ 50 * 52 := Nat.mul_le_mul hB (by omega)
 have h2 : A.length * (B.length * (C.length + 2) + 2) ≤ 50 * 2602 := Nat.mul_le_mul hA (by omega)
 obtain ⟨k, rfl⟩ : ∃ m, k = m + A.length * (B.length * (C.length + 2) + 2) + 1 := ⟨k - A.length * (B.length * (C.length + 2) + 2) - 1, by omega⟩
 exact i0 A.length 0 k [] (by omega) (by omega) (by rw [List.length_nil]; omega) (by omega)
theorem cells_ev (l : List S109) (hl : l.length ≤ 1000) {k : Nat} (hk : 150000 ≤ k) : ∃ c b, spec_Cells.f k l = some (c, b) ∧ c.length ≤ 400 := by
 unfold spec_Cells.f
 rw [rulesOk_spec (by omega) (by omega), Option.bind_some]
 by_cases h : rsok l = true
 ·rw [if_pos h]
  unfold rsok at h
  by_cases g : ((List.range l.length).all fun i => rok (l.getD i z109)) = true
  ·rw [if_pos g, decide_eq_true_eq] at h
   rw [List.all_eq_true] at g
   have hr : ∀ i, i < l.length → rok (l.getD i z109) = true := fun i hi => g i (List.mem_range.2 hi)
   obtain ⟨A, eA, hA⟩ := edges_ev l hl hr 0 [0] (by simp) (show 20000 ≤ k by omega)
   obtain ⟨B, eB, hB⟩ := edges_ev l hl hr 1 [0] (by simp) (show 20000 ≤ k by omega)
   obtain ⟨C, eC, hC⟩ := edges_ev l hl hr 2 [0] (by simp) (show 20000 ≤ k by omega)
   rw [List.length_singleton] at hA hB hC
   obtain ⟨y, ey⟩ := cells_loop l hl hr A B C (by omega) (by omega) (by omega) k hk
   have e : spec_l5Cells.f k l = some y := by
    unfold spec_l5Cells.f spec_l4Of.f
    simp only [eA, eB, eC, edges_none _ _ (show 1 ≤ k by omega), Option.bind_some]
    exact ey
   rw [e, Option.bind_some]
   by_cases hy : (y.length : Int) > 400
   ·rw [if_pos hy]
    exact ⟨_, _, rfl, by simp⟩
   ·rw [if_neg hy]
    exact ⟨_, _, rfl, by omega⟩
  ·rw [if_neg g] at h
   cases h
 ·rw [if_neg h]
  exact ⟨_, _, rfl, by simp⟩
end Go.Proofs.Ytbhgkpfbggkgdaa.Pure

namespace Go.Proofs.Ytbhgkpfbggkgdaa.Pure
set_option linter.unusedSimpArgs false
open Go.RowKit Go.Proofs.Ytbhgkpfbggkgdaa.Q Go.Proofs.Ytbhgkpfbggkgdaa.Open Go.Proofs.YtbhgkpfbggkgdaaW.PrintWords Go.Proofs.YtbhgkpfbggkgdaaW.PrintLast Go.Proofs.YtbhgkpfbggkgdaaW.PrintMore
theorem find_step (l : List S67) (hl : l.length ≤ 1000) (a b c : Int) (k i : Nat) (hi : i < l.length) : impl_CellsFind.l0 (k + 1) l (l.length : Int) (i : Int) a b c = if chas (l.getD i z67) a b c = true then some (l.getD i z67).f6 else impl_CellsFind.l0 k l (l.length : Int) ((i + 1 : Nat) : Int) a b c := by
 have ew : wrap64 ((i : Int) + 1) = ((i + 1 : Nat) : Int) := by rw [w64 (by omega) (by omega)]; rfl
 have h1 : (i : Int) < (l.length : Int) := by omega
 have h2 : 0 ≤ (i : Int) := by omega
 simp only [impl_CellsFind.l0, if_pos h1, if_pos h2, rdC, in_impl, Option.bind_some, ew]
 unfold chas
 generalize decide ((l.getD i z67).f0 ≤ a ∧ a ≤ (l.getD i z67).f1) = p
 generalize decide ((l.getD i z67).f2 ≤ b ∧ b ≤ (l.getD i z67).f3) = q
 generalize decide ((l.getD i z67).f4 ≤ c ∧ c ≤ (l.getD i z67).f5) = r
 cases p <;> cases q <;> cases r <;> rfl
theorem meet_point (x : S67) (a b c : Int) : impl_CellsMeet.f x.f0 x.f1 x.f2 x.f3 x.f4 x.f5 x.f6 a a b b c c 0 = some (chas x a b c) := by
 have one : ∀ p q r : Int, mx p r ≤ mn q r ↔ p ≤ r ∧ r ≤ q := by
  intro p q r
  unfold mx mn
  split <;> split <;> omega
 unfold impl_CellsMeet.f chas
 simp only [one]
 repeat' split
 all_goals simp [*]
theorem find_loop (l : List S67) (hl : l.length ≤ 1000) (a b c r : Int) : ∀ (e i k j : Nat), l.length - i = e → i ≤ l.length → e < k → e < j → impl_CellsFind.l0 k l (l.length : Int) (i : Int) a b c = some r → laws_FnCellsFind.l0 j l r (i : Int) a a b b c c 0 = some true := by
 intro e
 induction e with
 | zero =>
  intro i k j he hi hk hj h
  obtain ⟨k, rfl⟩ : ∃ m, k = m + 1 := ⟨k - 1, by omega⟩
  obtain ⟨j, rfl⟩ : ∃ m, j = m + 1 := ⟨j - 1, by omega⟩
  simp only [impl_CellsFind.l0] at h
  rw [if_neg (by omega)] at h
  obtain rfl := Option.some.inj h
  simp only [laws_FnCellsFind.l0]
  rw [if_neg (by omega)]
  rfl
 | succ e ih =>
  intro i k j he hi hk hj h
  obtain ⟨k, rfl⟩ : ∃ m, k = m + 1 := ⟨k - 1, by omega⟩
  obtain ⟨j, rfl⟩ : ∃ m, j = m + 1 := ⟨j - 1, by omega⟩
  rw [find_step l hl a b c k i (by omega)] at h
  simp only [laws_FnCellsFind.l0]
  rw [if_pos (by omega), if_pos (by omega), rdC, meet_point, Option.bind_some, w64 (x := (i : Int) + 1) (by omega) (by omega), show ((i : Int) + 1) = ((i + 1 : Nat) : Int) by omega]
  by_cases g : chas (l.getD i z67) a b c = true
  ·rw [if_pos g] at h ⊢
   obtain rfl := Option.some.inj h
   simp
  ·rw [if_neg g] at h ⊢
   exact ih (i + 1) k j (by omega) (by omega) (by omega) (by omega) h
theorem FnCellsFind : laws_FnCellsFind.Pure := by
 intro xs ⟨_, hf⟩
 refine ⟨200000, ?_⟩
 unfold laws_FnCellsFind.f
 by_cases hl : (xs.length : Int) > 1048576
 ·rw [if_pos hl]
 rw [if_neg hl]
 obtain ⟨ys, eo, ho⟩ := open_ev (fun y hy => fits_u8 (hf y hy))
 obtain ⟨l, t, el, t0, t1, hl'⟩ := drRules_ev ho (s := 0) (k := 200000) (by omega) (by omega) (by omega)
 obtain ⟨c, b, ec, hc⟩ := cells_ev l (by omega) (k := 200000) (by omega)
 obtain ⟨p, q, r, u, eu⟩ := drAnyCall_ev ho (s := t) (k := 200000) (by omega) (by omega) (by omega)
 have e : spec_DrawCellsFind.f 200000 xs = some (c, p, q, r) := by
  unfold spec_DrawCellsFind.f
  simp only [eo, el, ec, eu, Option.bind_some]
 obtain ⟨v, hv⟩ := cellsFind_ev (l := c) p q r (by omega)
 obtain ⟨h1, h2⟩ := hv 200000 (by omega)
 rw [e, Option.bind_some]
 dsimp only
 rw [h2, Option.bind_some, h1, Option.bind_some, if_pos rfl]
 unfold impl_CellsFind.f at h2
 exact find_loop c (by omega) p q r v c.length 0 200000 200000 (by omega) (by omega) (by omega) (by omega) h2
end Go.Proofs.Ytbhgkpfbggkgdaa.Pure

namespace Go.Proofs.Ytbhgkpfbggkgdaa.fnCellsFind
open Go.ChangeShapes Go.WideShapes Go.ChangeAt Go.RowKit Go.Proofs.YtbhgkpfbggkgdaaW.PrintWords Go.Proofs.Ytbhgkpfbggkgdaa.Open Go.Proofs.Ytbhgkpfbggkgdaa.Q
open Go.ChangeMaps (open_string shut_string)
set_option linter.unusedVariables false
theorem own : ownKnob Try.prog.godebug = none := by kernel_rfl
theorem laidOut : laidOutB Try.prog = true := by kernel_rfl
set_option maxRecDepth 100000 in
theorem lifted (os : Os) (started : os.Started) (H : Type) (enc : TypeId × Value → H) :
  ReturnsInHanded {} Try.checked os 10 .any (Rows.fnCellsFindSpec.pre6 enc Try.prog Try.f10 Rows.fnCellsFindRow.domain false) (Rows.fnCellsFindSpec.post enc Try.prog Try.f10 false true false false) := by
 refine returnsInHanded_of_change_sized (C := Try.checked) own started (by kernel_rfl) Try.func10
  (ChangeSpec.witness6 (enc := enc) (C := Try.checked) false ⟨#[], #[.slice none 0 0], []⟩ 8 (by kernel_rfl) (by kernel_rfl) (by kernel_rfl) (by kernel_rfl)) ?_
 intro W base args ds gs before hval0 hW hcnd hsz0 _
 have hval : ∀ (j : Nat) t v, Try.f10.params[j]? = some t → args[j]? = some v → Value.okWide Try.prog W .any base t v := hval0
 have hW' := hW
 obtain ⟨p, q, hA0, hV, rfl, hfz, hnd⟩ := hW
 have hA : DataW.TrodAll enc Try.prog W 0 (fun _ => true) true Try.f10.params.toList args.toList ds p := hA0
 rw [Try.params10] at hA hval
 obtain ⟨v0, vs0, d0, ds0, p0, q0, hargs, rfl, rfl, h0, r0⟩ := trodAll_cons hA
 obtain ⟨rfl, rfl, rfl⟩ := trodAll_nil r0
 obtain rfl : args = #[v0] := by cases args; simp_all
 obtain ⟨rfl, rfl⟩ := trodVars_none hV
 have lt0 : ∀ x ∈ p0, x.block < W.heap.size := by obtain ⟨m, hm⟩ := h0; exact DataW.trod_lt m _ _ _ hm
 have k0 := h0
 obtain ⟨x0, K0, w0⟩ := open_arg (op40 W) h0
 obtain ⟨aa0, len0, cap0, rfl⟩ := okWide_slice Try.underlying40 (hval 0 40 v0 rfl rfl)
 obtain ⟨A0, c0, e0, hc0, hr0⟩ := K0
 obtain ⟨rfl, rfl, rfl⟩ := slice_of_cells e0
 obtain ⟨k, hp⟩ := Pure.FnCellsFind x0 w0
 refine (laws_FnCellsFind.calls k _ _ x0 true W hr0 hc0 hp).mono ?_
 rintro e W' ⟨rfl, bel0⟩
 have bel : Below W.heap.size W W' := bel0
 exact ⟨_, rfl, _, _, _, [], _, [], hW', trodAll_mk1 (shut_bool Try.underlying4 _), (trodAll_cons_mk (Below.trod laidOut (by kernel_rfl) (of_decide_eq_true (by kernel_rfl)) k0 bel lt0) trodAll_mk0), rfl, bel.frame _, fun h => by cases h⟩
theorem over : Rows.fnCellsFindRow.holds Try.pinned (OpenSpec.ofChange Rows.fnCellsFindSpec) :=
 OpenClaim.holds_of_wide 10 Try.f10 rfl rfl rfl rfl rfl rfl rfl ⟨rfl, rfl, rfl, rfl, rfl⟩ rfl rfl rfl rfl rfl (by kernel_rfl) Try.func10 (by kernel_rfl)
  (of_decide_eq_true (by kernel_rfl)) (by unfold Func.isWrapper; first | (rw [if_pos (by decide +kernel)]; kernel_rfl) | (rw [if_neg (by decide +kernel)]; exact ⟨rfl, rfl⟩))
  (fun os started H enc _ => lifted os started H enc)
theorem proved : Rows.FnCellsFindSaid := over
#print axioms proved
end Go.Proofs.Ytbhgkpfbggkgdaa.fnCellsFind
namespace Go.Proofs.Ytbhgkpfbggkgdaa
/-- The row, under a short name, for the claim. -/
theorem fnCellsFind_holds : Rows.FnCellsFindSaid := fnCellsFind.proved
end Go.Proofs.Ytbhgkpfbggkgdaa
