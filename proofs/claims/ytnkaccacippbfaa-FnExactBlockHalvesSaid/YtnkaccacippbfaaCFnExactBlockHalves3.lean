/- The law FnExactBlockHalves (part 3 of 3): for every input the call answers true and its arguments read afterwards as before. No condition beyond the row's own. -/
import Derived.Test.YtnkaccacippbfaaRows
import Derived.Test.YtnkaccacippbfaaProg
import Derived.Below
import Derived.Deep.Draws
import Derived.Deep.AppendLies
import Derived.Maps.AppendAt
import Derived.OwnWalk
import Derived.Laws.BytesArg
import Derived.Laws.MakeOwn
import Derived.Laws.OwnMore
import Derived.Deep.OwnRows
import Derived.Tactics
import Derived.Lib.ConvBytes
import Derived.Laws.Slices
import Derived.WalkKit
import Derived.KernelRfl
import Derived.RowKit3
import Derived.Deep.LoopGhost
import Derived.Deep.QuietTactic
import Derived.BigQuiet
import Derived.WideLaws
import Derived.Deep.DeepCutAuto
import Derived.Deep.CutBlock
import Derived.Deep.RegionHeld3
import Derived.Laws.Rows
import Derived.Lib.AppendStr
import Derived.ArgAppend
import Derived.Laws.IdiomCopy
import Derived.OrdersHeld
import Derived.Laws.BitsLemmas
import Derived.RowKit
import Derived.Test.YtnkaccacippbfaaWWords
import Derived.Test.YtnkaccacippbfaaWLast
import Derived.Test.YtnkaccacippbfaaWTab
import Derived.Test.YtnkaccacippbfaaWFour
import Derived.Test.YtnkaccacippbfaaWQPut
import Derived.Test.YtnkaccacippbfaaWApart
import Derived.Test.YtnkaccacippbfaaWArr
import Derived.Test.YtnkaccacippbfaaWZeros
import Derived.Test.YtnkaccacippbfaaWFoot
import Derived.Test.YtnkaccacippbfaaWKept
import Derived.Test.YtnkaccacippbfaaWShare
import Derived.Test.YtnkaccacippbfaaWN
import Derived.Test.YtnkaccacippbfaaWFootNe
import Derived.Test.YtnkaccacippbfaaWAt
import Derived.Test.YtnkaccacippbfaaWEqStruct
import Derived.Test.YtnkaccacippbfaaWRepsOne
import Derived.Test.YtnkaccacippbfaaWInv
import Derived.Test.YtnkaccacippbfaaWInvWords
import Derived.Test.YtnkaccacippbfaaWGuard
import Derived.Test.YtnkaccacippbfaaWNEv
import Derived.Test.YtnkaccacippbfaaWMore
import Derived.Deep.Slices
import Derived.Deep.Fields
import Derived.ChangeSame
import Derived.ProofKit
import Derived.WideShapes
import Derived.OpenShut
import Derived.ShutString
import Derived.ChangeOld
import Derived.SizedLaws
import Derived.Test.YtnkaccacippbfaaCFnExactBlockHalves2
/- Contracts of Go functions of this seat, written by a program: where F.f of the arguments is some r, the call returns r. Conditions: those in each statement. -/
namespace Go.Proofs.Ytnkaccacippbfaa.Q
open Go.RowKit Go.Proofs.YtnkaccacippbfaaW.PrintWords Go.Proofs.YtnkaccacippbfaaW.PrintLast Go.Proofs.YtnkaccacippbfaaW.PrintMore
attribute [local go_sem] max2_int min2_int max_two min_two max_three min_three max_four min_four   -- for this text's walks alone
set_option linter.unusedVariables false
set_option linter.unusedSimpArgs false

/-! ### spec_BlockSize: function 31 -/
def spec_BlockSize.f (k : Nat) (a0_0 : Int) (a0_1 : Int) : Option (Int) := (spec_BlockOk.f k a0_0 a0_1).bind fun t248 => (if t248 = true then ((spec_l1Size.f k a0_1).bind fun t249 => (some t249)) else (some 0))
theorem spec_BlockSize.mono : ∀ a0 a1 k, LeO (spec_BlockSize.f k a0 a1) (spec_BlockSize.f (k + 1) a0 a1) := by
  intro a0 a1 k
  unfold spec_BlockSize.f
  repeat' first
      | (with_reducible exact spec_BlockOk.mono _ _ _)
      | (with_reducible exact spec_l1Size.mono _ _)
      | (with_reducible exact LeO.refl _)
      | (with_reducible exact LeO.none _)
      | (with_reducible refine LeO.ite ?_ ?_)
      | (with_reducible refine LeO.bind ?_ (fun _ => ?_))
      | exact spec_BlockOk.mono _ _ _
      | exact spec_l1Size.mono _ _
      | exact LeO.none _
      | refine LeO.ite ?_ ?_
      | refine LeO.bind ?_ (fun _ => ?_)
set_option maxHeartbeats 8000000 in
set_option maxRecDepth 100000 in
theorem spec_BlockSize.calls (k : Nat) (a0_0 : Int) (a0_1 : Int) (r : Int) (w : World) (h : spec_BlockSize.f k a0_0 a0_1 = some r) :
    Calls Try.prog 31 #[.agg #[.int .i64 a0_0, .int .i64 a0_1]] w fun e w' => e = .returned (.int .i64 r) ∧ Below w.heap.size w w' := by
  have hu34 := Try.underlying34
  have HB := Aside0.mk (Below.refl w.heap.size w)
  have H : ((spec_BlockOk.f k a0_0 a0_1).bind fun t248 => (if t248 = true then ((spec_l1Size.f k a0_1).bind fun t249 => (some t249)) else (some 0))) = some r := h
  clear h
  replace H := Option.bind_eq_some_iff.mp H
  obtain ⟨t248, A20, H⟩ := H
  replace H : (if t248 = true then ((spec_l1Size.f k a0_1).bind fun t249 => (some t249)) else (some 0)) = some r := H
  have A2 := Aside0.mk A20
  clear A20
  by_cases c3 : t248 = true
  · subst c3
    have H1 : ((spec_l1Size.f k a0_1).bind fun t249 => (some t249)) = some r := by rw [if_pos rfl] at H; exact H
    clear H
    have H := H1
    clear H1
    replace H := Option.bind_eq_some_iff.mp H
    obtain ⟨t249, A40, H⟩ := H
    replace H : (some t249) = some r := H
    have A4 := Aside0.mk A40
    clear A40
    obtain rfl := Option.some.inj H
    go_enter Try.func31, Try.ntmps31
    go_wp2_with (first | ((with_reducible refine gate_dst (N := 1) rfl ?_); refine box_event ?hg (N := 1) ?hd (cs := #[.int .i64 a0_0, .int .i64 a0_1]) (t := 34) ?hr ?_; (case hd => rfl); (case hg => rfl); (case hr => first | (go_simp; done) | (go_simp; rfl)); intro gb247 hg w5 hbox hb; have n0_ := Aside0.mk (below_step (by repeat (first | (with_reducible first | exact HB.out | apply below_alloc | apply pw_below_drewN | apply below_drew1) | exact HB.out)) hb); have n1_ := Aside0.mk (hbox); have n2_ := Aside0.mk ((by rw [hg]; exact (below_size (by repeat (first | (with_reducible first | exact HB.out | apply below_alloc | apply pw_below_drewN | apply below_drew1) | exact HB.out))) : w.heap.size ≤ gb247)); have n3_ := Aside0.mk ((by rw [hg]; exact (below_size (by repeat (first | (with_reducible first | exact HB.out | apply below_alloc | apply pw_below_drewN | apply below_drew1) | exact HB.out))) : w.heap.size ≤ gb247)); clear HB; have HB := n0_; have BK247 := n1_; have GW247 := n2_; have GE247 := n3_; clear n0_ n1_ n2_ n3_; clear hb hbox hg; have hcz6_0 : w5.cell? ⟨gb247, 0, none⟩ = some (.int .i64 a0_0) := (blk_cell BK247.out 0).trans rfl; have hcz6_1 : w5.cell? ⟨gb247, 1, none⟩ = some (.int .i64 a0_1) := (blk_cell BK247.out 1).trans rfl; have hfz6_0 := blk_frozen BK247.out 0; have hfz6_1 := blk_frozen BK247.out 1) | ((with_reducible refine gate_callee (f := 20) rfl ?_); refine goesL_ (some 4) rfl rfl Try.func20 (by kernel_rfl) rfl #[.agg #[.int .i64 a0_0, .int .i64 a0_1]] rfl (by (try simp only [List.map_toArray, List.map_cons, List.map_nil]); first | done | rfl | (simp only [List.length_drop, List.length_take]; rfl)) ?_; (with_reducible refine (spec_BlockOk.calls k a0_0 a0_1 true _ A2.out).mono ?_); rintro e w7 ⟨rfl, hb⟩; refine ⟨_, rfl, ?_⟩; have n0_ := Aside0.mk (blk_below (g := gb247) (o := .cells #[.int .i64 a0_0, .int .i64 a0_1] 34 (0, 0)) (by (with_reducible repeat (first | refine blk_drewN ?_ _ | refine blk_drew ?_ | refine blk_alloc ?_ _)); exact BK247.out) hb); have n1_ := Aside0.mk (below_step (by repeat (first | (with_reducible first | exact HB.out | apply below_alloc | apply pw_below_drewN | apply below_drew1 | refine below_set ?_ GE247.out) | exact HB.out)) hb); clear BK247; clear HB; have BK247 := n0_; have HB := n1_; clear n0_ n1_; (try clear hb); (try clear hb2); (try clear hk); (try clear hi); have hcz8_0 : w7.cell? ⟨gb247, 0, none⟩ = some (.int .i64 a0_0) := (blk_cell BK247.out 0).trans rfl; have hcz8_1 : w7.cell? ⟨gb247, 1, none⟩ = some (.int .i64 a0_1) := (blk_cell BK247.out 1).trans rfl; have hfz8_0 := blk_frozen BK247.out 0; have hfz8_1 := blk_frozen BK247.out 1) | ((with_reducible refine gate_callee (f := 45) rfl ?_); refine goesL_ (some 8) rfl rfl Try.func45 (by kernel_rfl) rfl #[.int .i64 a0_1] rfl (by (try simp only [List.map_toArray, List.map_cons, List.map_nil]); first | done | rfl | (simp only [List.length_drop, List.length_take]; rfl)) ?_; (with_reducible refine (spec_l1Size.calls k a0_1 t249 _ A4.out).mono ?_); rintro e w' ⟨rfl, ⟨nd, rfl⟩⟩; refine ⟨_, rfl, ?_⟩))
    go_ret
    exact ⟨by first | rfl | (simp [errW_none, errW_some] <;> rfl) | (simp [*, errW_none, errW_some] <;> rfl), by repeat (first | (with_reducible first | exact HB.out | apply below_alloc | apply pw_below_drewN | apply below_drew1 | refine below_set ?_ GE247.out) | exact HB.out)⟩
  · replace c3 := Bool.eq_false_iff.mpr c3
    subst c3
    have H1 : (some 0) = some r := by rw [if_neg (show ¬ (false = true) by decide)] at H; exact H
    clear H
    have H := H1
    clear H1
    obtain rfl := Option.some.inj H
    go_enter Try.func31, Try.ntmps31
    go_wp2_with (first | ((with_reducible refine gate_dst (N := 1) rfl ?_); refine box_event ?hg (N := 1) ?hd (cs := #[.int .i64 a0_0, .int .i64 a0_1]) (t := 34) ?hr ?_; (case hd => rfl); (case hg => rfl); (case hr => first | (go_simp; done) | (go_simp; rfl)); intro gb247 hg w9 hbox hb; have n0_ := Aside0.mk (below_step (by repeat (first | (with_reducible first | exact HB.out | apply below_alloc | apply pw_below_drewN | apply below_drew1) | exact HB.out)) hb); have n1_ := Aside0.mk (hbox); have n2_ := Aside0.mk ((by rw [hg]; exact (below_size (by repeat (first | (with_reducible first | exact HB.out | apply below_alloc | apply pw_below_drewN | apply below_drew1) | exact HB.out))) : w.heap.size ≤ gb247)); have n3_ := Aside0.mk ((by rw [hg]; exact (below_size (by repeat (first | (with_reducible first | exact HB.out | apply below_alloc | apply pw_below_drewN | apply below_drew1) | exact HB.out))) : w.heap.size ≤ gb247)); clear HB; have HB := n0_; have BK247 := n1_; have GW247 := n2_; have GE247 := n3_; clear n0_ n1_ n2_ n3_; clear hb hbox hg; have hcz10_0 : w9.cell? ⟨gb247, 0, none⟩ = some (.int .i64 a0_0) := (blk_cell BK247.out 0).trans rfl; have hcz10_1 : w9.cell? ⟨gb247, 1, none⟩ = some (.int .i64 a0_1) := (blk_cell BK247.out 1).trans rfl; have hfz10_0 := blk_frozen BK247.out 0; have hfz10_1 := blk_frozen BK247.out 1) | ((with_reducible refine gate_callee (f := 20) rfl ?_); refine goesL_ (some 4) rfl rfl Try.func20 (by kernel_rfl) rfl #[.agg #[.int .i64 a0_0, .int .i64 a0_1]] rfl (by (try simp only [List.map_toArray, List.map_cons, List.map_nil]); first | done | rfl | (simp only [List.length_drop, List.length_take]; rfl)) ?_; (with_reducible refine (spec_BlockOk.calls k a0_0 a0_1 false _ A2.out).mono ?_); rintro e w11 ⟨rfl, hb⟩; refine ⟨_, rfl, ?_⟩; have n0_ := Aside0.mk (blk_below (g := gb247) (o := .cells #[.int .i64 a0_0, .int .i64 a0_1] 34 (0, 0)) (by (with_reducible repeat (first | refine blk_drewN ?_ _ | refine blk_drew ?_ | refine blk_alloc ?_ _)); exact BK247.out) hb); have n1_ := Aside0.mk (below_step (by repeat (first | (with_reducible first | exact HB.out | apply below_alloc | apply pw_below_drewN | apply below_drew1 | refine below_set ?_ GE247.out) | exact HB.out)) hb); clear BK247; clear HB; have BK247 := n0_; have HB := n1_; clear n0_ n1_; (try clear hb); (try clear hb2); (try clear hk); (try clear hi)))
    go_ret
    exact ⟨by first | rfl | (simp [errW_none, errW_some] <;> rfl) | (simp [*, errW_none, errW_some] <;> rfl), by repeat (first | (with_reducible first | exact HB.out | apply below_alloc | apply pw_below_drewN | apply below_drew1 | refine below_set ?_ GE247.out) | exact HB.out)⟩

end Go.Proofs.Ytnkaccacippbfaa.Q

/- Contracts of Go functions of this seat, written by a program: where F.f of the arguments is some r, the call returns r. Conditions: those in each statement. -/
namespace Go.Proofs.Ytnkaccacippbfaa.Q
open Go.RowKit Go.Proofs.YtnkaccacippbfaaW.PrintWords Go.Proofs.YtnkaccacippbfaaW.PrintLast Go.Proofs.YtnkaccacippbfaaW.PrintMore
attribute [local go_sem] max2_int min2_int max_two min_two max_three min_three max_four min_four   -- for this text's walks alone
set_option linter.unusedVariables false
set_option linter.unusedSimpArgs false

/-! ### impl_BlockSize: function 32 -/
def impl_BlockSize.f (a0_0 : Int) (a0_1 : Int) : Option (Int) := (impl_BlockOk.f a0_0 a0_1).bind fun t251 => (if t251 = true then ((impl_Block_size.f a0_0 a0_1).bind fun t252 => (some t252)) else (some 0))
set_option maxHeartbeats 8000000 in
set_option maxRecDepth 100000 in
theorem impl_BlockSize.calls (a0_0 : Int) (a0_1 : Int) (r : Int) (w : World) (h : impl_BlockSize.f a0_0 a0_1 = some r) :
    Calls Try.prog 32 #[.agg #[.int .i64 a0_0, .int .i64 a0_1]] w fun e w' => e = .returned (.int .i64 r) ∧ Below w.heap.size w w' := by
  have hu34 := Try.underlying34
  have HB := Aside0.mk (Below.refl w.heap.size w)
  have H : ((impl_BlockOk.f a0_0 a0_1).bind fun t251 => (if t251 = true then ((impl_Block_size.f a0_0 a0_1).bind fun t252 => (some t252)) else (some 0))) = some r := h
  clear h
  replace H := Option.bind_eq_some_iff.mp H
  obtain ⟨t251, A20, H⟩ := H
  replace H : (if t251 = true then ((impl_Block_size.f a0_0 a0_1).bind fun t252 => (some t252)) else (some 0)) = some r := H
  have A2 := Aside0.mk A20
  clear A20
  by_cases c3 : t251 = true
  · subst c3
    have H1 : ((impl_Block_size.f a0_0 a0_1).bind fun t252 => (some t252)) = some r := by rw [if_pos rfl] at H; exact H
    clear H
    have H := H1
    clear H1
    replace H := Option.bind_eq_some_iff.mp H
    obtain ⟨t252, A40, H⟩ := H
    replace H : (some t252) = some r := H
    have A4 := Aside0.mk A40
    clear A40
    obtain rfl := Option.some.inj H
    go_enter Try.func32, Try.ntmps32
    go_wp2_with (first | ((with_reducible refine gate_dst (N := 1) rfl ?_); refine box_event ?hg (N := 1) ?hd (cs := #[.int .i64 a0_0, .int .i64 a0_1]) (t := 34) ?hr ?_; (case hd => rfl); (case hg => rfl); (case hr => first | (go_simp; done) | (go_simp; rfl)); intro gb250 hg w5 hbox hb; have n0_ := Aside0.mk (below_step (by repeat (first | (with_reducible first | exact HB.out | apply below_alloc | apply pw_below_drewN | apply below_drew1) | exact HB.out)) hb); have n1_ := Aside0.mk (hbox); have n2_ := Aside0.mk ((by rw [hg]; exact (below_size (by repeat (first | (with_reducible first | exact HB.out | apply below_alloc | apply pw_below_drewN | apply below_drew1) | exact HB.out))) : w.heap.size ≤ gb250)); have n3_ := Aside0.mk ((by rw [hg]; exact (below_size (by repeat (first | (with_reducible first | exact HB.out | apply below_alloc | apply pw_below_drewN | apply below_drew1) | exact HB.out))) : w.heap.size ≤ gb250)); clear HB; have HB := n0_; have BK250 := n1_; have GW250 := n2_; have GE250 := n3_; clear n0_ n1_ n2_ n3_; clear hb hbox hg; have hcz6_0 : w5.cell? ⟨gb250, 0, none⟩ = some (.int .i64 a0_0) := (blk_cell BK250.out 0).trans rfl; have hcz6_1 : w5.cell? ⟨gb250, 1, none⟩ = some (.int .i64 a0_1) := (blk_cell BK250.out 1).trans rfl; have hfz6_0 := blk_frozen BK250.out 0; have hfz6_1 := blk_frozen BK250.out 1) | ((with_reducible refine gate_callee (f := 22) rfl ?_); refine goesL_ (some 4) rfl rfl Try.func22 (by kernel_rfl) rfl #[.agg #[.int .i64 a0_0, .int .i64 a0_1]] rfl (by (try simp only [List.map_toArray, List.map_cons, List.map_nil]); first | done | rfl | (simp only [List.length_drop, List.length_take]; rfl)) ?_; (with_reducible refine (impl_BlockOk.calls a0_0 a0_1 true _ A2.out).mono ?_); rintro e w7 ⟨rfl, hb⟩; refine ⟨_, rfl, ?_⟩; have n0_ := Aside0.mk (blk_below (g := gb250) (o := .cells #[.int .i64 a0_0, .int .i64 a0_1] 34 (0, 0)) (by (with_reducible repeat (first | refine blk_drewN ?_ _ | refine blk_drew ?_ | refine blk_alloc ?_ _)); exact BK250.out) hb); have n1_ := Aside0.mk (below_step (by repeat (first | (with_reducible first | exact HB.out | apply below_alloc | apply pw_below_drewN | apply below_drew1 | refine below_set ?_ GE250.out) | exact HB.out)) hb); clear BK250; clear HB; have BK250 := n0_; have HB := n1_; clear n0_ n1_; (try clear hb); (try clear hb2); (try clear hk); (try clear hi); have hcz8_0 : w7.cell? ⟨gb250, 0, none⟩ = some (.int .i64 a0_0) := (blk_cell BK250.out 0).trans rfl; have hcz8_1 : w7.cell? ⟨gb250, 1, none⟩ = some (.int .i64 a0_1) := (blk_cell BK250.out 1).trans rfl; have hfz8_0 := blk_frozen BK250.out 0; have hfz8_1 := blk_frozen BK250.out 1) | ((with_reducible refine gate_callee (f := 48) rfl ?_); refine goesL_ (some 7) rfl rfl Try.func48 (by kernel_rfl) rfl #[.agg #[.int .i64 a0_0, .int .i64 a0_1]] rfl (by (try simp only [List.map_toArray, List.map_cons, List.map_nil]); first | done | rfl | (simp only [List.length_drop, List.length_take]; rfl)) ?_; (with_reducible refine (impl_Block_size.calls a0_0 a0_1 t252 _ A4.out).mono ?_); rintro e w9 ⟨rfl, hb⟩; refine ⟨_, rfl, ?_⟩; have n0_ := Aside0.mk (blk_below (g := gb250) (o := .cells #[.int .i64 a0_0, .int .i64 a0_1] 34 (0, 0)) (by (with_reducible repeat (first | refine blk_drewN ?_ _ | refine blk_drew ?_ | refine blk_alloc ?_ _)); exact BK250.out) hb); have n1_ := Aside0.mk (below_step (by repeat (first | (with_reducible first | exact HB.out | apply below_alloc | apply pw_below_drewN | apply below_drew1 | refine below_set ?_ GE250.out) | exact HB.out)) hb); clear BK250; clear HB; have BK250 := n0_; have HB := n1_; clear n0_ n1_; (try clear hb); (try clear hb2); (try clear hk); (try clear hi)))
    go_ret
    exact ⟨by first | rfl | (simp [errW_none, errW_some] <;> rfl) | (simp [*, errW_none, errW_some] <;> rfl), by repeat (first | (with_reducible first | exact HB.out | apply below_alloc | apply pw_below_drewN | apply below_drew1 | refine below_set ?_ GE250.out) | exact HB.out)⟩
  · replace c3 := Bool.eq_false_iff.mpr c3
    subst c3
    have H1 : (some 0) = some r := by rw [if_neg (show ¬ (false = true) by decide)] at H; exact H
    clear H
    have H := H1
    clear H1
    obtain rfl := Option.some.inj H
    go_enter Try.func32, Try.ntmps32
    go_wp2_with (first | ((with_reducible refine gate_dst (N := 1) rfl ?_); refine box_event ?hg (N := 1) ?hd (cs := #[.int .i64 a0_0, .int .i64 a0_1]) (t := 34) ?hr ?_; (case hd => rfl); (case hg => rfl); (case hr => first | (go_simp; done) | (go_simp; rfl)); intro gb250 hg w10 hbox hb; have n0_ := Aside0.mk (below_step (by repeat (first | (with_reducible first | exact HB.out | apply below_alloc | apply pw_below_drewN | apply below_drew1) | exact HB.out)) hb); have n1_ := Aside0.mk (hbox); have n2_ := Aside0.mk ((by rw [hg]; exact (below_size (by repeat (first | (with_reducible first | exact HB.out | apply below_alloc | apply pw_below_drewN | apply below_drew1) | exact HB.out))) : w.heap.size ≤ gb250)); have n3_ := Aside0.mk ((by rw [hg]; exact (below_size (by repeat (first | (with_reducible first | exact HB.out | apply below_alloc | apply pw_below_drewN | apply below_drew1) | exact HB.out))) : w.heap.size ≤ gb250)); clear HB; have HB := n0_; have BK250 := n1_; have GW250 := n2_; have GE250 := n3_; clear n0_ n1_ n2_ n3_; clear hb hbox hg; have hcz11_0 : w10.cell? ⟨gb250, 0, none⟩ = some (.int .i64 a0_0) := (blk_cell BK250.out 0).trans rfl; have hcz11_1 : w10.cell? ⟨gb250, 1, none⟩ = some (.int .i64 a0_1) := (blk_cell BK250.out 1).trans rfl; have hfz11_0 := blk_frozen BK250.out 0; have hfz11_1 := blk_frozen BK250.out 1) | ((with_reducible refine gate_callee (f := 22) rfl ?_); refine goesL_ (some 4) rfl rfl Try.func22 (by kernel_rfl) rfl #[.agg #[.int .i64 a0_0, .int .i64 a0_1]] rfl (by (try simp only [List.map_toArray, List.map_cons, List.map_nil]); first | done | rfl | (simp only [List.length_drop, List.length_take]; rfl)) ?_; (with_reducible refine (impl_BlockOk.calls a0_0 a0_1 false _ A2.out).mono ?_); rintro e w12 ⟨rfl, hb⟩; refine ⟨_, rfl, ?_⟩; have n0_ := Aside0.mk (blk_below (g := gb250) (o := .cells #[.int .i64 a0_0, .int .i64 a0_1] 34 (0, 0)) (by (with_reducible repeat (first | refine blk_drewN ?_ _ | refine blk_drew ?_ | refine blk_alloc ?_ _)); exact BK250.out) hb); have n1_ := Aside0.mk (below_step (by repeat (first | (with_reducible first | exact HB.out | apply below_alloc | apply pw_below_drewN | apply below_drew1 | refine below_set ?_ GE250.out) | exact HB.out)) hb); clear BK250; clear HB; have BK250 := n0_; have HB := n1_; clear n0_ n1_; (try clear hb); (try clear hb2); (try clear hk); (try clear hi)))
    go_ret
    exact ⟨by first | rfl | (simp [errW_none, errW_some] <;> rfl) | (simp [*, errW_none, errW_some] <;> rfl), by repeat (first | (with_reducible first | exact HB.out | apply below_alloc | apply pw_below_drewN | apply below_drew1 | refine below_set ?_ GE250.out) | exact HB.out)⟩

end Go.Proofs.Ytnkaccacippbfaa.Q

/- What the functions of address blocks compute, in plain words: sizes, validity, last addresses, membership. Conditions: those in each statement. -/
namespace Go.Proofs.Ytnkaccacippbfaa.Pure
open Go.RowKit Go.Proofs.Ytnkaccacippbfaa.Q Go.Proofs.YtnkaccacippbfaaW.PrintWords Go.Proofs.YtnkaccacippbfaaW.PrintLast Go.Proofs.YtnkaccacippbfaaW.PrintMore
theorem w64 {x : Int} (h : -9223372036854775808 ≤ x) (h' : x ≤ 9223372036854775807) : wrap64 x = x := by
  unfold wrap64
  omega
/-- How many addresses a block of b bits has. -/
def sz (b : Int) : Int := 2 ^ (32 - b).toNat
theorem sz_pos (b : Int) : 0 < sz b := Int.pow_pos (by omega)
theorem sz_le {b : Int} (h : 0 ≤ b) : sz b ≤ 4294967296 := by
  have h1 : (32 - b).toNat ≤ 32 := by omega
  have h2 : (2 : Nat) ^ (32 - b).toNat ≤ 2 ^ 32 := Nat.pow_le_pow_right (by omega) h1
  have h3 : ((2 : Nat) ^ (32 - b).toNat : Nat) ≤ 4294967296 := by simpa using h2
  unfold sz
  have h4 : ((2 ^ (32 - b).toNat : Nat) : Int) = (2 : Int) ^ (32 - b).toNat := by norm_cast
  omega
theorem in_spec (a lo hi : Int) : spec_l1In.f a lo hi = some (decide (lo ≤ a ∧ a ≤ hi)) := by
  unfold spec_l1In.f
  by_cases h : a ≥ lo
  · rw [if_pos h]; simp [show lo ≤ a from h]
  · rw [if_neg h]; simp [show ¬ lo ≤ a from h]
theorem in_impl (a lo hi : Int) : impl_in.f a lo hi = some (decide (lo ≤ a ∧ a ≤ hi)) := by
  unfold impl_in.f
  by_cases h : a ≥ lo
  · rw [if_pos h]; simp [show lo ≤ a from h]
  · rw [if_neg h]; simp [show ¬ lo ≤ a from h]
theorem addr_spec (a : Int) : spec_l1Addr.f a = some (decide (0 ≤ a ∧ a ≤ 4294967295)) := by
  unfold spec_l1Addr.f
  rw [in_spec]
  rfl
theorem addr_impl (a : Int) : impl_isAddr.f a = some (decide (0 ≤ a ∧ a ≤ 4294967295)) := by
  unfold impl_isAddr.f
  rw [in_impl]
  rfl
theorem two_ev : ∀ (m k : Nat) (x : Int), m < k → 0 ≤ x → x * 2 ^ m ≤ 9223372036854775807 → m ≤ 62 → spec_l1Two.l0 k m x = some (x * 2 ^ m) := by
  intro m
  induction m with
  | zero =>
    intro k x hk h0 h1 _
    obtain ⟨k, rfl⟩ : ∃ j, k = j + 1 := ⟨k - 1, by omega⟩
    simp only [spec_l1Two.l0]
    rw [if_neg (by omega)]
    simp
  | succ m ih =>
    intro k x hk h0 h1 hm
    obtain ⟨k, rfl⟩ : ∃ j, k = j + 1 := ⟨k - 1, by omega⟩
    simp only [spec_l1Two.l0]
    rw [if_pos (by omega)]
    have e : x * 2 ^ (m + 1) = x * 2 * 2 ^ m := by rw [Int.pow_succ]; rw [Int.mul_comm (2 ^ m) 2, Int.mul_assoc]
    have p : (1 : Int) ≤ 2 ^ m := Int.pow_pos (by omega)
    have h2 : x * 2 ≤ x * 2 * 2 ^ m := by
      have := Int.mul_le_mul_of_nonneg_left p (show 0 ≤ x * 2 by omega)
      omega
    rw [w64 (by omega) (by omega), w64 (by omega) (by omega), show (((m + 1 : Nat) : Int) - 1) = (m : Int) by omega, ih k (x * 2) (by omega) (by omega) (by rw [← e]; exact h1) (by omega), e]
theorem size_spec {b : Int} {k : Nat} (h0 : 0 ≤ b) (h1 : b ≤ 32) (hk : 40 ≤ k) : spec_l1Size.f k b = some (sz b) := by
  unfold spec_l1Size.f spec_l1Two.f
  rw [w64 (by omega) (by omega)]
  have e : (32 - b) = (((32 - b).toNat : Nat) : Int) := by omega
  have hs := sz_le h0
  rw [e, two_ev _ k 1 (by omega) (by omega) (by unfold sz at hs; omega) (by omega)]
  simp [sz]
theorem size_impl {a b : Int} (h0 : 0 ≤ b) (h1 : b ≤ 32) : impl_Block_size.f a b = some (sz b) := by
  unfold impl_Block_size.f
  have hs := sz_le h0
  have hp := sz_pos b
  rw [w64 (by omega) (by omega), if_pos (by omega)]
  unfold shl
  rw [show min (32 - b).toNat IntKind.i64.bits = (32 - b).toNat from Nat.min_eq_left (by show (32 - b).toNat ≤ 64; omega)]
  congr 1
  rw [Int.one_mul]
  show IntKind.i64.wrap (sz b) = sz b
  rw [IntKind.wrap_i64]
  omega
/-- A block is valid. -/
def bok (a b : Int) : Bool := decide (0 ≤ a ∧ a ≤ 4294967295 ∧ 0 ≤ b ∧ b ≤ 32 ∧ a % sz b = 0)
theorem bok_iff {a b : Int} : bok a b = true ↔ 0 ≤ a ∧ a ≤ 4294967295 ∧ 0 ≤ b ∧ b ≤ 32 ∧ a % sz b = 0 := by
  unfold bok
  rw [decide_eq_true_iff]
theorem tmod_of {a b : Int} (h : 0 ≤ a) : Int.tmod a (sz b) = a % sz b := Int.tmod_eq_emod_of_nonneg h
theorem ok_spec {k : Nat} (a b : Int) (hk : 40 ≤ k) : spec_BlockOk.f k a b = some (bok a b) := by
  unfold spec_BlockOk.f
  rw [addr_spec, Option.bind_some]
  by_cases h : 0 ≤ a ∧ a ≤ 4294967295
  · rw [if_pos (by simpa using h), in_spec, Option.bind_some]
    by_cases h2 : 0 ≤ b ∧ b ≤ 32
    · rw [if_pos (by simpa using h2), size_spec h2.1 h2.2 hk, Option.bind_some, if_neg (by have := sz_pos b; omega), tmod_of h.1]
      congr 1
      unfold bok
      rw [Bool.eq_iff_iff]
      simp [h, h2]
    · rw [if_neg (by simpa using h2)]
      congr 1
      symm
      unfold bok
      rw [decide_eq_false_iff_not]
      omega
  · rw [if_neg (by simpa using h)]
    congr 1
    symm
    unfold bok
    rw [decide_eq_false_iff_not]
    omega
theorem ok_impl (a b : Int) : impl_BlockOk.f a b = some (bok a b) := by
  unfold impl_BlockOk.f
  rw [addr_impl, Option.bind_some]
  by_cases h : 0 ≤ a ∧ a ≤ 4294967295
  · rw [if_pos (by simpa using h), in_impl, Option.bind_some]
    by_cases h2 : 0 ≤ b ∧ b ≤ 32
    · rw [if_pos (by simpa using h2), size_impl h2.1 h2.2, Option.bind_some, if_neg (by have := sz_pos b; omega), tmod_of h.1]
      congr 1
      unfold bok
      rw [Bool.eq_iff_iff]
      simp [h, h2]
    · rw [if_neg (by simpa using h2)]
      congr 1
      symm
      unfold bok
      rw [decide_eq_false_iff_not]
      omega
  · rw [if_neg (by simpa using h)]
    congr 1
    symm
    unfold bok
    rw [decide_eq_false_iff_not]
    omega
theorem last_spec {k : Nat} {a b : Int} (h : bok a b = true) (hk : 40 ≤ k) : spec_l1Last.f k a b = some (a + sz b - 1) := by
  obtain ⟨h1, h2, h3, h4, _⟩ := bok_iff.1 h
  have := sz_le h3
  have := sz_pos b
  unfold spec_l1Last.f
  rw [size_spec h3 h4 hk, Option.bind_some, w64 (x := a + sz b) (by omega) (by omega), w64 (by omega) (by omega)]
theorem last_impl {a b : Int} (h0 : 0 ≤ a) (h1 : a ≤ 4294967296) (h3 : 0 ≤ b) (h4 : b ≤ 32) : impl_Block_last.f a b = some (a + sz b - 1) := by
  have := sz_le h3
  have := sz_pos b
  unfold impl_Block_last.f
  rw [size_impl h3 h4, Option.bind_some, w64 (x := a + sz b) (by omega) (by omega), w64 (by omega) (by omega)]
theorem has_impl {a b : Int} (x : Int) (h : bok a b = true) : impl_Block_has.f a b x = some (decide (a ≤ x ∧ x ≤ a + sz b - 1)) := by
  obtain ⟨h1, h2, h3, h4, _⟩ := bok_iff.1 h
  unfold impl_Block_has.f
  rw [last_impl h1 (by omega) h3 h4, Option.bind_some, in_impl, Option.bind_some]
theorem bhas_impl (a b x : Int) : impl_BlockHas.f a b x = some (bok a b && decide (a ≤ x ∧ x ≤ a + sz b - 1)) := by
  unfold impl_BlockHas.f
  rw [ok_impl, Option.bind_some]
  cases h : bok a b with
  | true => rw [if_pos rfl, has_impl x h, Option.bind_some, Bool.true_and]
  | false => rw [if_neg (by simp), Bool.false_and]
theorem bhas_spec {k : Nat} (a b x : Int) (hk : 40 ≤ k) : spec_BlockHas.f k a b x = some (bok a b && decide (a ≤ x ∧ x ≤ a + sz b - 1)) := by
  unfold spec_BlockHas.f
  rw [ok_spec a b hk, Option.bind_some]
  cases h : bok a b with
  | true => rw [if_pos rfl, last_spec h hk, Option.bind_some, in_spec, Option.bind_some, Bool.true_and]
  | false => rw [if_neg (by simp), Bool.false_and]
theorem within_spec {k : Nat} {a b : Int} (c d : Int) (h : bok a b = true) (hk : 40 ≤ k) : spec_l1Within.f k a b c d = some (decide (b ≤ d) && decide (a ≤ c ∧ c ≤ a + sz b - 1)) := by
  unfold spec_l1Within.f
  by_cases hd : d ≥ b
  · rw [if_pos hd, last_spec h hk, Option.bind_some, in_spec, Option.bind_some]
    simp [show b ≤ d from hd]
  · rw [if_neg hd]
    simp [show ¬ b ≤ d from hd]
/-- A valid block lies in another one. -/
def bin (a b c d : Int) : Bool := bok a b && (bok c d && (decide (b ≤ d) && decide (a ≤ c ∧ c ≤ a + sz b - 1)))
theorem bin_spec {k : Nat} (a b c d : Int) (hk : 40 ≤ k) : spec_BlockIn.f k a b c d = some (bin a b c d) := by
  unfold spec_BlockIn.f bin
  rw [ok_spec a b hk, Option.bind_some]
  cases h : bok a b with
  | false => rw [if_neg (by simp), Bool.false_and]
  | true =>
    rw [if_pos rfl, ok_spec c d hk, Option.bind_some, Bool.true_and]
    cases h2 : bok c d with
    | false => rw [if_neg (by simp), Bool.false_and]
    | true => rw [if_pos rfl, within_spec c d h hk, Option.bind_some, Bool.true_and]
theorem bin_impl (a b c d : Int) : impl_BlockIn.f a b c d = some (bin a b c d) := by
  unfold impl_BlockIn.f bin
  rw [ok_impl, Option.bind_some]
  cases h : bok a b with
  | false => rw [if_neg (by simp), Bool.false_and]
  | true =>
    rw [if_pos rfl, ok_impl, Option.bind_some, Bool.true_and]
    cases h2 : bok c d with
    | false => rw [if_neg (by simp), Bool.false_and]
    | true =>
      rw [if_pos rfl, Bool.true_and]
      by_cases hd : d ≥ b
      · rw [if_pos hd, has_impl c h, Option.bind_some]
        simp [show b ≤ d from hd]
      · rw [if_neg hd]
        simp [show ¬ b ≤ d from hd]
theorem bsize_spec {k : Nat} (a b : Int) (hk : 40 ≤ k) : spec_BlockSize.f k a b = some (if bok a b then sz b else 0) := by
  unfold spec_BlockSize.f
  rw [ok_spec a b hk, Option.bind_some]
  by_cases h : bok a b = true
  · obtain ⟨h1, h2, h3, h4, _⟩ := bok_iff.1 h
    rw [if_pos h, if_pos h, size_spec h3 h4 hk, Option.bind_some]
  · rw [if_neg h, if_neg h]
theorem bsize_impl (a b : Int) : impl_BlockSize.f a b = some (if bok a b then sz b else 0) := by
  unfold impl_BlockSize.f
  rw [ok_impl, Option.bind_some]
  by_cases h : bok a b = true
  · obtain ⟨h1, h2, h3, h4, _⟩ := bok_iff.1 h
    rw [if_pos h, if_pos h, size_impl h3 h4, Option.bind_some]
  · rw [if_neg h, if_neg h]
end Go.Proofs.Ytnkaccacippbfaa.Pure

/- The pure law behind FnExactBlockHalves: the two sides compute the same. No condition beyond the ranges of the numbers. -/
namespace Go.Proofs.Ytnkaccacippbfaa.Pure
open Go.RowKit Go.Proofs.Ytnkaccacippbfaa.Q Go.Proofs.Ytnkaccacippbfaa.Open Go.Proofs.YtnkaccacippbfaaW.PrintWords Go.Proofs.YtnkaccacippbfaaW.PrintLast Go.Proofs.YtnkaccacippbfaaW.PrintMore
theorem FnExactBlockHalves : laws_FnExactBlockHalves.Pure := by
  intro x hx
  refine ⟨40, ?_⟩
  have e : impl_BlockHalves.f x.f0 x.f1 = spec_BlockHalves.f 40 x.f0 x.f1 := by
    unfold impl_BlockHalves.f spec_BlockHalves.f
    rw [ok_spec _ _ (Nat.le_refl 40), ok_impl, Option.bind_some, Option.bind_some]
    by_cases h : bok x.f0 x.f1 = true
    · obtain ⟨h1, h2, h3, h4, _⟩ := bok_iff.1 h
      rw [if_pos h, if_pos h]
      by_cases h32 : x.f1 = 32
      · rw [if_pos h32, if_pos h32]
      · rw [if_neg h32, if_neg h32, w64 (x := x.f1 + 1) (by omega) (by omega), size_spec (by omega) (by omega) (Nat.le_refl 40), size_impl (by omega) (by omega)]
    · rw [if_neg h, if_neg h]
  obtain ⟨⟨a, b, c, d, t⟩, hr⟩ : ∃ r, spec_BlockHalves.f 40 x.f0 x.f1 = some r := by
    unfold spec_BlockHalves.f
    rw [ok_spec _ _ (Nat.le_refl 40), Option.bind_some]
    by_cases h : bok x.f0 x.f1 = true
    · obtain ⟨h1, h2, h3, h4, _⟩ := bok_iff.1 h
      rw [if_pos h]
      by_cases h32 : x.f1 = 32
      · rw [if_pos h32]; exact ⟨_, rfl⟩
      · rw [if_neg h32, w64 (x := x.f1 + 1) (by omega) (by omega), size_spec (by omega) (by omega) (Nat.le_refl 40)]; exact ⟨_, rfl⟩
    · rw [if_neg h]; exact ⟨_, rfl⟩
  unfold laws_FnExactBlockHalves.f laws_toBlock.f laws_eqBlock.f
  simp only [Option.bind_some, e, hr, if_true, bne_self_eq_false, Bool.false_eq_true, if_false]
end Go.Proofs.Ytnkaccacippbfaa.Pure

/- The law FnExactBlockHalves answers true for every input, and its arguments read afterwards as before. No condition beyond the row's own. -/
namespace Go.Proofs.Ytnkaccacippbfaa.fnExactBlockHalves
open Go.ChangeShapes Go.WideShapes Go.ChangeAt Go.RowKit Go.Proofs.YtnkaccacippbfaaW.PrintWords Go.Proofs.Ytnkaccacippbfaa.Open Go.Proofs.Ytnkaccacippbfaa.Q
open Go.ChangeMaps (open_string shut_string)
set_option linter.unusedVariables false
theorem own : ownKnob Try.prog.godebug = none := by kernel_rfl
theorem laidOut : laidOutB Try.prog = true := by kernel_rfl
set_option maxRecDepth 100000 in
theorem lifted (os : Os) (started : os.Started) (H : Type) (enc : TypeId × Value → H) :
    ReturnsInHanded {} Try.checked os 13 .any (Rows.fnExactBlockHalvesSpec.pre6 enc Try.prog Try.f13 Rows.fnExactBlockHalvesRow.domain false) (Rows.fnExactBlockHalvesSpec.post enc Try.prog Try.f13 false true false false) := by
  refine returnsInHanded_of_change_sized (C := Try.checked) own started (by kernel_rfl) Try.func13
    (ChangeSpec.witness6 (enc := enc) (C := Try.checked) false ⟨#[], #[.agg #[.int .i64 0, .int .i64 0]], []⟩ 8 (by kernel_rfl) (by kernel_rfl) (by kernel_rfl) (by kernel_rfl)) ?_
  intro W base args ds gs before hval0 hW hcnd hsz0 _
  have hval : ∀ (j : Nat) t v, Try.f13.params[j]? = some t → args[j]? = some v → Value.okWide Try.prog W .any base t v := hval0
  have hW' := hW
  obtain ⟨p, q, hA0, hV, rfl, hfz, hnd⟩ := hW
  have hA : DataW.TrodAll enc Try.prog W 0 (fun _ => true) true Try.f13.params.toList args.toList ds p := hA0
  rw [Try.params13] at hA hval
  obtain ⟨v0, vs0, d0, ds0, p0, q0, hargs, rfl, rfl, h0, r0⟩ := trodAll_cons hA
  obtain ⟨rfl, rfl, rfl⟩ := trodAll_nil r0
  obtain rfl : args = #[v0] := by cases args; simp_all
  obtain ⟨rfl, rfl⟩ := trodVars_none hV
  have lt0 : ∀ x ∈ p0, x.block < W.heap.size := by obtain ⟨m, hm⟩ := h0; exact DataW.trod_lt m _ _ _ hm
  have k0 := h0
  obtain ⟨x0, K0, w0⟩ := open_arg (op32 W) h0
  obtain ⟨cs0, rfl, sz0⟩ := okWide_struct Try.underlying32 (hval 0 32 v0 rfl rfl)
  obtain e0 := k32_open K0
  obtain rfl := agg_of_cells e0
  obtain ⟨k, hp⟩ := Pure.FnExactBlockHalves x0 w0
  refine (laws_FnExactBlockHalves.calls k x0.f0 x0.f1 true W  hp).mono ?_
  rintro e W' ⟨rfl, bel0⟩
  have bel : Below W.heap.size W W' := bel0
  exact ⟨_, rfl, _, _, _, [], _, [], hW', trodAll_mk1 (shut_bool Try.underlying4 _), (trodAll_cons_mk (Below.trod laidOut (by kernel_rfl) (of_decide_eq_true (by kernel_rfl)) k0 bel lt0) trodAll_mk0), rfl, bel.frame _, fun h => by cases h⟩
theorem over : Rows.fnExactBlockHalvesRow.holds Try.pinned (OpenSpec.ofChange Rows.fnExactBlockHalvesSpec) :=
  OpenClaim.holds_of_wide 13 Try.f13 rfl rfl rfl rfl rfl rfl rfl ⟨rfl, rfl, rfl, rfl, rfl⟩ rfl rfl rfl rfl rfl (by kernel_rfl) Try.func13 (by kernel_rfl)
    (of_decide_eq_true (by kernel_rfl)) (by unfold Func.isWrapper; first | (rw [if_pos (by decide +kernel)]; kernel_rfl) | (rw [if_neg (by decide +kernel)]; exact ⟨rfl, rfl⟩))
    (fun os started H enc _ => lifted os started H enc)
theorem proved : Rows.FnExactBlockHalvesSaid := over
#print axioms proved
end Go.Proofs.Ytnkaccacippbfaa.fnExactBlockHalves
namespace Go.Proofs.Ytnkaccacippbfaa
/-- The row, under a short name, for the claim. -/
theorem fnExactBlockHalves_holds : Rows.FnExactBlockHalvesSaid := fnExactBlockHalves.proved
end Go.Proofs.Ytnkaccacippbfaa
