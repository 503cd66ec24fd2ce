/- The law FnExactWaysPut (part 6 of 6): for every input the call answers true and its arguments read afterwards as before. No condition beyond the row's own. -/
import Derived.Deep.Slices
import Derived.Deep.Fields
import Derived.ChangeSame
import Derived.ProofKit
import Derived.WideShapes
import Derived.RowKit
import Derived.Test.YtbhgkpfbggkgdaaRows
import Derived.WalkKit
import Derived.OpenShut
import Derived.ShutString
import Derived.ChangeOld
import Derived.Below
import Derived.SizedLaws
import Derived.Test.YtbhgkpfbggkgdaaCFnExactWaysPut5
namespace Go.Proofs.Ytbhgkpfbggkgdaa.Q
open Go.RowKit Go.Proofs.YtbhgkpfbggkgdaaW.PrintWords Go.Proofs.YtbhgkpfbggkgdaaW.PrintLast Go.Proofs.YtbhgkpfbggkgdaaW.PrintMore
attribute [local go_sem] max2_int min2_int max_two min_two max_three min_three max_four min_four
set_option linter.unusedVariables false
set_option linter.unusedSimpArgs false
mutual
def laws_FnExactWaysPut.j0 : Nat → List (S79) → List (S82) → Bool → List (S82) → List (S82) → Bool → Bool → Int → Int → Int → Option (Bool)
 | 0, _, _, _, _, _, _, _, _, _, _ => none
 | k + 1, x0, x6, x7, x8, x9, x10, x46, x102000, x102001, x102002 => if x46 = true then (some false) else ((laws_toWayS.f k x0).bind fun t124 => ((laws_eqWayS.f k x8 t124).bind fun t127 => (if t127 = true then ((laws_markWayS.f k x8 1).bind fun bt128 => (if bt128.1 < 0 then (laws_FnExactWaysPut.j1 k x0 x6 x7 x9 true x102000 x102001 x102002) else ((laws_eqWayS.f k x9 x6).bind fun t130 => (if t130 = true then (laws_FnExactWaysPut.j1 k x0 x6 x7 x9 (x10 != x7) x102000 x102001 x102002) else (laws_FnExactWaysPut.j1 k x0 x6 x7 x9 true x102000 x102001 x102002))))) else (some false))))
def laws_FnExactWaysPut.j1 : Nat → List (S79) → List (S82) → Bool → List (S82) → Bool → Int → Int → Int → Option (Bool)
 | 0, _, _, _, _, _, _, _, _ => none
 | k + 1, x0, x6, x7, x9, x67, x102000, x102001, x102002 => if x67 = true then (some false) else ((laws_markWayS.f k x9 1).bind fun bt131 => ((laws_heldWayS.f k bt131.2 1).bind fun t133 => (if t133 < 0 then (some false) else (if t133 = bt131.1 then ((laws_toWayS.f k x0).bind fun t134 => ((laws_toWay.f x102000 x102001 x102002).bind fun bt137 => ((impl_WaysPut.f k t134 bt137.1 bt137.2.1 bt137.2.2).bind fun bt140 => ((laws_eqWayS.f k bt140.1 x6).bind fun t144 => (if t144 = true then (laws_FnExactWaysPut.j2 k bt131.2 bt131.1 (bt140.2 != x7)) else (laws_FnExactWaysPut.j2 k bt131.2 bt131.1 true)))))) else (some false)))))
def laws_FnExactWaysPut.j2 : Nat → List (S82) → Int → Bool → Option (Bool)
 | 0, _, _, _ => none
 | k + 1, x9, x12, x95 => if x95 = true then (some false) else ((laws_heldWayS.f k x9 1).bind fun t145 => (if t145 < 0 then (some false) else (if t145 = x12 then (some true) else (some false))))
end
def laws_FnExactWaysPut.f (k : Nat) (l0 : List (S79)) (a1_0 : Int) (a1_1 : Int) (a1_2 : Int) : Option (Bool) := (laws_szWayS.f l0 1048576).bind fun t102 => (if t102 < 0 then (some true) else ((laws_toWayS.f k l0).bind fun t103 => ((laws_toWay.f a1_0 a1_1 a1_2).bind fun bt106 => ((spec_WaysPut.f k t103 bt106.1 bt106.2.1 bt106.2.2).bind fun bt109 => ((laws_toWayS.f k l0).bind fun t113 => ((laws_toWay.f a1_0 a1_1 a1_2).bind fun bt116 => ((impl_WaysPut.f k t113 bt116.1 bt116.2.1 bt116.2.2).bind fun bt119 => ((laws_eqWayS.f k bt119.1 bt109.1).bind fun t123 => (if t123 = true then (laws_FnExactWaysPut.j0 k l0 bt109.1 bt109.2 t113 bt119.1 bt119.2 (bt119.2 != bt109.2) a1_0 a1_1 a1_2) else (laws_FnExactWaysPut.j0 k l0 bt109.1 bt109.2 t113 bt119.1 bt119.2 true a1_0 a1_1 a1_2))))))))))
def laws_FnExactWaysPut.T5 : Bool × List (List Nat × List Nat) := (true, [([], []), ([0], [0]), ([], []), ([2, 1], [2]), ([1, 3, 3], [1, 3]), ([4], [4]), ([5], [5]), ([5], [5]), ([6, 4, 0, 1, 2, 3, 4, 5, 6], [6]), ([7, 8, 0, 1, 2, 3, 4, 5, 6, 7, 8], [7])])
def laws_FnExactWaysPut.B5 : List Nat := [0, 1, 0, 7, 15, 31, 63, 63, 127, 511]
theorem laws_FnExactWaysPut.tab5 : rtab .any (opsOf Try.f12 5) = laws_FnExactWaysPut.T5 := by kernel_rfl
theorem laws_FnExactWaysPut.bits5 : waitsOk laws_FnExactWaysPut.T5.2 laws_FnExactWaysPut.B5 = true := by kernel_rfl
def laws_FnExactWaysPut.T24 : Bool × List (List Nat × List Nat) := (true, [([], []), ([0], [0]), ([], []), ([2, 1], [2]), ([1, 3, 3], [1, 3]), ([4], [4]), ([5], [5]), ([5], [5]), ([6, 4, 0, 1, 2, 3, 4, 5, 6], [6]), ([7, 8, 0, 1, 2, 3, 4, 5, 6, 7, 8], [7])])
def laws_FnExactWaysPut.B24 : List Nat := [0, 1, 0, 7, 15, 31, 63, 63, 127, 511]
theorem laws_FnExactWaysPut.tab24 : rtab .any (opsOf Try.f12 24) = laws_FnExactWaysPut.T24 := by kernel_rfl
theorem laws_FnExactWaysPut.bits24 : waitsOk laws_FnExactWaysPut.T24.2 laws_FnExactWaysPut.B24 = true := by kernel_rfl
set_option maxHeartbeats 8000000 in
set_option maxRecDepth 100000 in
theorem laws_FnExactWaysPut.calls (k : Nat) (A0 : Option Addr) (c0 : Nat) (l0 : List (S79)) (a1_0 : Int) (a1_1 : Int) (a1_2 : Int) (r : Bool) (w : World) (hr0 : Kd.C k79 w A0 l0.length l0) (hc0 : l0.length ≤ c0) (h : laws_FnExactWaysPut.f k l0 a1_0 a1_1 a1_2 = some r) :
  Calls Try.prog 12 #[.slice A0 l0.length c0, .agg #[.int .i64 a1_0, .int .i64 a1_1, .int .i64 a1_2]] w fun e w' => e = .returned (.bool r) ∧ Below w.heap.size w w' := by
 have hu79 := Try.underlying79
 have HR0 := Aside0.mk hr0
 have HC0 := Aside0.mk hc0
 clear hr0 hc0
 have HB := Aside0.mk (Below.refl w.heap.size w)
 have H : ((laws_szWayS.f l0 1048576).bind fun t102 => (if t102 < 0 then (some true) else ((laws_toWayS.f k l0).bind fun t103 => ((laws_toWay.f a1_0 a1_1 a1_2).bind fun bt106 => ((spec_WaysPut.f k t103 bt106.1 bt106.2.1 bt106.2.2).bind fun bt109 => ((laws_toWayS.f k l0).bind fun t113 => ((laws_toWay.f a1_0 a1_1 a1_2).bind fun bt116 => ((impl_WaysPut.f k t113 bt116.1 bt116.2.1 bt116.2.2).bind fun bt119 => ((laws_eqWayS.f k bt119.1 bt109.1).bind fun t123 => (if t123 = true then (laws_FnExactWaysPut.j0 k l0 bt109.1 bt109.2 t113 bt119.1 bt119.2 (bt119.2 != bt109.2) a1_0 a1_1 a1_2) else (laws_FnExactWaysPut.j0 k l0 bt109.1 bt109.2 t113 bt119.1 bt119.2 true a1_0 a1_1 a1_2))))))))))) = some r := h
 clear h
 replace H := Option.bind_eq_some_iff.mp H
 obtain ⟨t102, A30, H⟩ := H
 replace H : (if t102 < 0 then (some true) else ((laws_toWayS.f k l0).bind fun t103 => ((laws_toWay.f a1_0 a1_1 a1_2).bind fun bt106 => ((spec_WaysPut.f k t103 bt106.1 bt106.2.1 bt106.2.2).bind fun bt109 => ((laws_toWayS.f k l0).bind fun t113 => ((laws_toWay.f a1_0 a1_1 a1_2).bind fun bt116 => ((impl_WaysPut.f k t113 bt116.1 bt116.2.1 bt116.2.2).bind fun bt119 => ((laws_eqWayS.f k bt119.1 bt109.1).bind fun t123 => (if t123 = true then (laws_FnExactWaysPut.j0 k l0 bt109.1 bt109.2 t113 bt119.1 bt119.2 (bt119.2 != bt109.2) a1_0 a1_1 a1_2) else (laws_FnExactWaysPut.j0 k l0 bt109.1 bt109.2 t113 bt119.1 bt119.2 true a1_0 a1_1 a1_2)))))))))) = some r := H
 have A3 := Aside0.mk A30
 clear A30
 by_cases c4 : t102 < 0
 ·rw [if_pos c4] at H
  have c4b0 : decide (t102 < 0) = true := decide_eq_true c4
  clear c4
  obtain rfl := Option.some.inj H
  go_enter Try.func12, Try.ntmps12
  go_wp2_with (first | ((with_reducible refine gate_dst (N := 3) rfl ?_); refine box_event ?hg (N := 3) ?hd (cs := #[.int .i64 a1_0, .int .i64 a1_1, .int .i64 a1_2]) (t := 79) ?hr ?_; (case hd => rfl); (case hg => rfl); (case hr => first | (go_simp; done) | (go_simp; rfl)); intro gb101 hg w5 hbox hb; have n0_ := Aside0.mk (below_step (by repeat (first | (with_reducible first | exact HB.out | apply below_alloc | apply pw_below_drewN | apply below_drew1) | exact HB.out)) hb); have n1_ := Aside0.mk (hbox); have n2_ := Aside0.mk ((by rw [hg]; exact (below_size (by repeat (first | (with_reducible first | exact HB.out | apply below_alloc | apply pw_below_drewN | apply below_drew1) | exact HB.out))) : w.heap.size ≤ gb101)); have n3_ := Aside0.mk ((by rw [hg]; exact (below_size (by repeat (first | (with_reducible first | exact HB.out | apply below_alloc | apply pw_below_drewN | apply below_drew1) | exact HB.out))) : w.heap.size ≤ gb101)); clear HB; have HB := n0_; have BK101 := n1_; have GW101 := n2_; have GE101 := n3_; clear n0_ n1_ n2_ n3_; clear hb hbox hg) | ((with_reducible refine gate_callee (f := 40) rfl ?_); refine goesL_ (some 18) rfl rfl Try.func40 (by kernel_rfl) rfl #[.slice A0 l0.length c0, .int .i64 1048576] rfl (by (try simp only [List.map_toArray, List.map_cons, List.map_nil]); first | done | rfl | (simp only [List.length_drop, List.length_take]; rfl)) ?_; (with_reducible refine (laws_szWayS.calls _ _ l0 1048576 t102 _ ?side1 ?side2 A3.out).mono ?_); (case side1 => repeat (first | exact (Kd.C_below HR0.out HB.out) | (with_reducible refine Kd.C_alloc ?_ _) | (with_reducible refine Kd.C_drewN ?_ _) | (with_reducible refine Kd.C_drew ?_))); (case side2 => exact HC0.out); rintro e w' ⟨rfl, ⟨nd, rfl⟩⟩; refine ⟨_, rfl, ?_⟩))
  go_ret
  exact ⟨by first | rfl | (simp [errW_none, errW_some] <;> rfl) | (simp [*, errW_none, errW_some] <;> rfl), by repeat (first | (with_reducible first | exact HB.out | apply below_alloc | apply pw_below_drewN | apply below_drew1 | refine below_set ?_ GE101.out) | exact HB.out)⟩
 ·rw [if_neg c4] at H
  have c4b0 : decide (t102 < 0) = false := decide_eq_false c4
  clear c4
  replace H := Option.bind_eq_some_iff.mp H
  obtain ⟨t103, A60, H⟩ := H
  replace H : ((laws_toWay.f a1_0 a1_1 a1_2).bind fun bt106 => ((spec_WaysPut.f k t103 bt106.1 bt106.2.1 bt106.2.2).bind fun bt109 => ((laws_toWayS.f k l0).bind fun t113 => ((laws_toWay.f a1_0 a1_1 a1_2).bind fun bt116 => ((impl_WaysPut.f k t113 bt116.1 bt116.2.1 bt116.2.2).bind fun bt119 => ((laws_eqWayS.f k bt119.1 bt109.1).bind fun t123 => (if t123 = true then (laws_FnExactWaysPut.j0 k l0 bt109.1 bt109.2 t113 bt119.1 bt119.2 (bt119.2 != bt109.2) a1_0 a1_1 a1_2) else (laws_FnExactWaysPut.j0 k l0 bt109.1 bt109.2 t113 bt119.1 bt119.2 true a1_0 a1_1 a1_2)))))))) = some r := H
  have A6 := Aside0.mk A60
  clear A60
  replace H := Option.bind_eq_some_iff.mp H
  obtain ⟨⟨t106, t107, t108⟩, A70, H⟩ := H
  replace H : ((spec_WaysPut.f k t103 t106 t107 t108).bind fun bt109 => ((laws_toWayS.f k l0).bind fun t113 => ((laws_toWay.f a1_0 a1_1 a1_2).bind fun bt116 => ((impl_WaysPut.f k t113 bt116.1 bt116.2.1 bt116.2.2).bind fun bt119 => ((laws_eqWayS.f k bt119.1 bt109.1).bind fun t123 => (if t123 = true then (laws_FnExactWaysPut.j0 k l0 bt109.1 bt109.2 t113 bt119.1 bt119.2 (bt119.2 != bt109.2) a1_0 a1_1 a1_2) else (laws_FnExactWaysPut.j0 k l0 bt109.1 bt109.2 t113 bt119.1 bt119.2 true a1_0 a1_1 a1_2))))))) = some r := H
  have A7 := Aside0.mk A70
  clear A70
  replace H := Option.bind_eq_some_iff.mp H
  obtain ⟨⟨t109, t112⟩, A80, H⟩ := H
  replace H : ((laws_toWayS.f k l0).bind fun t113 => ((laws_toWay.f a1_0 a1_1 a1_2).bind fun bt116 => ((impl_WaysPut.f k t113 bt116.1 bt116.2.1 bt116.2.2).bind fun bt119 => ((laws_eqWayS.f k bt119.1 t109).bind fun t123 => (if t123 = true then (laws_FnExactWaysPut.j0 k l0 t109 t112 t113 bt119.1 bt119.2 (bt119.2 != t112) a1_0 a1_1 a1_2) else (laws_FnExactWaysPut.j0 k l0 t109 t112 t113 bt119.1 bt119.2 true a1_0 a1_1 a1_2)))))) = some r := H
  have A8 := Aside0.mk A80
  clear A80
  replace H := Option.bind_eq_some_iff.mp H
  obtain ⟨t113, A90, H⟩ := H
  replace H : ((laws_toWay.f a1_0 a1_1 a1_2).bind fun bt116 => ((impl_WaysPut.f k t113 bt116.1 bt116.2.1 bt116.2.2).bind fun bt119 => ((laws_eqWayS.f k bt119.1 t109).bind fun t123 => (if t123 = true then (laws_FnExactWaysPut.j0 k l0 t109 t112 t113 bt119.1 bt119.2 (bt119.2 != t112) a1_0 a1_1 a1_2) else (laws_FnExactWaysPut.j0 k l0 t109 t112 t113 bt119.1 bt119.2 true a1_0 a1_1 a1_2))))) = some r := H
  have A9 := Aside0.mk A90
  clear A90
  replace H := Option.bind_eq_some_iff.mp H
  obtain ⟨⟨t116, t117, t118⟩, A100, H⟩ := H
  replace H : ((impl_WaysPut.f k t113 t116 t117 t118).bind fun bt119 => ((laws_eqWayS.f k bt119.1 t109).bind fun t123 => (if t123 = true then (laws_FnExactWaysPut.j0 k l0 t109 t112 t113 bt119.1 bt119.2 (bt119.2 != t112) a1_0 a1_1 a1_2) else (laws_FnExactWaysPut.j0 k l0 t109 t112 t113 bt119.1 bt119.2 true a1_0 a1_1 a1_2)))) = some r := H
  have A10 := Aside0.mk A100
  clear A100
  replace H := Option.bind_eq_some_iff.mp H
  obtain ⟨⟨t119, t122⟩, A110, H⟩ := H
  replace H : ((laws_eqWayS.f k t119 t109).bind fun t123 => (if t123 = true then (laws_FnExactWaysPut.j0 k l0 t109 t112 t113 t119 t122 (t122 != t112) a1_0 a1_1 a1_2) else (laws_FnExactWaysPut.j0 k l0 t109 t112 t113 t119 t122 true a1_0 a1_1 a1_2))) = some r := H
  have A11 := Aside0.mk A110
  clear A110
  have HC12 := Aside0.mk H
  clear H
  go_enter Try.func12, Try.ntmps12
  try go_wp2_with (first | ((with_reducible refine gate_dst (N := 3) rfl ?_); refine box_event ?hg (N := 3) ?hd (cs := #[.int .i64 a1_0, .int .i64 a1_1, .int .i64 a1_2]) (t := 79) ?hr ?_; (case hd => rfl); (case hg => rfl); (case hr => first | (go_simp; done) | (go_simp; rfl)); intro gb101 hg w13 hbox hb; have n0_ := Aside0.mk (below_step (by repeat (first | (with_reducible first | exact HB.out | apply below_alloc | apply pw_below_drewN | apply below_drew1) | exact HB.out)) hb); have n1_ := Aside0.mk (hbox); have n2_ := Aside0.mk ((by rw [hg]; exact (below_size (by repeat (first | (with_reducible first | exact HB.out | apply below_alloc | apply pw_below_drewN | apply below_drew1) | exact HB.out))) : w.heap.size ≤ gb101)); have n3_ := Aside0.mk ((by rw [hg]; exact (below_size (by repeat (first | (with_reducible first | exact HB.out | apply below_alloc | apply pw_below_drewN | apply below_drew1) | exact HB.out))) : w.heap.size ≤ gb101)); clear HB; have HB := n0_; have BK101 := n1_; have GW101 := n2_; have GE101 := n3_; clear n0_ n1_ n2_ n3_; clear hb hbox hg) | ((with_reducible refine gate_callee (f := 40) rfl ?_); refine goesL_ (some 18) rfl rfl Try.func40 (by kernel_rfl) rfl #[.slice A0 l0.length c0, .int .i64 1048576] rfl (by (try simp only [List.map_toArray, List.map_cons, List.map_nil]); first | done | rfl | (simp only [List.length_drop, List.length_take]; rfl)) ?_; (with_reducible refine (laws_szWayS.calls _ _ l0 1048576 t102 _ ?side1 ?side2 A3.out).mono ?_); (case side1 => repeat (first | exact (Kd.C_below HR0.out HB.out) | (with_reducible refine Kd.C_alloc ?_ _) | (with_reducible refine Kd.C_drewN ?_ _) | (with_reducible refine Kd.C_drew ?_))); (case side2 => exact HC0.out); rintro e w' ⟨rfl, ⟨nd, rfl⟩⟩; refine ⟨_, rfl, ?_⟩))
  (try (rw [drewN_self w13]; generalize hq_ : World.drewN w13 _ = w13; have n0_ : Aside0 (w13.heap[gb101]? = some (.cells #[.int .i64 a1_0, .int .i64 a1_1, .int .i64 a1_2] 79 (0, 0))) := ⟨by rw [← hq_]; exact (by (with_reducible repeat (first | refine blk_drewN ?_ _ | refine blk_drew ?_ | refine blk_alloc ?_ _)); exact BK101.out)⟩; have n1_ : Aside0 (Below w.heap.size w w13) := ⟨by rw [← hq_]; exact (by repeat (first | (with_reducible first | exact HB.out | apply below_alloc | apply pw_below_drewN | apply below_drew1 | refine below_set ?_ GE101.out) | exact HB.out))⟩; clear BK101 HB hq_; have BK101 := n0_; have HB := n1_; clear n0_ n1_))
  have n0_ := Aside0.mk (blk_drew BK101.out)
  have n1_ := Aside0.mk (below_drew1 HB.out)
  clear BK101
  clear HB
  have BK101 := n0_
  have HB := n1_
  clear n0_ n1_
  refine start_ (n := 10) (S := fun w' => w'.cell? ⟨gb101, 0, none⟩ = some (.int .i64 a1_0) ∧ w'.cell? ⟨gb101, 1, none⟩ = some (.int .i64 a1_1) ∧ w'.cell? ⟨gb101, 2, none⟩ = some (.int .i64 a1_2)) (ds := []) #[false, false, false, false, false, false, false, false, false, false] (by kernel_rfl) rfl rfl ⟨(blk_cell BK101.out 0).trans rfl, (blk_cell BK101.out 1).trans rfl, (blk_cell BK101.out 2).trans rfl⟩ (fun hHeld => ?_); refine with_tabW laws_FnExactWaysPut.tab5 laws_FnExactWaysPut.bits5 (fun HT_ HW_ => ?_)
  generalize w13.drew = w14 at BK101 HB hHeld ⊢
  refine pure_ (i := 0) (N := some 22) (v := ?_) (a' := ?_) #[true, false, false, false, false, false, false, false, false, false] rfl rfl (any_of HT_.out (by kernel_rfl)) (fun _ _ _ h => h) (Or.inl ⟨by rfl, ?_⟩) ?_ ?_
  rotate_left
  ·intro w'
   go_simp
   with_reducible rfl
  rotate_left
  ·simp only [Act.put, List.setIfInBounds_toArray, List.set_cons_zero, List.set_cons_succ, i64_w, i32_w]
   rfl
  refine take_ (i := 2) (N := some 24) (v := ?_) (a' := ?_) #[true, false, true, false, false, false, false, false, false, false] rfl rfl (take_ofW HT_.out HW_.out (by kernel_rfl)) (fun _ _ _ h => h) (Or.inl ⟨by rfl, ?_⟩) hHeld ?_ ?_
  rotate_left
  ·rintro w' ⟨s0, s1, s2⟩
   go_simp
   with_reducible rfl
  rotate_left
  ·simp only [Act.put, List.setIfInBounds_toArray, List.set_cons_zero, List.set_cons_succ, i64_w, i32_w]
   rfl
  refine one_ (i := 1) (N := some 23) #[true, true, true, false, false, false, false, false, false, false] rfl rfl (one_of HT_.out (by kernel_rfl)) (by decide) (fun K hK => ?_)
  refine goes_ Try.func42 (by kernel_rfl) rfl #[.slice A0 l0.length c0] (by rfl) rfl rfl (by (try simp only [List.map_toArray, List.map_cons, List.map_nil]); first | done | rfl | (simp only [List.length_drop, List.length_take]; rfl)) ?_
  with_reducible refine (laws_toWayS.calls k _ _ l0 t103 _ ?side1 ?side2 A6.out).mono ?_
  (case side1 => repeat (first | exact (Kd.C_below HR0.out HB.out) | (with_reducible refine Kd.C_alloc ?_ _) | (with_reducible refine Kd.C_drewN ?_ _) | (with_reducible refine Kd.C_drew ?_)))
  (case side2 => exact HC0.out)
  rintro e w15 ⟨v104, rfl, ho0, hb⟩
  refine ⟨_, rfl, ?_⟩
  have n0_ := Aside0.mk (Kd.R_lower ho0 (below_size (by repeat (first | (with_reducible first | exact HB.out | apply below_alloc | apply pw_below_drewN | apply below_drew1 | refine below_set ?_ GE101.out) | exact HB.out))))
  have n1_ := Aside0.mk (blk_below (g := gb101) (o := .cells #[.int .i64 a1_0, .int .i64 a1_1, .int .i64 a1_2] 79 (0, 0)) (by (with_reducible repeat (first | refine blk_drewN ?_ _ | refine blk_drew ?_ | refine blk_alloc ?_ _)); exact BK101.out) hb)
  have n2_ := Aside0.mk (below_step (by repeat (first | (with_reducible first | exact HB.out | apply below_alloc | apply pw_below_drewN | apply below_drew1 | refine below_set ?_ GE101.out) | exact HB.out)) hb)
  clear BK101
  clear HB
  have HO105 := n0_
  have BK101 := n1_
  have HB := n2_
  clear n0_ n1_ n2_
  (try clear hb)
  (try clear hb2)
  (try clear hk)
  (try clear hi)
  (try clear ho0)
  refine hK.out _ _ ⟨(blk_cell BK101.out 0).trans rfl, (blk_cell BK101.out 1).trans rfl, (blk_cell BK101.out 2).trans rfl⟩ (fun hHeld => ?_)
  clear hK K
  refine norm_ (a' := ?_) ?_ ?_
  rotate_left
  ·show Act.put _ (some 23) _ = _
   simp only [Act.put, List.setIfInBounds_toArray, List.set_cons_zero, List.set_cons_succ, i64_w, i32_w]
   rfl
  refine one_ (i := 3) (N := some 25) #[true, true, true, true, false, false, false, false, false, false] rfl rfl (one_of HT_.out (by kernel_rfl)) (by decide) (fun K hK => ?_)
  refine goes_ Try.func55 (by kernel_rfl) rfl #[.agg #[.int .i64 a1_0, .int .i64 a1_1, .int .i64 a1_2]] (by rfl) rfl rfl (by (try simp only [List.map_toArray, List.map_cons, List.map_nil]); first | done | rfl | (simp only [List.length_drop, List.length_take]; rfl)) ?_
  with_reducible refine (laws_toWay.calls a1_0 a1_1 a1_2 t106 t107 t108 _ A7.out).mono ?_
  rintro e w16 ⟨rfl, hb⟩
  refine ⟨_, rfl, ?_⟩
  have n0_ := Aside0.mk (Kd.R_below (by (with_reducible repeat (first | apply Kd.R_alloc | apply Kd.R_drewN | apply Kd.R_drew)); exact HO105.out) hb)
  have n1_ := Aside0.mk (blk_below (g := gb101) (o := .cells #[.int .i64 a1_0, .int .i64 a1_1, .int .i64 a1_2] 79 (0, 0)) (by (with_reducible repeat (first | refine blk_drewN ?_ _ | refine blk_drew ?_ | refine blk_alloc ?_ _)); exact BK101.out) hb)
  have n2_ := Aside0.mk (below_step (by repeat (first | (with_reducible first | exact HB.out | apply below_alloc | apply pw_below_drewN | apply below_drew1 | refine below_set ?_ GE101.out) | exact HB.out)) hb)
  clear HO105
  clear BK101
  clear HB
  have HO105 := n0_
  have BK101 := n1_
  have HB := n2_
  clear n0_ n1_ n2_
  (try clear hb)
  (try clear hb2)
  (try clear hk)
  (try clear hi)
  obtain ⟨Ao17, co17, eo17⟩ := Kd.R_slice HO105.out
  (first | subst eo17 | (injection eo17 with f1_ f2_ f3_; have f4_ := f1_.symm; have f5_ := f3_.symm; clear f1_ f2_ f3_; subst f4_; subst f5_))
  refine hK.out _ _ ⟨(blk_cell BK101.out 0).trans rfl, (blk_cell BK101.out 1).trans rfl, (blk_cell BK101.out 2).trans rfl⟩ (fun hHeld => ?_)
  clear hK K
  refine norm_ (a' := ?_) ?_ ?_
  rotate_left
  ·show Act.put _ (some 25) _ = _
   simp only [Act.put, List.setIfInBounds_toArray, List.set_cons_zero, List.set_cons_succ, i64_w, i32_w]
   rfl
  refine one_ (i := 4) (N := some 26) #[true, true, true, true, true, false, false, false, false, false] rfl rfl (one_of HT_.out (by kernel_rfl)) (by decide) (fun K hK => ?_)
  refine goes_ Try.func54 (by kernel_rfl) rfl #[.slice Ao17 t103.length co17, .agg #[.int .i64 t106, .int .i64 t107, .int .i64 t108]] (by rfl) rfl rfl (by (try simp only [List.map_toArray, List.map_cons, List.map_nil]); first | done | rfl | (simp only [List.length_drop, List.length_take]; rfl)) ?_
  with_reducible refine (spec_WaysPut.calls k _ _ t103 t106 t107 t108 t109 t112 _ ?side1 ?side2 A8.out).mono ?_
  (case side1 => repeat (first | exact (Kd.R_reads' HO105.out).2.2 | (with_reducible refine Kd.C_alloc ?_ _) | (with_reducible refine Kd.C_drewN ?_ _) | (with_reducible refine Kd.C_drew ?_)))
  (case side2 => exact (Kd.R_reads' HO105.out).2.1)
  rintro e w18 ⟨v110, rfl, ho0, hb⟩
  refine ⟨_, rfl, ?_⟩
  have n0_ := Aside0.mk (Kd.R_elder' (by (with_reducible repeat (first | apply Kd.R_alloc | apply Kd.R_drewN | apply Kd.R_drew)); exact HO105.out) (Kd.R_base ho0) hb)
  have n1_ := Aside0.mk (Kd.R_lower (Kd.R_new' ho0 (Kd.R_lt (by (with_reducible repeat (first | apply Kd.R_alloc | apply Kd.R_drewN | apply Kd.R_drew)); exact HO105.out))) (below_size (by repeat (first | (with_reducible first | exact HB.out | apply below_alloc | apply pw_below_drewN | apply below_drew1 | refine below_set ?_ GE101.out) | exact HB.out))))
  have n2_ := Aside0.mk (blk_below (g := gb101) (o := .cells #[.int .i64 a1_0, .int .i64 a1_1, .int .i64 a1_2] 79 (0, 0)) (by (with_reducible repeat (first | refine blk_drewN ?_ _ | refine blk_drew ?_ | refine blk_alloc ?_ _)); exact BK101.out) hb)
  have n3_ := Aside0.mk (below_step (by repeat (first | (with_reducible first | exact HB.out | apply below_alloc | apply pw_below_drewN | apply below_drew1 | refine below_set ?_ GE101.out) | exact HB.out)) hb)
  clear HO105
  clear BK101
  clear HB
  have HO105 := n0_
  have HO111 := n1_
  have BK101 := n2_
  have HB := n3_
  clear n0_ n1_ n2_ n3_
  (try clear hb)
  (try clear hb2)
  (try clear hk)
  (try clear hi)
  (try clear ho0)
  refine hK.out _ _ ⟨(blk_cell BK101.out 0).trans rfl, (blk_cell BK101.out 1).trans rfl, (blk_cell BK101.out 2).trans rfl⟩ (fun hHeld => ?_)
  clear hK K
  refine norm_ (a' := ?_) ?_ ?_
  rotate_left
  ·show Act.put _ (some 26) _ = _
   simp only [Act.put, List.setIfInBounds_toArray, List.set_cons_zero, List.set_cons_succ, i64_w, i32_w]
   rfl
  refine pure_ (i := 5) (N := some 21) (v := ?_) (a' := ?_) #[true, true, true, true, true, true, false, false, false, false] rfl rfl (any_of HT_.out (by kernel_rfl)) (fun _ _ _ h => h) (Or.inl ⟨by rfl, ?_⟩) ?_ ?_
  rotate_left
  ·intro w'
   go_simp
   with_reducible rfl
  rotate_left
  ·simp only [Act.put, List.setIfInBounds_toArray, List.set_cons_zero, List.set_cons_succ, i64_w, i32_w]
   rfl
  refine pure_ (i := 6) (N := some 27) (v := ?_) (a' := ?_) #[true, true, true, true, true, true, true, false, false, false] rfl rfl (any_of HT_.out (by kernel_rfl)) (fun _ _ _ h => h) (Or.inl ⟨by rfl, ?_⟩) ?_ ?_
  rotate_left
  ·intro w'
   go_simp
   with_reducible rfl
  rotate_left
  ·simp only [Act.put, List.setIfInBounds_toArray, List.set_cons_zero, List.set_cons_succ, i64_w, i32_w]
   rfl
  refine pure_ (i := 7) (N := some 28) (v := ?_) (a' := ?_) #[true, true, true, true, true, true, true, true, false, false] rfl rfl (any_of HT_.out (by kernel_rfl)) (fun _ _ _ h => h) (Or.inl ⟨by rfl, ?_⟩) ?_ ?_
  rotate_left
  ·intro w'
   go_simp
   with_reducible rfl
  rotate_left
  ·simp only [Act.put, List.setIfInBounds_toArray, List.set_cons_zero, List.set_cons_succ, i64_w, i32_w]
   rfl
  refine pure_ (i := 8) (N := some 6) (v := ?_) (a' := ?_) #[true, true, true, true, true, true, true, true, true, false] rfl rfl (any_of HT_.out (by kernel_rfl)) (fun _ _ _ h => h) (Or.inl ⟨by rfl, ?_⟩) ?_ ?_
  rotate_left
  ·intro w'
   go_simp
   with_reducible rfl
  rotate_left
  ·simp only [Act.put, List.setIfInBounds_toArray, List.set_cons_zero, List.set_cons_succ, i64_w, i32_w]
   rfl
  refine pure_ (i := 9) (N := some 7) (v := ?_) (a' := ?_) #[true, true, true, true, true, true, true, true, true, true] rfl rfl (any_of HT_.out (by kernel_rfl)) (fun _ _ _ h => h) (Or.inl ⟨by rfl, ?_⟩) ?_ ?_
  rotate_left
  ·intro w'
   go_simp
   with_reducible rfl
  rotate_left
  ·simp only [Act.put, List.setIfInBounds_toArray, List.set_cons_zero, List.set_cons_succ, i64_w, i32_w]
   rfl
  refine done_ (done_of HT_.out (by kernel_rfl)) ?_
  go_upto_region 8 with (first | ((with_reducible refine gate_callee (f := 42) rfl ?_); refine goesL_ (some 30) rfl rfl Try.func42 (by kernel_rfl) rfl #[.slice A0 l0.length c0] rfl (by (try simp only [List.map_toArray, List.map_cons, List.map_nil]); first | done | rfl | (simp only [List.length_drop, List.length_take]; rfl)) ?_; (with_reducible refine (laws_toWayS.calls k _ _ l0 t113 _ ?side1 ?side2 A9.out).mono ?_); (case side1 => repeat (first | exact (Kd.C_below HR0.out HB.out) | (with_reducible refine Kd.C_alloc ?_ _) | (with_reducible refine Kd.C_drewN ?_ _) | (with_reducible refine Kd.C_drew ?_))); (case side2 => exact HC0.out); rintro e w19 ⟨v114, rfl, ho0, hb⟩; refine ⟨_, rfl, ?_⟩; have n0_ := Aside0.mk (Kd.R_elder' (by (with_reducible repeat (first | apply Kd.R_alloc | apply Kd.R_drewN | apply Kd.R_drew)); exact HO105.out) (Kd.R_base ho0) hb); have n1_ := Aside0.mk (Kd.R_elder' (by (with_reducible repeat (first | apply Kd.R_alloc | apply Kd.R_drewN | apply Kd.R_drew)); exact HO111.out) (Kd.R_base ho0) hb); have n2_ := Aside0.mk (Kd.R_lower (Kd.R_new' (Kd.R_new' ho0 (Kd.R_lt (by (with_reducible repeat (first | apply Kd.R_alloc | apply Kd.R_drewN | apply Kd.R_drew)); exact HO105.out))) (Kd.R_lt (by (with_reducible repeat (first | apply Kd.R_alloc | apply Kd.R_drewN | apply Kd.R_drew)); exact HO111.out))) (below_size (by repeat (first | (with_reducible first | exact HB.out | apply below_alloc | apply pw_below_drewN | apply below_drew1 | refine below_set ?_ GE101.out) | exact HB.out)))); have n3_ := Aside0.mk (blk_below (g := gb101) (o := .cells #[.int .i64 a1_0, .int .i64 a1_1, .int .i64 a1_2] 79 (0, 0)) (by (with_reducible repeat (first | refine blk_drewN ?_ _ | refine blk_drew ?_ | refine blk_alloc ?_ _)); exact BK101.out) hb); have n4_ := Aside0.mk (below_step (by repeat (first | (with_reducible first | exact HB.out | apply below_alloc | apply pw_below_drewN | apply below_drew1 | refine below_set ?_ GE101.out) | exact HB.out)) hb); clear HO105; clear HO111; clear BK101; clear HB; have HO105 := n0_; have HO111 := n1_; have HO115 := n2_; have BK101 := n3_; have HB := n4_; clear n0_ n1_ n2_ n3_ n4_; (try clear hb); (try clear hb2); (try clear hk); (try clear hi); (try clear ho0); have hcz20_0 : w19.cell? ⟨gb101, 0, none⟩ = some (.int .i64 a1_0) := (blk_cell BK101.out 0).trans rfl; have hcz20_1 : w19.cell? ⟨gb101, 1, none⟩ = some (.int .i64 a1_1) := (blk_cell BK101.out 1).trans rfl; have hcz20_2 : w19.cell? ⟨gb101, 2, none⟩ = some (.int .i64 a1_2) := (blk_cell BK101.out 2).trans rfl; have hfz20_0 := blk_frozen BK101.out 0; have hfz20_1 := blk_frozen BK101.out 1; have hfz20_2 := blk_frozen BK101.out 2) | ((with_reducible refine gate_callee (f := 55) rfl ?_); refine goesL_ (some 34) rfl rfl Try.func55 (by kernel_rfl) rfl #[.agg #[.int .i64 a1_0, .int .i64 a1_1, .int .i64 a1_2]] rfl (by (try simp only [List.map_toArray, List.map_cons, List.map_nil]); first | done | rfl | (simp only [List.length_drop, List.length_take]; rfl)) ?_; (with_reducible refine (laws_toWay.calls a1_0 a1_1 a1_2 t116 t117 t118 _ A10.out).mono ?_); rintro e w21 ⟨rfl, hb⟩; refine ⟨_, rfl, ?_⟩; have n0_ := Aside0.mk (Kd.R_below (by (with_reducible repeat (first | apply Kd.R_alloc | apply Kd.R_drewN | apply Kd.R_drew)); exact HO105.out) hb); have n1_ := Aside0.mk (Kd.R_below (by (with_reducible repeat (first | apply Kd.R_alloc | apply Kd.R_drewN | apply Kd.R_drew)); exact HO111.out) hb); have n2_ := Aside0.mk (Kd.R_below (by (with_reducible repeat (first | apply Kd.R_alloc | apply Kd.R_drewN | apply Kd.R_drew)); exact HO115.out) hb); have n3_ := Aside0.mk (blk_below (g := gb101) (o := .cells #[.int .i64 a1_0, .int .i64 a1_1, .int .i64 a1_2] 79 (0, 0)) (by (with_reducible repeat (first | refine blk_drewN ?_ _ | refine blk_drew ?_ | refine blk_alloc ?_ _)); exact BK101.out) hb); have n4_ := Aside0.mk (below_step (by repeat (first | (with_reducible first | exact HB.out | apply below_alloc | apply pw_below_drewN | apply below_drew1 | refine below_set ?_ GE101.out) | exact HB.out)) hb); clear HO105; clear HO111; clear HO115; clear BK101; clear HB; have HO105 := n0_; have HO111 := n1_; have HO115 := n2_; have BK101 := n3_; have HB := n4_; clear n0_ n1_ n2_ n3_ n4_; (try clear hb); (try clear hb2); (try clear hk); (try clear hi); obtain ⟨Ao22, co22, eo22⟩ := Kd.R_slice HO115.out; subst eo22) | ((with_reducible refine gate_callee (f := 56) rfl ?_); refine goesL_ (some 35) rfl rfl Try.func56 (by kernel_rfl) rfl #[.slice Ao22 t113.length co22, .agg #[.int .i64 t116, .int .i64 t117, .int .i64 t118]] rfl (by (try simp only [List.map_toArray, List.map_cons, List.map_nil]); first | done | rfl | (simp only [List.length_drop, List.length_take]; rfl)) ?_; (with_reducible refine (impl_WaysPut.calls k _ _ t113 t116 t117 t118 t119 t122 _ ?side1 ?side2 A11.out).mono ?_); (case side1 => repeat (first | exact (Kd.R_reads' HO115.out).2.2 | (with_reducible refine Kd.C_alloc ?_ _) | (with_reducible refine Kd.C_drewN ?_ _) | (with_reducible refine Kd.C_drew ?_))); (case side2 => exact (Kd.R_reads' HO115.out).2.1); rintro e w23 ⟨v120, rfl, ho0, hb⟩; refine ⟨_, rfl, ?_⟩; have n0_ := Aside0.mk (Kd.R_elder' (by (with_reducible repeat (first | apply Kd.R_alloc | apply Kd.R_drewN | apply Kd.R_drew)); exact HO105.out) (Kd.R_base ho0) hb); have n1_ := Aside0.mk (Kd.R_elder' (by (with_reducible repeat (first | apply Kd.R_alloc | apply Kd.R_drewN | apply Kd.R_drew)); exact HO111.out) (Kd.R_base ho0) hb); have n2_ := Aside0.mk (Kd.R_elder' (by (with_reducible repeat (first | apply Kd.R_alloc | apply Kd.R_drewN | apply Kd.R_drew)); exact HO115.out) (Kd.R_base ho0) hb); have n3_ := Aside0.mk (Kd.R_lower (Kd.R_new' (Kd.R_new' (Kd.R_new' ho0 (Kd.R_lt (by (with_reducible repeat (first | apply Kd.R_alloc | apply Kd.R_drewN | apply Kd.R_drew)); exact HO105.out))) (Kd.R_lt (by (with_reducible repeat (first | apply Kd.R_alloc | apply Kd.R_drewN | apply Kd.R_drew)); exact HO111.out))) (Kd.R_lt (by (with_reducible repeat (first | apply Kd.R_alloc | apply Kd.R_drewN | apply Kd.R_drew)); exact HO115.out))) (below_size (by repeat (first | (with_reducible first | exact HB.out | apply below_alloc | apply pw_below_drewN | apply below_drew1 | refine below_set ?_ GE101.out) | exact HB.out)))); have n4_ := Aside0.mk (blk_below (g := gb101) (o := .cells #[.int .i64 a1_0, .int .i64 a1_1, .int .i64 a1_2] 79 (0, 0)) (by (with_reducible repeat (first | refine blk_drewN ?_ _ | refine blk_drew ?_ | refine blk_alloc ?_ _)); exact BK101.out) hb); have n5_ := Aside0.mk (below_step (by repeat (first | (with_reducible first | exact HB.out | apply below_alloc | apply pw_below_drewN | apply below_drew1 | refine below_set ?_ GE101.out) | exact HB.out)) hb); clear HO105; clear HO111; clear HO115; clear BK101; clear HB; have HO105 := n0_; have HO111 := n1_; have HO115 := n2_; have HO121 := n3_; have BK101 := n4_; have HB := n5_; clear n0_ n1_ n2_ n3_ n4_ n5_; (try clear hb); (try clear hb2); (try clear hk); (try clear hi); (try clear ho0)))
  (try simp only [Act.put, List.setIfInBounds_toArray, List.set_cons_zero, List.set_cons_succ])
  go_cut [46] (fun v46 wc => ∃ (kq : Nat) (x46_11 : Bool), v46 = .bool x46_11 ∧ Aside0 (laws_FnExactWaysPut.j0 kq l0 t109 t112 t113 t119 t122 x46_11 a1_0 a1_1 a1_2 = some r) ∧ Aside0 (kq ≤ k) ∧ Aside0 (Kd.R k82 82 wc w.heap.size (fun k_ => some k_ ≠ ((.slice Ao22 t113.length co22) : Value).ownBlock ∧ some k_ ≠ (v120 : Value).ownBlock) v110 t109) ∧ Aside0 (Kd.R k82 82 wc w.heap.size (fun k_ => some k_ ≠ (v110 : Value).ownBlock ∧ some k_ ≠ (v120 : Value).ownBlock) (.slice Ao22 t113.length co22) t113) ∧ Aside0 (Kd.R k82 82 wc w.heap.size (fun k_ => some k_ ≠ (v110 : Value).ownBlock ∧ some k_ ≠ ((.slice Ao22 t113.length co22) : Value).ownBlock) v120 t119) ∧ Aside0 (wc.heap[gb101]? = some (.cells #[.int .i64 a1_0, .int .i64 a1_1, .int .i64 a1_2] 79 (0, 0))) ∧ Aside0 (Below w.heap.size w wc))
  case first =>
   have H := HC12.out
   clear HC12
   replace H := Option.bind_eq_some_iff.mp H
   obtain ⟨t123, A240, H⟩ := H
   replace H : (if t123 = true then (laws_FnExactWaysPut.j0 k l0 t109 t112 t113 t119 t122 (t122 != t112) a1_0 a1_1 a1_2) else (laws_FnExactWaysPut.j0 k l0 t109 t112 t113 t119 t122 true a1_0 a1_1 a1_2)) = some r := H
   have A24 := Aside0.mk A240
   clear A240
   by_cases c25 : t123 = true
   ·subst c25
    have H1 : (laws_FnExactWaysPut.j0 k l0 t109 t112 t113 t119 t122 (t122 != t112) a1_0 a1_1 a1_2) = some r := by rw [if_pos rfl] at H; exact H
    clear H
    have H := H1
    clear H1
    have H' := Aside0.mk H
    clear H
    obtain ⟨Ao26, co26, eo26⟩ := Kd.R_slice HO121.out
    subst eo26
    obtain ⟨Ao27, co27, eo27⟩ := Kd.R_slice HO111.out
    subst eo27
    go_wp2_with (first | ((with_reducible refine gate_callee (f := 44) rfl ?_); refine goesL_ (some 40) rfl rfl Try.func44 (by kernel_rfl) rfl #[.slice Ao26 t119.length co26, .slice Ao27 t109.length co27] rfl (by (try simp only [List.map_toArray, List.map_cons, List.map_nil]); first | done | rfl | (simp only [List.length_drop, List.length_take]; rfl)) ?_; (with_reducible refine (laws_eqWayS.calls k _ _ t119 _ _ t109 true _ ?side1 ?side2 ?side3 ?side4 A24.out).mono ?_); (case side1 => repeat (first | exact (Kd.R_reads' HO121.out).2.2 | (with_reducible refine Kd.C_alloc ?_ _) | (with_reducible refine Kd.C_drewN ?_ _) | (with_reducible refine Kd.C_drew ?_))); (case side2 => exact (Kd.R_reads' HO121.out).2.1); (case side3 => repeat (first | exact (Kd.R_reads' HO111.out).2.2 | (with_reducible refine Kd.C_alloc ?_ _) | (with_reducible refine Kd.C_drewN ?_ _) | (with_reducible refine Kd.C_drew ?_))); (case side4 => exact (Kd.R_reads' HO111.out).2.1); rintro e w28 ⟨rfl, hb⟩; refine ⟨_, rfl, ?_⟩; have n0_ := Aside0.mk (Kd.R_below (by (with_reducible repeat (first | apply Kd.R_alloc | apply Kd.R_drewN | apply Kd.R_drew)); exact HO105.out) hb); have n1_ := Aside0.mk (Kd.R_below (by (with_reducible repeat (first | apply Kd.R_alloc | apply Kd.R_drewN | apply Kd.R_drew)); exact HO111.out) hb); have n2_ := Aside0.mk (Kd.R_below (by (with_reducible repeat (first | apply Kd.R_alloc | apply Kd.R_drewN | apply Kd.R_drew)); exact HO115.out) hb); have n3_ := Aside0.mk (Kd.R_below (by (with_reducible repeat (first | apply Kd.R_alloc | apply Kd.R_drewN | apply Kd.R_drew)); exact HO121.out) hb); have n4_ := Aside0.mk (blk_below (g := gb101) (o := .cells #[.int .i64 a1_0, .int .i64 a1_1, .int .i64 a1_2] 79 (0, 0)) (by (with_reducible repeat (first | refine blk_drewN ?_ _ | refine blk_drew ?_ | refine blk_alloc ?_ _)); exact BK101.out) hb); have n5_ := Aside0.mk (below_step (by repeat (first | (with_reducible first | exact HB.out | apply below_alloc | apply pw_below_drewN | apply below_drew1 | refine below_set ?_ GE101.out) | exact HB.out)) hb); clear HO105; clear HO111; clear HO115; clear HO121; clear BK101; clear HB; have HO105 := n0_; have HO111 := n1_; have HO115 := n2_; have HO121 := n3_; have BK101 := n4_; have HB := n5_; clear n0_ n1_ n2_ n3_ n4_ n5_; (try clear hb); (try clear hb2); (try clear hk); (try clear hi)))
    go_meet
    case rel => exact ⟨_, ((t122 != t112)), (by first | rfl | (simp; done) | (simp [*]; done)), H', ⟨by first | omega | exact Nat.le_refl _⟩, ⟨by (with_reducible repeat (first | apply Kd.R_alloc | apply Kd.R_drewN | apply Kd.R_drew)); exact Kd.R_mono HO111.out (fun _ hk => ⟨hk.1.2, hk.2⟩)⟩, ⟨by (with_reducible repeat (first | apply Kd.R_alloc | apply Kd.R_drewN | apply Kd.R_drew)); exact Kd.R_mono HO115.out (fun _ hk => ⟨hk.1.2, hk.2⟩)⟩, ⟨by (with_reducible repeat (first | apply Kd.R_alloc | apply Kd.R_drewN | apply Kd.R_drew)); exact Kd.R_mono HO121.out (fun _ hk => ⟨hk.1.2, hk.2⟩)⟩, ⟨by (with_reducible repeat (first | refine blk_drewN ?_ _ | refine blk_drew ?_ | refine blk_alloc ?_ _)); exact BK101.out⟩, ⟨by repeat (first | (with_reducible first | exact HB.out | apply below_alloc | apply pw_below_drewN | apply below_drew1 | refine below_set ?_ GE101.out) | exact HB.out)⟩⟩
   ·replace c25 := Bool.eq_false_iff.mpr c25
    subst c25
    have H1 : (laws_FnExactWaysPut.j0 k l0 t109 t112 t113 t119 t122 true a1_0 a1_1 a1_2) = some r := by rw [if_neg (show ¬ (false = true) by decide)] at H; exact H
    clear H
    have H := H1
    clear H1
    have H' := Aside0.mk H
    clear H
    obtain ⟨Ao29, co29, eo29⟩ := Kd.R_slice HO121.out
    subst eo29
    obtain ⟨Ao30, co30, eo30⟩ := Kd.R_slice HO111.out
    subst eo30
    go_wp2_with (first | ((with_reducible refine gate_callee (f := 44) rfl ?_); refine goesL_ (some 40) rfl rfl Try.func44 (by kernel_rfl) rfl #[.slice Ao29 t119.length co29, .slice Ao30 t109.length co30] rfl (by (try simp only [List.map_toArray, List.map_cons, List.map_nil]); first | done | rfl | (simp only [List.length_drop, List.length_take]; rfl)) ?_; (with_reducible refine (laws_eqWayS.calls k _ _ t119 _ _ t109 false _ ?side1 ?side2 ?side3 ?side4 A24.out).mono ?_); (case side1 => repeat (first | exact (Kd.R_reads' HO121.out).2.2 | (with_reducible refine Kd.C_alloc ?_ _) | (with_reducible refine Kd.C_drewN ?_ _) | (with_reducible refine Kd.C_drew ?_))); (case side2 => exact (Kd.R_reads' HO121.out).2.1); (case side3 => repeat (first | exact (Kd.R_reads' HO111.out).2.2 | (with_reducible refine Kd.C_alloc ?_ _) | (with_reducible refine Kd.C_drewN ?_ _) | (with_reducible refine Kd.C_drew ?_))); (case side4 => exact (Kd.R_reads' HO111.out).2.1); rintro e w31 ⟨rfl, hb⟩; refine ⟨_, rfl, ?_⟩; have n0_ := Aside0.mk (Kd.R_below (by (with_reducible repeat (first | apply Kd.R_alloc | apply Kd.R_drewN | apply Kd.R_drew)); exact HO105.out) hb); have n1_ := Aside0.mk (Kd.R_below (by (with_reducible repeat (first | apply Kd.R_alloc | apply Kd.R_drewN | apply Kd.R_drew)); exact HO111.out) hb); have n2_ := Aside0.mk (Kd.R_below (by (with_reducible repeat (first | apply Kd.R_alloc | apply Kd.R_drewN | apply Kd.R_drew)); exact HO115.out) hb); have n3_ := Aside0.mk (Kd.R_below (by (with_reducible repeat (first | apply Kd.R_alloc | apply Kd.R_drewN | apply Kd.R_drew)); exact HO121.out) hb); have n4_ := Aside0.mk (blk_below (g := gb101) (o := .cells #[.int .i64 a1_0, .int .i64 a1_1, .int .i64 a1_2] 79 (0, 0)) (by (with_reducible repeat (first | refine blk_drewN ?_ _ | refine blk_drew ?_ | refine blk_alloc ?_ _)); exact BK101.out) hb); have n5_ := Aside0.mk (below_step (by repeat (first | (with_reducible first | exact HB.out | apply below_alloc | apply pw_below_drewN | apply below_drew1 | refine below_set ?_ GE101.out) | exact HB.out)) hb); clear HO105; clear HO111; clear HO115; clear HO121; clear BK101; clear HB; have HO105 := n0_; have HO111 := n1_; have HO115 := n2_; have HO121 := n3_; have BK101 := n4_; have HB := n5_; clear n0_ n1_ n2_ n3_ n4_ n5_; (try clear hb); (try clear hb2); (try clear hk); (try clear hi)))
    go_meet
    case rel => exact ⟨_, (true), (by first | rfl | (simp; done) | (simp [*]; done)), H', ⟨by first | omega | exact Nat.le_refl _⟩, ⟨by (with_reducible repeat (first | apply Kd.R_alloc | apply Kd.R_drewN | apply Kd.R_drew)); exact Kd.R_mono HO111.out (fun _ hk => ⟨hk.1.2, hk.2⟩)⟩, ⟨by (with_reducible repeat (first | apply Kd.R_alloc | apply Kd.R_drewN | apply Kd.R_drew)); exact Kd.R_mono HO115.out (fun _ hk => ⟨hk.1.2, hk.2⟩)⟩, ⟨by (with_reducible repeat (first | apply Kd.R_alloc | apply Kd.R_drewN | apply Kd.R_drew)); exact Kd.R_mono HO121.out (fun _ hk => ⟨hk.1.2, hk.2⟩)⟩, ⟨by (with_reducible repeat (first | refine blk_drewN ?_ _ | refine blk_drew ?_ | refine blk_alloc ?_ _)); exact BK101.out⟩, ⟨by repeat (first | (with_reducible first | exact HB.out | apply below_alloc | apply pw_below_drewN | apply below_drew1 | refine below_set ?_ GE101.out) | exact HB.out)⟩⟩
  case rest =>
   clear HC12
   try clear c1
   try clear c2
   try clear p2
   try clear c4
   try clear c4b0
   try clear c5
   try clear c12
   try clear c25
   try clear hcz20_0
   try clear hcz20_1
   try clear hcz20_2
   try clear hfz20_0
   try clear hfz20_1
   try clear hfz20_2
   obtain ⟨kq, x46_11, rfl, HA, HJ11, HO_6, HO_8, HO_9, BK101, HB⟩ := hcut
   cases kq with
   | zero => exact absurd HA.out (by simp [laws_FnExactWaysPut.j0])
   | succ kj11 =>
    have H := HA.out
    clear HA
    simp only [laws_FnExactWaysPut.j0] at H
    by_cases c32 : x46_11 = true
    ·subst c32
     have H1 : (some false) = some r := by rw [if_pos rfl] at H; exact H
     clear H
     have H := H1
     clear H1
     obtain rfl := Option.some.inj H
     go_wp2
     go_ret
     exact ⟨by first | rfl | (simp [errW_none, errW_some] <;> rfl) | (simp [*, errW_none, errW_some] <;> rfl), by repeat (first | (with_reducible first | exact HB.out | apply below_alloc | apply pw_below_drewN | apply below_drew1 | refine below_set ?_ GE101.out) | exact HB.out)⟩
    ·replace c32 := Bool.eq_false_iff.mpr c32
     subst c32
     have H1 : ((laws_toWayS.f kj11 l0).bind fun t124 => ((laws_eqWayS.f kj11 t113 t124).bind fun t127 => (if t127 = true then ((laws_markWayS.f kj11 t113 1).bind fun bt128 => (if bt128.1 < 0 then (laws_FnExactWaysPut.j1 kj11 l0 t109 t112 t119 true a1_0 a1_1 a1_2) else ((laws_eqWayS.f kj11 t119 t109).bind fun t130 => (if t130 = true then (laws_FnExactWaysPut.j1 kj11 l0 t109 t112 t119 (t122 != t112) a1_0 a1_1 a1_2) else (laws_FnExactWaysPut.j1 kj11 l0 t109 t112 t119 true a1_0 a1_1 a1_2))))) else (some false)))) = some r := by rw [if_neg (show ¬ (false = true) by decide)] at H; exact H
     clear H
     have H := H1
     clear H1
     replace H := Option.bind_eq_some_iff.mp H
     obtain ⟨t124, A330, H⟩ := H
     replace H : ((laws_eqWayS.f kj11 t113 t124).bind fun t127 => (if t127 = true then ((laws_markWayS.f kj11 t113 1).bind fun bt128 => (if bt128.1 < 0 then (laws_FnExactWaysPut.j1 kj11 l0 t109 t112 t119 true a1_0 a1_1 a1_2) else ((laws_eqWayS.f kj11 t119 t109).bind fun t130 => (if t130 = true then (laws_FnExactWaysPut.j1 kj11 l0 t109 t112 t119 (t122 != t112) a1_0 a1_1 a1_2) else (laws_FnExactWaysPut.j1 kj11 l0 t109 t112 t119 true a1_0 a1_1 a1_2))))) else (some false))) = some r := H
     have A33 := Aside0.mk A330
     clear A330
     replace H := Option.bind_eq_some_iff.mp H
     obtain ⟨t127, A340, H⟩ := H
     replace H : (if t127 = true then ((laws_markWayS.f kj11 t113 1).bind fun bt128 => (if bt128.1 < 0 then (laws_FnExactWaysPut.j1 kj11 l0 t109 t112 t119 true a1_0 a1_1 a1_2) else ((laws_eqWayS.f kj11 t119 t109).bind fun t130 => (if t130 = true then (laws_FnExactWaysPut.j1 kj11 l0 t109 t112 t119 (t122 != t112) a1_0 a1_1 a1_2) else (laws_FnExactWaysPut.j1 kj11 l0 t109 t112 t119 true a1_0 a1_1 a1_2))))) else (some false)) = some r := H
     have A34 := Aside0.mk A340
     clear A340
     by_cases c35 : t127 = true
     ·subst c35
      have H1 : ((laws_markWayS.f kj11 t113 1).bind fun bt128 => (if bt128.1 < 0 then (laws_FnExactWaysPut.j1 kj11 l0 t109 t112 t119 true a1_0 a1_1 a1_2) else ((laws_eqWayS.f kj11 t119 t109).bind fun t130 => (if t130 = true then (laws_FnExactWaysPut.j1 kj11 l0 t109 t112 t119 (t122 != t112) a1_0 a1_1 a1_2) else (laws_FnExactWaysPut.j1 kj11 l0 t109 t112 t119 true a1_0 a1_1 a1_2))))) = some r := by rw [if_pos rfl] at H; exact H
      clear H
      have H := H1
      clear H1
      replace H := Option.bind_eq_some_iff.mp H
      obtain ⟨⟨t128, t129⟩, A360, H⟩ := H
      replace H : (if t128 < 0 then (laws_FnExactWaysPut.j1 kj11 l0 t109 t112 t119 true a1_0 a1_1 a1_2) else ((laws_eqWayS.f kj11 t119 t109).bind fun t130 => (if t130 = true then (laws_FnExactWaysPut.j1 kj11 l0 t109 t112 t119 (t122 != t112) a1_0 a1_1 a1_2) else (laws_FnExactWaysPut.j1 kj11 l0 t109 t112 t119 true a1_0 a1_1 a1_2)))) = some r := H
      have A36 := Aside0.mk A360
      clear A360
      have HC37 := Aside0.mk H
      clear H
      go_upto_region 14 with (first | ((with_reducible refine gate_callee (f := 42) rfl ?_); refine goesL_ (some 49) rfl rfl Try.func42 (by kernel_rfl) rfl #[.slice A0 l0.length c0] rfl (by (try simp only [List.map_toArray, List.map_cons, List.map_nil]); first | done | rfl | (simp only [List.length_drop, List.length_take]; rfl)) ?_; (with_reducible refine (laws_toWayS.calls kj11 _ _ l0 t124 _ ?side1 ?side2 A33.out).mono ?_); (case side1 => repeat (first | exact (Kd.C_below HR0.out HB.out) | (with_reducible refine Kd.C_alloc ?_ _) | (with_reducible refine Kd.C_drewN ?_ _) | (with_reducible refine Kd.C_drew ?_))); (case side2 => exact HC0.out); rintro e w38 ⟨v125, rfl, ho0, hb⟩; refine ⟨_, rfl, ?_⟩; have n0_ := Aside0.mk (Kd.R_elder' (by (with_reducible repeat (first | apply Kd.R_alloc | apply Kd.R_drewN | apply Kd.R_drew)); exact HO_6.out) (Kd.R_base ho0) hb); have n1_ := Aside0.mk (Kd.R_elder' (by (with_reducible repeat (first | apply Kd.R_alloc | apply Kd.R_drewN | apply Kd.R_drew)); exact HO_8.out) (Kd.R_base ho0) hb); have n2_ := Aside0.mk (Kd.R_elder' (by (with_reducible repeat (first | apply Kd.R_alloc | apply Kd.R_drewN | apply Kd.R_drew)); exact HO_9.out) (Kd.R_base ho0) hb); have n3_ := Aside0.mk (Kd.R_lower (Kd.R_new' (Kd.R_new' (Kd.R_new' ho0 (Kd.R_lt (by (with_reducible repeat (first | apply Kd.R_alloc | apply Kd.R_drewN | apply Kd.R_drew)); exact HO_6.out))) (Kd.R_lt (by (with_reducible repeat (first | apply Kd.R_alloc | apply Kd.R_drewN | apply Kd.R_drew)); exact HO_8.out))) (Kd.R_lt (by (with_reducible repeat (first | apply Kd.R_alloc | apply Kd.R_drewN | apply Kd.R_drew)); exact HO_9.out))) (below_size (by repeat (first | (with_reducible first | exact HB.out | apply below_alloc | apply pw_below_drewN | apply below_drew1 | refine below_set ?_ GE101.out) | exact HB.out)))); have n4_ := Aside0.mk (blk_below (g := gb101) (o := .cells #[.int .i64 a1_0, .int .i64 a1_1, .int .i64 a1_2] 79 (0, 0)) (by (with_reducible repeat (first | refine blk_drewN ?_ _ | refine blk_drew ?_ | refine blk_alloc ?_ _)); exact BK101.out) hb); have n5_ := Aside0.mk (below_step (by repeat (first | (with_reducible first | exact HB.out | apply below_alloc | apply pw_below_drewN | apply below_drew1 | refine below_set ?_ GE101.out) | exact HB.out)) hb); clear HO_6; clear HO_8; clear HO_9; clear BK101; clear HB; have HO_6 := n0_; have HO_8 := n1_; have HO_9 := n2_; have HO126 := n3_; have BK101 := n4_; have HB := n5_; clear n0_ n1_ n2_ n3_ n4_ n5_; (try clear hb); (try clear hb2); (try clear hk); (try clear hi); (try clear ho0); obtain ⟨Ao39, co39, eo39⟩ := Kd.R_slice HO126.out; subst eo39) | ((with_reducible refine gate_callee (f := 44) rfl ?_); refine goesL_ (some 50) rfl rfl Try.func44 (by kernel_rfl) rfl #[.slice Ao22 t113.length co22, .slice Ao39 t124.length co39] rfl (by (try simp only [List.map_toArray, List.map_cons, List.map_nil]); first | done | rfl | (simp only [List.length_drop, List.length_take]; rfl)) ?_; (with_reducible refine (laws_eqWayS.calls kj11 _ _ t113 _ _ t124 true _ ?side1 ?side2 ?side3 ?side4 A34.out).mono ?_); (case side1 => repeat (first | exact (Kd.R_reads' HO_8.out).2.2 | (with_reducible refine Kd.C_alloc ?_ _) | (with_reducible refine Kd.C_drewN ?_ _) | (with_reducible refine Kd.C_drew ?_))); (case side2 => exact (Kd.R_reads' HO_8.out).2.1); (case side3 => repeat (first | exact (Kd.R_reads' HO126.out).2.2 | (with_reducible refine Kd.C_alloc ?_ _) | (with_reducible refine Kd.C_drewN ?_ _) | (with_reducible refine Kd.C_drew ?_))); (case side4 => exact (Kd.R_reads' HO126.out).2.1); rintro e w40 ⟨rfl, hb⟩; refine ⟨_, rfl, ?_⟩; have n0_ := Aside0.mk (Kd.R_below (by (with_reducible repeat (first | apply Kd.R_alloc | apply Kd.R_drewN | apply Kd.R_drew)); exact HO_6.out) hb); have n1_ := Aside0.mk (Kd.R_below (by (with_reducible repeat (first | apply Kd.R_alloc | apply Kd.R_drewN | apply Kd.R_drew)); exact HO_8.out) hb); have n2_ := Aside0.mk (Kd.R_below (by (with_reducible repeat (first | apply Kd.R_alloc | apply Kd.R_drewN | apply Kd.R_drew)); exact HO_9.out) hb); have n3_ := Aside0.mk (Kd.R_below (by (with_reducible repeat (first | apply Kd.R_alloc | apply Kd.R_drewN | apply Kd.R_drew)); exact HO126.out) hb); have n4_ := Aside0.mk (blk_below (g := gb101) (o := .cells #[.int .i64 a1_0, .int .i64 a1_1, .int .i64 a1_2] 79 (0, 0)) (by (with_reducible repeat (first | refine blk_drewN ?_ _ | refine blk_drew ?_ | refine blk_alloc ?_ _)); exact BK101.out) hb); have n5_ := Aside0.mk (below_step (by repeat (first | (with_reducible first | exact HB.out | apply below_alloc | apply pw_below_drewN | apply below_drew1 | refine below_set ?_ GE101.out) | exact HB.out)) hb); clear HO_6; clear HO_8; clear HO_9; clear HO126; clear BK101; clear HB; have HO_6 := n0_; have HO_8 := n1_; have HO_9 := n2_; have HO126 := n3_; have BK101 := n4_; have HB := n5_; clear n0_ n1_ n2_ n3_ n4_ n5_; (try clear hb); (try clear hb2); (try clear hk); (try clear hi)) | ((with_reducible refine gate_callee (f := 52) rfl ?_); refine goesL_ (some 54) rfl rfl Try.func52 (by kernel_rfl) rfl #[.slice Ao22 t113.length co22, .int .i64 1] rfl (by (try simp only [List.map_toArray, List.map_cons, List.map_nil]); first | done | rfl | (simp only [List.length_drop, List.length_take]; rfl)) ?_; (with_reducible refine (laws_markWayS.calls kj11 (fun k_ => some k_ = (.slice Ao22 t113.length co22 : Value).ownBlock) (.slice Ao22 t113.length co22) t113 1 t128 t129 w _ ?side1 ?side2 A36.out).mono ?_); (case side1 => repeat (first | (with_reducible first | exact HB.out | apply below_alloc | apply pw_below_drewN | apply below_drew1 | refine below_set ?_ GE101.out) | exact HB.out)); (case side2 => exact Kd.R_tight rfl HO_8.out); rintro e w41 ⟨rfl, hy0, hb, hkp⟩; refine ⟨_, rfl, ?_⟩; have n0_ := Aside0.mk (Kd.R_mono (ok' := fun k_ => some k_ ≠ (.slice Ao22 t113.length co22 : Value).ownBlock ∧ some k_ ≠ (v120 : Value).ownBlock ∧ some k_ ≠ (.slice Ao39 t124.length co39 : Value).ownBlock) (Kd.R_keptB (HO_6.out) hkp (fun k_ hk_ hs_ => (hk_.1.1) hs_)) (fun k_ hk_ => ⟨hk_.1.1.1, hk_.1.1.2, hk_.1.2⟩)); have n1_ := Aside0.mk (Kd.R_reok rfl hy0 (fun k_ e_ => HO_8.out.1 k_ e_)); have n2_ := Aside0.mk (Kd.R_mono (ok' := fun k_ => some k_ ≠ (v110 : Value).ownBlock ∧ some k_ ≠ (.slice Ao22 t113.length co22 : Value).ownBlock ∧ some k_ ≠ (.slice Ao39 t124.length co39 : Value).ownBlock) (Kd.R_keptB (HO_9.out) hkp (fun k_ hk_ hs_ => (hk_.1.2) hs_)) (fun k_ hk_ => ⟨hk_.1.1.1, hk_.1.1.2, hk_.1.2⟩)); have n3_ := Aside0.mk (blk_kept (by (with_reducible repeat (first | refine blk_drewN ?_ _ | refine blk_drew ?_ | refine blk_alloc ?_ _)); exact BK101.out) hkp (fun hs_ => (fun e_ => (Kd.R_ne HO_8.out BK101.out (by decide)) e_) hs_)); have n4_ := Aside0.mk (Kd.R_mono (ok' := fun k_ => some k_ ≠ (v110 : Value).ownBlock ∧ some k_ ≠ (.slice Ao22 t113.length co22 : Value).ownBlock ∧ some k_ ≠ (v120 : Value).ownBlock) (Kd.R_keptB (HO126.out) hkp (fun k_ hk_ hs_ => (hk_.1.2) hs_)) (fun k_ hk_ => ⟨hk_.1.1.1.2, hk_.1.1.2, hk_.1.2⟩)); have n5_ := Aside0.mk (hb); clear HO_6; clear HO_8; clear HO_9; clear BK101; clear HO126; clear HB; have HO_6 := n0_; have HO_8 := n1_; have HO_9 := n2_; have BK101 := n3_; have HO126 := n4_; have HB := n5_; clear n0_ n1_ n2_ n3_ n4_ n5_; (try clear hb); (try clear hkp); (try clear hy0)))
      (try simp only [Act.put, List.setIfInBounds_toArray, List.set_cons_zero, List.set_cons_succ])
      go_cut [67] (fun v67 wc => ∃ (kq : Nat) (x67_36 : Bool), v67 = .bool x67_36 ∧ Aside0 (laws_FnExactWaysPut.j1 kq l0 t109 t112 t119 x67_36 a1_0 a1_1 a1_2 = some r) ∧ Aside0 (kq ≤ kj11) ∧ Aside0 (Kd.R k82 82 wc w.heap.size (fun k_ => some k_ ≠ (v120 : Value).ownBlock) v110 t109) ∧ Aside0 (Kd.R k82 82 wc w.heap.size (fun k_ => some k_ ≠ (v110 : Value).ownBlock) v120 t119) ∧ Aside0 (wc.heap[gb101]? = some (.cells #[.int .i64 a1_0, .int .i64 a1_1, .int .i64 a1_2] 79 (0, 0))) ∧ Aside0 (Below w.heap.size w wc))
      case first =>
       have H := HC37.out
       clear HC37
       by_cases c42 : t128 < 0
       ·rw [if_pos c42] at H
        have c42b0 : decide (t128 < 0) = true := decide_eq_true c42
        clear c42
        (first | rw [c42b0] | (simp only [i64_w, i32_w]; rw [c42b0]) | skip)
        have H' := Aside0.mk H
        clear H
        go_wp2
        go_meet
        case rel => exact ⟨_, (true), (by first | rfl | (simp; done) | (simp [*]; done)), H', ⟨by have := HJ11.out; first | omega | exact Nat.le_refl _⟩, ⟨by (with_reducible repeat (first | apply Kd.R_alloc | apply Kd.R_drewN | apply Kd.R_drew)); exact Kd.R_mono HO_6.out (fun _ hk => hk.2.1)⟩, ⟨by (with_reducible repeat (first | apply Kd.R_alloc | apply Kd.R_drewN | apply Kd.R_drew)); exact Kd.R_mono HO_9.out (fun _ hk => hk.1)⟩, ⟨by (with_reducible repeat (first | refine blk_drewN ?_ _ | refine blk_drew ?_ | refine blk_alloc ?_ _)); exact BK101.out⟩, ⟨by repeat (first | (with_reducible first | exact HB.out | apply below_alloc | apply pw_below_drewN | apply below_drew1 | refine below_set ?_ GE101.out) | exact HB.out)⟩⟩
       ·rw [if_neg c42] at H
        have c42b0 : decide (t128 < 0) = false := decide_eq_false c42
        clear c42
        (first | rw [c42b0] | (simp only [i64_w, i32_w]; rw [c42b0]) | skip)
        replace H := Option.bind_eq_some_iff.mp H
        obtain ⟨t130, A430, H⟩ := H
        replace H : (if t130 = true then (laws_FnExactWaysPut.j1 kj11 l0 t109 t112 t119 (t122 != t112) a1_0 a1_1 a1_2) else (laws_FnExactWaysPut.j1 kj11 l0 t109 t112 t119 true a1_0 a1_1 a1_2)) = some r := H
        have A43 := Aside0.mk A430
        clear A430
        by_cases c44 : t130 = true
        ·subst c44
         have H1 : (laws_FnExactWaysPut.j1 kj11 l0 t109 t112 t119 (t122 != t112) a1_0 a1_1 a1_2) = some r := by rw [if_pos rfl] at H; exact H
         clear H
         have H := H1
         clear H1
         have H' := Aside0.mk H
         clear H
         obtain ⟨Ao45, co45, eo45⟩ := Kd.R_slice HO_9.out
         subst eo45
         obtain ⟨Ao46, co46, eo46⟩ := Kd.R_slice HO_6.out
         subst eo46
         go_wp2_with (first | (go_at_call 44; (with_reducible refine (laws_eqWayS.calls kj11 _ _ t119 _ _ t109 true _ ?side1 ?side2 ?side3 ?side4 A43.out).mono ?_); (case side1 => repeat (first | exact (Kd.R_reads' HO_9.out).2.2 | (with_reducible refine Kd.C_alloc ?_ _) | (with_reducible refine Kd.C_drewN ?_ _) | (with_reducible refine Kd.C_drew ?_))); (case side2 => exact (Kd.R_reads' HO_9.out).2.1); (case side3 => repeat (first | exact (Kd.R_reads' HO_6.out).2.2 | (with_reducible refine Kd.C_alloc ?_ _) | (with_reducible refine Kd.C_drewN ?_ _) | (with_reducible refine Kd.C_drew ?_))); (case side4 => exact (Kd.R_reads' HO_6.out).2.1); rintro e w47 ⟨rfl, hb⟩; have n0_ := Aside0.mk (Kd.R_below (by (with_reducible repeat (first | apply Kd.R_alloc | apply Kd.R_drewN | apply Kd.R_drew)); exact HO_6.out) hb); have n1_ := Aside0.mk (Kd.R_below (by (with_reducible repeat (first | apply Kd.R_alloc | apply Kd.R_drewN | apply Kd.R_drew)); exact HO_8.out) hb); have n2_ := Aside0.mk (Kd.R_below (by (with_reducible repeat (first | apply Kd.R_alloc | apply Kd.R_drewN | apply Kd.R_drew)); exact HO_9.out) hb); have n3_ := Aside0.mk (Kd.R_below (by (with_reducible repeat (first | apply Kd.R_alloc | apply Kd.R_drewN | apply Kd.R_drew)); exact HO126.out) hb); have n4_ := Aside0.mk (blk_below (g := gb101) (o := .cells #[.int .i64 a1_0, .int .i64 a1_1, .int .i64 a1_2] 79 (0, 0)) (by (with_reducible repeat (first | refine blk_drewN ?_ _ | refine blk_drew ?_ | refine blk_alloc ?_ _)); exact BK101.out) hb); have n5_ := Aside0.mk (below_step (by repeat (first | (with_reducible first | exact HB.out | apply below_alloc | apply pw_below_drewN | apply below_drew1 | refine below_set ?_ GE101.out) | exact HB.out)) hb); clear HO_6; clear HO_8; clear HO_9; clear HO126; clear BK101; clear HB; have HO_6 := n0_; have HO_8 := n1_; have HO_9 := n2_; have HO126 := n3_; have BK101 := n4_; have HB := n5_; clear n0_ n1_ n2_ n3_ n4_ n5_; (try clear hb); (try clear hb2); (try clear hk); (try clear hi)))
         go_meet
         case rel => exact ⟨_, ((t122 != t112)), (by first | rfl | (simp; done) | (simp [*]; done)), H', ⟨by have := HJ11.out; first | omega | exact Nat.le_refl _⟩, ⟨by (with_reducible repeat (first | apply Kd.R_alloc | apply Kd.R_drewN | apply Kd.R_drew)); exact Kd.R_mono HO_6.out (fun _ hk => hk.2.1)⟩, ⟨by (with_reducible repeat (first | apply Kd.R_alloc | apply Kd.R_drewN | apply Kd.R_drew)); exact Kd.R_mono HO_9.out (fun _ hk => hk.1)⟩, ⟨by (with_reducible repeat (first | refine blk_drewN ?_ _ | refine blk_drew ?_ | refine blk_alloc ?_ _)); exact BK101.out⟩, ⟨by repeat (first | (with_reducible first | exact HB.out | apply below_alloc | apply pw_below_drewN | apply below_drew1 | refine below_set ?_ GE101.out) | exact HB.out)⟩⟩
        ·replace c44 := Bool.eq_false_iff.mpr c44
         subst c44
         have H1 : (laws_FnExactWaysPut.j1 kj11 l0 t109 t112 t119 true a1_0 a1_1 a1_2) = some r := by rw [if_neg (show ¬ (false = true) by decide)] at H; exact H
         clear H
         have H := H1
         clear H1
         have H' := Aside0.mk H
         clear H
         obtain ⟨Ao48, co48, eo48⟩ := Kd.R_slice HO_9.out
         subst eo48
         obtain ⟨Ao49, co49, eo49⟩ := Kd.R_slice HO_6.out
         subst eo49
         go_wp2_with (first | (go_at_call 44; (with_reducible refine (laws_eqWayS.calls kj11 _ _ t119 _ _ t109 false _ ?side1 ?side2 ?side3 ?side4 A43.out).mono ?_); (case side1 => repeat (first | exact (Kd.R_reads' HO_9.out).2.2 | (with_reducible refine Kd.C_alloc ?_ _) | (with_reducible refine Kd.C_drewN ?_ _) | (with_reducible refine Kd.C_drew ?_))); (case side2 => exact (Kd.R_reads' HO_9.out).2.1); (case side3 => repeat (first | exact (Kd.R_reads' HO_6.out).2.2 | (with_reducible refine Kd.C_alloc ?_ _) | (with_reducible refine Kd.C_drewN ?_ _) | (with_reducible refine Kd.C_drew ?_))); (case side4 => exact (Kd.R_reads' HO_6.out).2.1); rintro e w50 ⟨rfl, hb⟩; have n0_ := Aside0.mk (Kd.R_below (by (with_reducible repeat (first | apply Kd.R_alloc | apply Kd.R_drewN | apply Kd.R_drew)); exact HO_6.out) hb); have n1_ := Aside0.mk (Kd.R_below (by (with_reducible repeat (first | apply Kd.R_alloc | apply Kd.R_drewN | apply Kd.R_drew)); exact HO_8.out) hb); have n2_ := Aside0.mk (Kd.R_below (by (with_reducible repeat (first | apply Kd.R_alloc | apply Kd.R_drewN | apply Kd.R_drew)); exact HO_9.out) hb); have n3_ := Aside0.mk (Kd.R_below (by (with_reducible repeat (first | apply Kd.R_alloc | apply Kd.R_drewN | apply Kd.R_drew)); exact HO126.out) hb); have n4_ := Aside0.mk (blk_below (g := gb101) (o := .cells #[.int .i64 a1_0, .int .i64 a1_1, .int .i64 a1_2] 79 (0, 0)) (by (with_reducible repeat (first | refine blk_drewN ?_ _ | refine blk_drew ?_ | refine blk_alloc ?_ _)); exact BK101.out) hb); have n5_ := Aside0.mk (below_step (by repeat (first | (with_reducible first | exact HB.out | apply below_alloc | apply pw_below_drewN | apply below_drew1 | refine below_set ?_ GE101.out) | exact HB.out)) hb); clear HO_6; clear HO_8; clear HO_9; clear HO126; clear BK101; clear HB; have HO_6 := n0_; have HO_8 := n1_; have HO_9 := n2_; have HO126 := n3_; have BK101 := n4_; have HB := n5_; clear n0_ n1_ n2_ n3_ n4_ n5_; (try clear hb); (try clear hb2); (try clear hk); (try clear hi)))
         go_meet
         case rel => exact ⟨_, (true), (by first | rfl | (simp; done) | (simp [*]; done)), H', ⟨by have := HJ11.out; first | omega | exact Nat.le_refl _⟩, ⟨by (with_reducible repeat (first | apply Kd.R_alloc | apply Kd.R_drewN | apply Kd.R_drew)); exact Kd.R_mono HO_6.out (fun _ hk => hk.2.1)⟩, ⟨by (with_reducible repeat (first | apply Kd.R_alloc | apply Kd.R_drewN | apply Kd.R_drew)); exact Kd.R_mono HO_9.out (fun _ hk => hk.1)⟩, ⟨by (with_reducible repeat (first | refine blk_drewN ?_ _ | refine blk_drew ?_ | refine blk_alloc ?_ _)); exact BK101.out⟩, ⟨by repeat (first | (with_reducible first | exact HB.out | apply below_alloc | apply pw_below_drewN | apply below_drew1 | refine below_set ?_ GE101.out) | exact HB.out)⟩⟩
      case rest =>
       clear HC37
       try clear c1
       try clear c2
       try clear p2
       try clear c3
       try clear c4
       try clear c4b0
       try clear c5
       try clear c12
       try clear c25
       try clear c32
       try clear c35
       try clear c40
       try clear c42
       try clear c42b0
       try clear c44
       try clear hcz20_0
       try clear hcz20_1
       try clear hcz20_2
       try clear hfz20_0
       try clear hfz20_1
       try clear hfz20_2
       try clear p2
       obtain ⟨kq, x67_36, rfl, HA, HJ36, HO_6, HO_9, BK101, HB⟩ := hcut
       cases kq with
       | zero => exact absurd HA.out (by simp [laws_FnExactWaysPut.j1])
       | succ kj36 =>
        have H := HA.out
        clear HA
        simp only [laws_FnExactWaysPut.j1] at H
        by_cases c51 : x67_36 = true
        ·subst c51
         have H1 : (some false) = some r := by rw [if_pos rfl] at H; exact H
         clear H
         have H := H1
         clear H1
         obtain rfl := Option.some.inj H
         go_wp2
         go_ret
         exact ⟨by first | rfl | (simp [errW_none, errW_some] <;> rfl) | (simp [*, errW_none, errW_some] <;> rfl), by repeat (first | (with_reducible first | exact HB.out | apply below_alloc | apply pw_below_drewN | apply below_drew1 | refine below_set ?_ GE101.out) | exact HB.out)⟩
        ·replace c51 := Bool.eq_false_iff.mpr c51
         subst c51
         have H1 : ((laws_markWayS.f kj36 t119 1).bind fun bt131 => ((laws_heldWayS.f kj36 bt131.2 1).bind fun t133 => (if t133 < 0 then (some false) else (if t133 = bt131.1 then ((laws_toWayS.f kj36 l0).bind fun t134 => ((laws_toWay.f a1_0 a1_1 a1_2).bind fun bt137 => ((impl_WaysPut.f kj36 t134 bt137.1 bt137.2.1 bt137.2.2).bind fun bt140 => ((laws_eqWayS.f kj36 bt140.1 t109).bind fun t144 => (if t144 = true then (laws_FnExactWaysPut.j2 kj36 bt131.2 bt131.1 (bt140.2 != t112)) else (laws_FnExactWaysPut.j2 kj36 bt131.2 bt131.1 true)))))) else (some false))))) = some r := by rw [if_neg (show ¬ (false = true) by decide)] at H; exact H
         clear H
         have H := H1
         clear H1
         replace H := Option.bind_eq_some_iff.mp H
         obtain ⟨⟨t131, t132⟩, A520, H⟩ := H
         replace H : ((laws_heldWayS.f kj36 t132 1).bind fun t133 => (if t133 < 0 then (some false) else (if t133 = t131 then ((laws_toWayS.f kj36 l0).bind fun t134 => ((laws_toWay.f a1_0 a1_1 a1_2).bind fun bt137 => ((impl_WaysPut.f kj36 t134 bt137.1 bt137.2.1 bt137.2.2).bind fun bt140 => ((laws_eqWayS.f kj36 bt140.1 t109).bind fun t144 => (if t144 = true then (laws_FnExactWaysPut.j2 kj36 t132 t131 (bt140.2 != t112)) else (laws_FnExactWaysPut.j2 kj36 t132 t131 true)))))) else (some false)))) = some r := H
         have A52 := Aside0.mk A520
         clear A520
         replace H := Option.bind_eq_some_iff.mp H
         obtain ⟨t133, A530, H⟩ := H
         replace H : (if t133 < 0 then (some false) else (if t133 = t131 then ((laws_toWayS.f kj36 l0).bind fun t134 => ((laws_toWay.f a1_0 a1_1 a1_2).bind fun bt137 => ((impl_WaysPut.f kj36 t134 bt137.1 bt137.2.1 bt137.2.2).bind fun bt140 => ((laws_eqWayS.f kj36 bt140.1 t109).bind fun t144 => (if t144 = true then (laws_FnExactWaysPut.j2 kj36 t132 t131 (bt140.2 != t112)) else (laws_FnExactWaysPut.j2 kj36 t132 t131 true)))))) else (some false))) = some r := H
         have A53 := Aside0.mk A530
         clear A530
         by_cases c54 : t133 < 0
         ·rw [if_pos c54] at H
          have c54b0 : decide (t133 < 0) = true := decide_eq_true c54
          clear c54
          obtain rfl := Option.some.inj H
          obtain ⟨Ao55, co55, eo55⟩ := Kd.R_slice HO_9.out
          subst eo55
          go_wp2_with (first | ((with_reducible refine gate_callee (f := 52) rfl ?_); refine goesL_ (some 70) rfl rfl Try.func52 (by kernel_rfl) rfl #[.slice Ao55 t119.length co55, .int .i64 1] rfl (by (try simp only [List.map_toArray, List.map_cons, List.map_nil]); first | done | rfl | (simp only [List.length_drop, List.length_take]; rfl)) ?_; (with_reducible refine (laws_markWayS.calls kj36 (fun k_ => some k_ = (.slice Ao55 t119.length co55 : Value).ownBlock) (.slice Ao55 t119.length co55) t119 1 t131 t132 w _ ?side1 ?side2 A52.out).mono ?_); (case side1 => repeat (first | (with_reducible first | exact HB.out | apply below_alloc | apply pw_below_drewN | apply below_drew1 | refine below_set ?_ GE101.out) | exact HB.out)); (case side2 => exact Kd.R_tight rfl HO_9.out); rintro e w56 ⟨rfl, hy0, hb, hkp⟩; refine ⟨_, rfl, ?_⟩; have n0_ := Aside0.mk (Kd.R_mono (ok' := fun k_ => some k_ ≠ (.slice Ao55 t119.length co55 : Value).ownBlock) (Kd.R_keptB (HO_6.out) hkp (fun k_ hk_ hs_ => (hk_) hs_)) (fun k_ hk_ => hk_.1)); have n1_ := Aside0.mk (Kd.R_reok rfl hy0 (fun k_ e_ => HO_9.out.1 k_ e_)); have n2_ := Aside0.mk (blk_kept (by (with_reducible repeat (first | refine blk_drewN ?_ _ | refine blk_drew ?_ | refine blk_alloc ?_ _)); exact BK101.out) hkp (fun hs_ => (fun e_ => (Kd.R_ne HO_9.out BK101.out (by decide)) e_) hs_)); have n3_ := Aside0.mk (hb); clear HO_6; clear HO_9; clear BK101; clear HB; have HO_6 := n0_; have HO_9 := n1_; have BK101 := n2_; have HB := n3_; clear n0_ n1_ n2_ n3_; (try clear hb); (try clear hkp); (try clear hy0)) | ((with_reducible refine gate_callee (f := 53) rfl ?_); refine goesL_ (some 73) rfl rfl Try.func53 (by kernel_rfl) rfl #[.slice Ao55 t132.length co55, .int .i64 1] rfl (by (try simp only [List.map_toArray, List.map_cons, List.map_nil]); first | done | (rw [show t132.length = t119.length from (Kd.R_reads' HO_9.out).1.symm] <;> rfl) | rfl | (simp only [List.length_drop, List.length_take]; rfl)) ?_; (with_reducible refine (laws_heldWayS.calls kj36 _ _ t132 1 t133 _ ?side1 ?side2 A53.out).mono ?_); (case side1 => repeat (first | exact (Kd.R_reads' HO_9.out).2.2 | (with_reducible refine Kd.C_alloc ?_ _) | (with_reducible refine Kd.C_drewN ?_ _) | (with_reducible refine Kd.C_drew ?_))); (case side2 => rw [show t132.length = t119.length from (Kd.R_reads' HO_9.out).1.symm]; exact (Kd.R_reads' HO_9.out).2.1); rintro e w' ⟨rfl, ⟨nd, rfl⟩⟩; refine ⟨_, rfl, ?_⟩))
          go_ret
          exact ⟨by first | rfl | (simp [errW_none, errW_some] <;> rfl) | (simp [*, errW_none, errW_some] <;> rfl), by repeat (first | (with_reducible first | exact HB.out | apply below_alloc | apply pw_below_drewN | apply below_drew1 | refine below_set ?_ GE101.out) | exact HB.out)⟩
         ·rw [if_neg c54] at H
          have c54b0 : decide (t133 < 0) = false := decide_eq_false c54
          clear c54
          by_cases c57 : t133 = t131
          ·rw [if_pos c57] at H
           have c57b0 : (t133 == t131) = true := beq_iff_eq.mpr c57
           have c57b1 : (t133 != t131) = false := bne_eq_false_iff_eq.mpr c57
           clear c57
           replace H := Option.bind_eq_some_iff.mp H
           obtain ⟨t134, A580, H⟩ := H
           replace H : ((laws_toWay.f a1_0 a1_1 a1_2).bind fun bt137 => ((impl_WaysPut.f kj36 t134 bt137.1 bt137.2.1 bt137.2.2).bind fun bt140 => ((laws_eqWayS.f kj36 bt140.1 t109).bind fun t144 => (if t144 = true then (laws_FnExactWaysPut.j2 kj36 t132 t131 (bt140.2 != t112)) else (laws_FnExactWaysPut.j2 kj36 t132 t131 true))))) = some r := H
           have A58 := Aside0.mk A580
           clear A580
           replace H := Option.bind_eq_some_iff.mp H
           obtain ⟨⟨t137, t138, t139⟩, A590, H⟩ := H
           replace H : ((impl_WaysPut.f kj36 t134 t137 t138 t139).bind fun bt140 => ((laws_eqWayS.f kj36 bt140.1 t109).bind fun t144 => (if t144 = true then (laws_FnExactWaysPut.j2 kj36 t132 t131 (bt140.2 != t112)) else (laws_FnExactWaysPut.j2 kj36 t132 t131 true)))) = some r := H
           have A59 := Aside0.mk A590
           clear A590
           replace H := Option.bind_eq_some_iff.mp H
           obtain ⟨⟨t140, t143⟩, A600, H⟩ := H
           replace H : ((laws_eqWayS.f kj36 t140 t109).bind fun t144 => (if t144 = true then (laws_FnExactWaysPut.j2 kj36 t132 t131 (t143 != t112)) else (laws_FnExactWaysPut.j2 kj36 t132 t131 true))) = some r := H
           have A60 := Aside0.mk A600
           clear A600
           have HC61 := Aside0.mk H
           clear H
           obtain ⟨Ao62, co62, eo62⟩ := Kd.R_slice HO_9.out
           subst eo62
           try go_wp2_with (first | ((with_reducible refine gate_callee (f := 52) rfl ?_); refine goesL_ (some 70) rfl rfl Try.func52 (by kernel_rfl) rfl #[.slice Ao62 t119.length co62, .int .i64 1] rfl (by (try simp only [List.map_toArray, List.map_cons, List.map_nil]); first | done | rfl | (simp only [List.length_drop, List.length_take]; rfl)) ?_; (with_reducible refine (laws_markWayS.calls kj36 (fun k_ => some k_ = (.slice Ao62 t119.length co62 : Value).ownBlock) (.slice Ao62 t119.length co62) t119 1 t131 t132 w _ ?side1 ?side2 A52.out).mono ?_); (case side1 => repeat (first | (with_reducible first | exact HB.out | apply below_alloc | apply pw_below_drewN | apply below_drew1 | refine below_set ?_ GE101.out) | exact HB.out)); (case side2 => exact Kd.R_tight rfl HO_9.out); rintro e w63 ⟨rfl, hy0, hb, hkp⟩; refine ⟨_, rfl, ?_⟩; have n0_ := Aside0.mk (Kd.R_mono (ok' := fun k_ => some k_ ≠ (.slice Ao62 t119.length co62 : Value).ownBlock) (Kd.R_keptB (HO_6.out) hkp (fun k_ hk_ hs_ => (hk_) hs_)) (fun k_ hk_ => hk_.1)); have n1_ := Aside0.mk (Kd.R_reok rfl hy0 (fun k_ e_ => HO_9.out.1 k_ e_)); have n2_ := Aside0.mk (blk_kept (by (with_reducible repeat (first | refine blk_drewN ?_ _ | refine blk_drew ?_ | refine blk_alloc ?_ _)); exact BK101.out) hkp (fun hs_ => (fun e_ => (Kd.R_ne HO_9.out BK101.out (by decide)) e_) hs_)); have n3_ := Aside0.mk (hb); clear HO_6; clear HO_9; clear BK101; clear HB; have HO_6 := n0_; have HO_9 := n1_; have BK101 := n2_; have HB := n3_; clear n0_ n1_ n2_ n3_; (try clear hb); (try clear hkp); (try clear hy0)) | ((with_reducible refine gate_callee (f := 53) rfl ?_); refine goesL_ (some 73) rfl rfl Try.func53 (by kernel_rfl) rfl #[.slice Ao62 t132.length co62, .int .i64 1] rfl (by (try simp only [List.map_toArray, List.map_cons, List.map_nil]); first | done | (rw [show t132.length = t119.length from (Kd.R_reads' HO_9.out).1.symm] <;> rfl) | rfl | (simp only [List.length_drop, List.length_take]; rfl)) ?_; (with_reducible refine (laws_heldWayS.calls kj36 _ _ t132 1 t133 _ ?side1 ?side2 A53.out).mono ?_); (case side1 => repeat (first | exact (Kd.R_reads' HO_9.out).2.2 | (with_reducible refine Kd.C_alloc ?_ _) | (with_reducible refine Kd.C_drewN ?_ _) | (with_reducible refine Kd.C_drew ?_))); (case side2 => rw [show t132.length = t119.length from (Kd.R_reads' HO_9.out).1.symm]; exact (Kd.R_reads' HO_9.out).2.1); rintro e w' ⟨rfl, ⟨nd, rfl⟩⟩; refine ⟨_, rfl, ?_⟩))
           (try (rw [drewN_self w63]; generalize hq_ : World.drewN w63 _ = w63; have n0_ : Aside0 (Kd.R k82 82 w63 w.heap.size (fun k_ => some k_ ≠ (.slice Ao62 t119.length co62 : Value).ownBlock) v110 t109) := ⟨by rw [← hq_]; exact (by (with_reducible repeat (first | apply Kd.R_alloc | apply Kd.R_drewN | apply Kd.R_drew)); exact HO_6.out)⟩; have n1_ : Aside0 (Kd.R k82 82 w63 w.heap.size (fun k_ => some k_ ≠ (v110 : Value).ownBlock) (.slice Ao62 t119.length co62) t132) := ⟨by rw [← hq_]; exact (by (with_reducible repeat (first | apply Kd.R_alloc | apply Kd.R_drewN | apply Kd.R_drew)); exact HO_9.out)⟩; have n2_ : Aside0 (w63.heap[gb101]? = some (.cells #[.int .i64 a1_0, .int .i64 a1_1, .int .i64 a1_2] 79 (0, 0))) := ⟨by rw [← hq_]; exact (by (with_reducible repeat (first | refine blk_drewN ?_ _ | refine blk_drew ?_ | refine blk_alloc ?_ _)); exact BK101.out)⟩; have n3_ : Aside0 (Below w.heap.size w w63) := ⟨by rw [← hq_]; exact (by repeat (first | (with_reducible first | exact HB.out | apply below_alloc | apply pw_below_drewN | apply below_drew1 | refine below_set ?_ GE101.out) | exact HB.out))⟩; clear HO_6 HO_9 BK101 HB hq_; have HO_6 := n0_; have HO_9 := n1_; have BK101 := n2_; have HB := n3_; clear n0_ n1_ n2_ n3_))
           have n0_ := Aside0.mk (Kd.R_drew HO_6.out)
           have n1_ := Aside0.mk (Kd.R_drew HO_9.out)
           have n2_ := Aside0.mk (blk_drew BK101.out)
           have n3_ := Aside0.mk (below_drew1 HB.out)
           clear HO_6
           clear HO_9
           clear BK101
           clear HB
           have HO_6 := n0_
           have HO_9 := n1_
           have BK101 := n2_
           have HB := n3_
           clear n0_ n1_ n2_ n3_
           refine start_ (n := 10) (S := fun w' => w'.cell? ⟨gb101, 0, none⟩ = some (.int .i64 a1_0) ∧ w'.cell? ⟨gb101, 1, none⟩ = some (.int .i64 a1_1) ∧ w'.cell? ⟨gb101, 2, none⟩ = some (.int .i64 a1_2)) (ds := []) #[false, false, false, false, false, false, false, false, false, false] (by kernel_rfl) rfl rfl ⟨(blk_cell BK101.out 0).trans rfl, (blk_cell BK101.out 1).trans rfl, (blk_cell BK101.out 2).trans rfl⟩ (fun hHeld => ?_); refine with_tabW laws_FnExactWaysPut.tab24 laws_FnExactWaysPut.bits24 (fun HT_ HW_ => ?_)
           generalize w63.drew = w64 at HO_6 HO_9 BK101 HB hHeld ⊢
           refine pure_ (i := 0) (N := some 80) (v := ?_) (a' := ?_) #[true, false, false, false, false, false, false, false, false, false] rfl rfl (any_of HT_.out (by kernel_rfl)) (fun _ _ _ h => h) (Or.inl ⟨by rfl, ?_⟩) ?_ ?_
           rotate_left
           ·intro w'
            go_simp
            with_reducible rfl
           rotate_left
           ·simp only [Act.put, List.setIfInBounds_toArray, List.set_cons_zero, List.set_cons_succ, i64_w, i32_w]
            rfl
           refine take_ (i := 2) (N := some 82) (v := ?_) (a' := ?_) #[true, false, true, false, false, false, false, false, false, false] rfl rfl (take_ofW HT_.out HW_.out (by kernel_rfl)) (fun _ _ _ h => h) (Or.inl ⟨by rfl, ?_⟩) hHeld ?_ ?_
           rotate_left
           ·rintro w' ⟨s0, s1, s2⟩
            go_simp
            with_reducible rfl
           rotate_left
           ·simp only [Act.put, List.setIfInBounds_toArray, List.set_cons_zero, List.set_cons_succ, i64_w, i32_w]
            rfl
           refine one_ (i := 1) (N := some 81) #[true, true, true, false, false, false, false, false, false, false] rfl rfl (one_of HT_.out (by kernel_rfl)) (by decide) (fun K hK => ?_)
           refine goes_ Try.func42 (by kernel_rfl) rfl #[.slice A0 l0.length c0] (by rfl) rfl rfl (by (try simp only [List.map_toArray, List.map_cons, List.map_nil]); first | done | rfl | (simp only [List.length_drop, List.length_take]; rfl)) ?_
           with_reducible refine (laws_toWayS.calls kj36 _ _ l0 t134 _ ?side1 ?side2 A58.out).mono ?_
           (case side1 => repeat (first | exact (Kd.C_below HR0.out HB.out) | (with_reducible refine Kd.C_alloc ?_ _) | (with_reducible refine Kd.C_drewN ?_ _) | (with_reducible refine Kd.C_drew ?_)))
           (case side2 => exact HC0.out)
           rintro e w65 ⟨v135, rfl, ho0, hb⟩
           refine ⟨_, rfl, ?_⟩
           have n0_ := Aside0.mk (Kd.R_elder' (by (with_reducible repeat (first | apply Kd.R_alloc | apply Kd.R_drewN | apply Kd.R_drew)); exact HO_6.out) (Kd.R_base ho0) hb)
           have n1_ := Aside0.mk (Kd.R_elder' (by (with_reducible repeat (first | apply Kd.R_alloc | apply Kd.R_drewN | apply Kd.R_drew)); exact HO_9.out) (Kd.R_base ho0) hb)
           have n2_ := Aside0.mk (Kd.R_lower (Kd.R_new' (Kd.R_new' ho0 (Kd.R_lt (by (with_reducible repeat (first | apply Kd.R_alloc | apply Kd.R_drewN | apply Kd.R_drew)); exact HO_6.out))) (Kd.R_lt (by (with_reducible repeat (first | apply Kd.R_alloc | apply Kd.R_drewN | apply Kd.R_drew)); exact HO_9.out))) (below_size (by repeat (first | (with_reducible first | exact HB.out | apply below_alloc | apply pw_below_drewN | apply below_drew1 | refine below_set ?_ GE101.out) | exact HB.out))))
           have n3_ := Aside0.mk (blk_below (g := gb101) (o := .cells #[.int .i64 a1_0, .int .i64 a1_1, .int .i64 a1_2] 79 (0, 0)) (by (with_reducible repeat (first | refine blk_drewN ?_ _ | refine blk_drew ?_ | refine blk_alloc ?_ _)); exact BK101.out) hb)
           have n4_ := Aside0.mk (below_step (by repeat (first | (with_reducible first | exact HB.out | apply below_alloc | apply pw_below_drewN | apply below_drew1 | refine below_set ?_ GE101.out) | exact HB.out)) hb)
           clear HO_6
           clear HO_9
           clear BK101
           clear HB
           have HO_6 := n0_
           have HO_9 := n1_
           have HO136 := n2_
           have BK101 := n3_
           have HB := n4_
           clear n0_ n1_ n2_ n3_ n4_
           (try clear hb)
           (try clear hb2)
           (try clear hk)
           (try clear hi)
           (try clear ho0)
           refine hK.out _ _ ⟨(blk_cell BK101.out 0).trans rfl, (blk_cell BK101.out 1).trans rfl, (blk_cell BK101.out 2).trans rfl⟩ (fun hHeld => ?_)
           clear hK K
           refine norm_ (a' := ?_) ?_ ?_
           rotate_left
           ·show Act.put _ (some 81) _ = _
            simp only [Act.put, List.setIfInBounds_toArray, List.set_cons_zero, List.set_cons_succ, i64_w, i32_w]
            rfl
           refine one_ (i := 3) (N := some 83) #[true, true, true, true, false, false, false, false, false, false] rfl rfl (one_of HT_.out (by kernel_rfl)) (by decide) (fun K hK => ?_)
           refine goes_ Try.func55 (by kernel_rfl) rfl #[.agg #[.int .i64 a1_0, .int .i64 a1_1, .int .i64 a1_2]] (by rfl) rfl rfl (by (try simp only [List.map_toArray, List.map_cons, List.map_nil]); first | done | rfl | (simp only [List.length_drop, List.length_take]; rfl)) ?_
           with_reducible refine (laws_toWay.calls a1_0 a1_1 a1_2 t137 t138 t139 _ A59.out).mono ?_
           rintro e w66 ⟨rfl, hb⟩
           refine ⟨_, rfl, ?_⟩
           have n0_ := Aside0.mk (Kd.R_below (by (with_reducible repeat (first | apply Kd.R_alloc | apply Kd.R_drewN | apply Kd.R_drew)); exact HO_6.out) hb)
           have n1_ := Aside0.mk (Kd.R_below (by (with_reducible repeat (first | apply Kd.R_alloc | apply Kd.R_drewN | apply Kd.R_drew)); exact HO_9.out) hb)
           have n2_ := Aside0.mk (Kd.R_below (by (with_reducible repeat (first | apply Kd.R_alloc | apply Kd.R_drewN | apply Kd.R_drew)); exact HO136.out) hb)
           have n3_ := Aside0.mk (blk_below (g := gb101) (o := .cells #[.int .i64 a1_0, .int .i64 a1_1, .int .i64 a1_2] 79 (0, 0)) (by (with_reducible repeat (first | refine blk_drewN ?_ _ | refine blk_drew ?_ | refine blk_alloc ?_ _)); exact BK101.out) hb)
           have n4_ := Aside0.mk (below_step (by repeat (first | (with_reducible first | exact HB.out | apply below_alloc | apply pw_below_drewN | apply below_drew1 | refine below_set ?_ GE101.out) | exact HB.out)) hb)
           clear HO_6
           clear HO_9
           clear HO136
           clear BK101
           clear HB
           have HO_6 := n0_
           have HO_9 := n1_
           have HO136 := n2_
           have BK101 := n3_
           have HB := n4_
           clear n0_ n1_ n2_ n3_ n4_
           (try clear hb)
           (try clear hb2)
           (try clear hk)
           (try clear hi)
           obtain ⟨Ao67, co67, eo67⟩ := Kd.R_slice HO136.out
           (first | subst eo67 | (injection eo67 with f1_ f2_ f3_; have f4_ := f1_.symm; have f5_ := f3_.symm; clear f1_ f2_ f3_; subst f4_; subst f5_))
           refine hK.out _ _ ⟨(blk_cell BK101.out 0).trans rfl, (blk_cell BK101.out 1).trans rfl, (blk_cell BK101.out 2).trans rfl⟩ (fun hHeld => ?_)
           clear hK K
           refine norm_ (a' := ?_) ?_ ?_
           rotate_left
           ·show Act.put _ (some 83) _ = _
            simp only [Act.put, List.setIfInBounds_toArray, List.set_cons_zero, List.set_cons_succ, i64_w, i32_w]
            rfl
           refine one_ (i := 4) (N := some 84) #[true, true, true, true, true, false, false, false, false, false] rfl rfl (one_of HT_.out (by kernel_rfl)) (by decide) (fun K hK => ?_)
           refine goes_ Try.func56 (by kernel_rfl) rfl #[.slice Ao67 t134.length co67, .agg #[.int .i64 t137, .int .i64 t138, .int .i64 t139]] (by rfl) rfl rfl (by (try simp only [List.map_toArray, List.map_cons, List.map_nil]); first | done | rfl | (simp only [List.length_drop, List.length_take]; rfl)) ?_
           with_reducible refine (impl_WaysPut.calls kj36 _ _ t134 t137 t138 t139 t140 t143 _ ?side1 ?side2 A60.out).mono ?_
           (case side1 => repeat (first | exact (Kd.R_reads' HO136.out).2.2 | (with_reducible refine Kd.C_alloc ?_ _) | (with_reducible refine Kd.C_drewN ?_ _) | (with_reducible refine Kd.C_drew ?_)))
           (case side2 => exact (Kd.R_reads' HO136.out).2.1)
           rintro e w68 ⟨v141, rfl, ho0, hb⟩
           refine ⟨_, rfl, ?_⟩
           have n0_ := Aside0.mk (Kd.R_elder' (by (with_reducible repeat (first | apply Kd.R_alloc | apply Kd.R_drewN | apply Kd.R_drew)); exact HO_6.out) (Kd.R_base ho0) hb)
           have n1_ := Aside0.mk (Kd.R_elder' (by (with_reducible repeat (first | apply Kd.R_alloc | apply Kd.R_drewN | apply Kd.R_drew)); exact HO_9.out) (Kd.R_base ho0) hb)
           have n2_ := Aside0.mk (Kd.R_elder' (by (with_reducible repeat (first | apply Kd.R_alloc | apply Kd.R_drewN | apply Kd.R_drew)); exact HO136.out) (Kd.R_base ho0) hb)
           have n3_ := Aside0.mk (Kd.R_lower (Kd.R_new' (Kd.R_new' (Kd.R_new' ho0 (Kd.R_lt (by (with_reducible repeat (first | apply Kd.R_alloc | apply Kd.R_drewN | apply Kd.R_drew)); exact HO_6.out))) (Kd.R_lt (by (with_reducible repeat (first | apply Kd.R_alloc | apply Kd.R_drewN | apply Kd.R_drew)); exact HO_9.out))) (Kd.R_lt (by (with_reducible repeat (first | apply Kd.R_alloc | apply Kd.R_drewN | apply Kd.R_drew)); exact HO136.out))) (below_size (by repeat (first | (with_reducible first | exact HB.out | apply below_alloc | apply pw_below_drewN | apply below_drew1 | refine below_set ?_ GE101.out) | exact HB.out))))
           have n4_ := Aside0.mk (blk_below (g := gb101) (o := .cells #[.int .i64 a1_0, .int .i64 a1_1, .int .i64 a1_2] 79 (0, 0)) (by (with_reducible repeat (first | refine blk_drewN ?_ _ | refine blk_drew ?_ | refine blk_alloc ?_ _)); exact BK101.out) hb)
           have n5_ := Aside0.mk (below_step (by repeat (first | (with_reducible first | exact HB.out | apply below_alloc | apply pw_below_drewN | apply below_drew1 | refine below_set ?_ GE101.out) | exact HB.out)) hb)
           clear HO_6
           clear HO_9
           clear HO136
           clear BK101
           clear HB
           have HO_6 := n0_
           have HO_9 := n1_
           have HO136 := n2_
           have HO142 := n3_
           have BK101 := n4_
           have HB := n5_
           clear n0_ n1_ n2_ n3_ n4_ n5_
           (try clear hb)
           (try clear hb2)
           (try clear hk)
           (try clear hi)
           (try clear ho0)
           refine hK.out _ _ ⟨(blk_cell BK101.out 0).trans rfl, (blk_cell BK101.out 1).trans rfl, (blk_cell BK101.out 2).trans rfl⟩ (fun hHeld => ?_)
           clear hK K
           refine norm_ (a' := ?_) ?_ ?_
           rotate_left
           ·show Act.put _ (some 84) _ = _
            simp only [Act.put, List.setIfInBounds_toArray, List.set_cons_zero, List.set_cons_succ, i64_w, i32_w]
            rfl
           refine pure_ (i := 5) (N := some 79) (v := ?_) (a' := ?_) #[true, true, true, true, true, true, false, false, false, false] rfl rfl (any_of HT_.out (by kernel_rfl)) (fun _ _ _ h => h) (Or.inl ⟨by rfl, ?_⟩) ?_ ?_
           rotate_left
           ·intro w'
            go_simp
            with_reducible rfl
           rotate_left
           ·simp only [Act.put, List.setIfInBounds_toArray, List.set_cons_zero, List.set_cons_succ, i64_w, i32_w]
            rfl
           refine pure_ (i := 6) (N := some 85) (v := ?_) (a' := ?_) #[true, true, true, true, true, true, true, false, false, false] rfl rfl (any_of HT_.out (by kernel_rfl)) (fun _ _ _ h => h) (Or.inl ⟨by rfl, ?_⟩) ?_ ?_
           rotate_left
           ·intro w'
            go_simp
            with_reducible rfl
           rotate_left
           ·simp only [Act.put, List.setIfInBounds_toArray, List.set_cons_zero, List.set_cons_succ, i64_w, i32_w]
            rfl
           refine pure_ (i := 7) (N := some 86) (v := ?_) (a' := ?_) #[true, true, true, true, true, true, true, true, false, false] rfl rfl (any_of HT_.out (by kernel_rfl)) (fun _ _ _ h => h) (Or.inl ⟨by rfl, ?_⟩) ?_ ?_
           rotate_left
           ·intro w'
            go_simp
            with_reducible rfl
           rotate_left
           ·simp only [Act.put, List.setIfInBounds_toArray, List.set_cons_zero, List.set_cons_succ, i64_w, i32_w]
            rfl
           refine pure_ (i := 8) (N := some 14) (v := ?_) (a' := ?_) #[true, true, true, true, true, true, true, true, true, false] rfl rfl (any_of HT_.out (by kernel_rfl)) (fun _ _ _ h => h) (Or.inl ⟨by rfl, ?_⟩) ?_ ?_
           rotate_left
           ·intro w'
            go_simp
            with_reducible rfl
           rotate_left
           ·simp only [Act.put, List.setIfInBounds_toArray, List.set_cons_zero, List.set_cons_succ, i64_w, i32_w]
            rfl
           refine pure_ (i := 9) (N := some 15) (v := ?_) (a' := ?_) #[true, true, true, true, true, true, true, true, true, true] rfl rfl (any_of HT_.out (by kernel_rfl)) (fun _ _ _ h => h) (Or.inl ⟨by rfl, ?_⟩) ?_ ?_
           rotate_left
           ·intro w'
            go_simp
            with_reducible rfl
           rotate_left
           ·simp only [Act.put, List.setIfInBounds_toArray, List.set_cons_zero, List.set_cons_succ, i64_w, i32_w]
            rfl
           refine done_ (done_of HT_.out (by kernel_rfl)) ?_
           go_upto_region 25 with (fail)
           go_cut [95] (fun v95 wc => ∃ (kq : Nat) (x95_60 : Bool), v95 = .bool x95_60 ∧ Aside0 (laws_FnExactWaysPut.j2 kq t132 t131 x95_60 = some r) ∧ Aside0 (kq ≤ kj36) ∧ Aside0 (Kd.R k82 82 wc w.heap.size (fun _ => True) (.slice Ao62 t119.length co62) t132) ∧ Aside0 (wc.heap[gb101]? = some (.cells #[.int .i64 a1_0, .int .i64 a1_1, .int .i64 a1_2] 79 (0, 0))) ∧ Aside0 (Below w.heap.size w wc))
           case first =>
            have H := HC61.out
            clear HC61
            replace H := Option.bind_eq_some_iff.mp H
            obtain ⟨t144, A690, H⟩ := H
            replace H : (if t144 = true then (laws_FnExactWaysPut.j2 kj36 t132 t131 (t143 != t112)) else (laws_FnExactWaysPut.j2 kj36 t132 t131 true)) = some r := H
            have A69 := Aside0.mk A690
            clear A690
            by_cases c70 : t144 = true
            ·subst c70
             have H1 : (laws_FnExactWaysPut.j2 kj36 t132 t131 (t143 != t112)) = some r := by rw [if_pos rfl] at H; exact H
             clear H
             have H := H1
             clear H1
             have H' := Aside0.mk H
             clear H
             obtain ⟨Ao71, co71, eo71⟩ := Kd.R_slice HO142.out
             subst eo71
             obtain ⟨Ao72, co72, eo72⟩ := Kd.R_slice HO_6.out
             subst eo72
             go_wp2_with (first | ((with_reducible refine gate_callee (f := 44) rfl ?_); refine goesL_ (some 89) rfl rfl Try.func44 (by kernel_rfl) rfl #[.slice Ao71 t140.length co71, .slice Ao72 t109.length co72] rfl (by (try simp only [List.map_toArray, List.map_cons, List.map_nil]); first | done | rfl | (simp only [List.length_drop, List.length_take]; rfl)) ?_; (with_reducible refine (laws_eqWayS.calls kj36 _ _ t140 _ _ t109 true _ ?side1 ?side2 ?side3 ?side4 A69.out).mono ?_); (case side1 => repeat (first | exact (Kd.R_reads' HO142.out).2.2 | (with_reducible refine Kd.C_alloc ?_ _) | (with_reducible refine Kd.C_drewN ?_ _) | (with_reducible refine Kd.C_drew ?_))); (case side2 => exact (Kd.R_reads' HO142.out).2.1); (case side3 => repeat (first | exact (Kd.R_reads' HO_6.out).2.2 | (with_reducible refine Kd.C_alloc ?_ _) | (with_reducible refine Kd.C_drewN ?_ _) | (with_reducible refine Kd.C_drew ?_))); (case side4 => exact (Kd.R_reads' HO_6.out).2.1); rintro e w73 ⟨rfl, hb⟩; refine ⟨_, rfl, ?_⟩; have n0_ := Aside0.mk (Kd.R_below (by (with_reducible repeat (first | apply Kd.R_alloc | apply Kd.R_drewN | apply Kd.R_drew)); exact HO_6.out) hb); have n1_ := Aside0.mk (Kd.R_below (by (with_reducible repeat (first | apply Kd.R_alloc | apply Kd.R_drewN | apply Kd.R_drew)); exact HO_9.out) hb); have n2_ := Aside0.mk (Kd.R_below (by (with_reducible repeat (first | apply Kd.R_alloc | apply Kd.R_drewN | apply Kd.R_drew)); exact HO136.out) hb); have n3_ := Aside0.mk (Kd.R_below (by (with_reducible repeat (first | apply Kd.R_alloc | apply Kd.R_drewN | apply Kd.R_drew)); exact HO142.out) hb); have n4_ := Aside0.mk (blk_below (g := gb101) (o := .cells #[.int .i64 a1_0, .int .i64 a1_1, .int .i64 a1_2] 79 (0, 0)) (by (with_reducible repeat (first | refine blk_drewN ?_ _ | refine blk_drew ?_ | refine blk_alloc ?_ _)); exact BK101.out) hb); have n5_ := Aside0.mk (below_step (by repeat (first | (with_reducible first | exact HB.out | apply below_alloc | apply pw_below_drewN | apply below_drew1 | refine below_set ?_ GE101.out) | exact HB.out)) hb); clear HO_6; clear HO_9; clear HO136; clear HO142; clear BK101; clear HB; have HO_6 := n0_; have HO_9 := n1_; have HO136 := n2_; have HO142 := n3_; have BK101 := n4_; have HB := n5_; clear n0_ n1_ n2_ n3_ n4_ n5_; (try clear hb); (try clear hb2); (try clear hk); (try clear hi)))
             go_meet
             case rel => exact ⟨_, ((t143 != t112)), (by first | rfl | (simp; done) | (simp [*]; done)), H', ⟨by have := HJ11.out; have := HJ36.out; first | omega | exact Nat.le_refl _⟩, ⟨by (with_reducible repeat (first | apply Kd.R_alloc | apply Kd.R_drewN | apply Kd.R_drew)); exact Kd.R_mono HO_9.out (fun _ hk => trivial)⟩, ⟨by (with_reducible repeat (first | refine blk_drewN ?_ _ | refine blk_drew ?_ | refine blk_alloc ?_ _)); exact BK101.out⟩, ⟨by repeat (first | (with_reducible first | exact HB.out | apply below_alloc | apply pw_below_drewN | apply below_drew1 | refine below_set ?_ GE101.out) | exact HB.out)⟩⟩
            ·replace c70 := Bool.eq_false_iff.mpr c70
             subst c70
             have H1 : (laws_FnExactWaysPut.j2 kj36 t132 t131 true) = some r := by rw [if_neg (show ¬ (false = true) by decide)] at H; exact H
             clear H
             have H := H1
             clear H1
             have H' := Aside0.mk H
             clear H
             obtain ⟨Ao74, co74, eo74⟩ := Kd.R_slice HO142.out
             subst eo74
             obtain ⟨Ao75, co75, eo75⟩ := Kd.R_slice HO_6.out
             subst eo75
             go_wp2_with (first | ((with_reducible refine gate_callee (f := 44) rfl ?_); refine goesL_ (some 89) rfl rfl Try.func44 (by kernel_rfl) rfl #[.slice Ao74 t140.length co74, .slice Ao75 t109.length co75] rfl (by (try simp only [List.map_toArray, List.map_cons, List.map_nil]); first | done | rfl | (simp only [List.length_drop, List.length_take]; rfl)) ?_; (with_reducible refine (laws_eqWayS.calls kj36 _ _ t140 _ _ t109 false _ ?side1 ?side2 ?side3 ?side4 A69.out).mono ?_); (case side1 => repeat (first | exact (Kd.R_reads' HO142.out).2.2 | (with_reducible refine Kd.C_alloc ?_ _) | (with_reducible refine Kd.C_drewN ?_ _) | (with_reducible refine Kd.C_drew ?_))); (case side2 => exact (Kd.R_reads' HO142.out).2.1); (case side3 => repeat (first | exact (Kd.R_reads' HO_6.out).2.2 | (with_reducible refine Kd.C_alloc ?_ _) | (with_reducible refine Kd.C_drewN ?_ _) | (with_reducible refine Kd.C_drew ?_))); (case side4 => exact (Kd.R_reads' HO_6.out).2.1); rintro e w76 ⟨rfl, hb⟩; refine ⟨_, rfl, ?_⟩; have n0_ := Aside0.mk (Kd.R_below (by (with_reducible repeat (first | apply Kd.R_alloc | apply Kd.R_drewN | apply Kd.R_drew)); exact HO_6.out) hb); have n1_ := Aside0.mk (Kd.R_below (by (with_reducible repeat (first | apply Kd.R_alloc | apply Kd.R_drewN | apply Kd.R_drew)); exact HO_9.out) hb); have n2_ := Aside0.mk (Kd.R_below (by (with_reducible repeat (first | apply Kd.R_alloc | apply Kd.R_drewN | apply Kd.R_drew)); exact HO136.out) hb); have n3_ := Aside0.mk (Kd.R_below (by (with_reducible repeat (first | apply Kd.R_alloc | apply Kd.R_drewN | apply Kd.R_drew)); exact HO142.out) hb); have n4_ := Aside0.mk (blk_below (g := gb101) (o := .cells #[.int .i64 a1_0, .int .i64 a1_1, .int .i64 a1_2] 79 (0, 0)) (by (with_reducible repeat (first | refine blk_drewN ?_ _ | refine blk_drew ?_ | refine blk_alloc ?_ _)); exact BK101.out) hb); have n5_ := Aside0.mk (below_step (by repeat (first | (with_reducible first | exact HB.out | apply below_alloc | apply pw_below_drewN | apply below_drew1 | refine below_set ?_ GE101.out) | exact HB.out)) hb); clear HO_6; clear HO_9; clear HO136; clear HO142; clear BK101; clear HB; have HO_6 := n0_; have HO_9 := n1_; have HO136 := n2_; have HO142 := n3_; have BK101 := n4_; have HB := n5_; clear n0_ n1_ n2_ n3_ n4_ n5_; (try clear hb); (try clear hb2); (try clear hk); (try clear hi)))
             go_meet
             case rel => exact ⟨_, (true), (by first | rfl | (simp; done) | (simp [*]; done)), H', ⟨by have := HJ11.out; have := HJ36.out; first | omega | exact Nat.le_refl _⟩, ⟨by (with_reducible repeat (first | apply Kd.R_alloc | apply Kd.R_drewN | apply Kd.R_drew)); exact Kd.R_mono HO_9.out (fun _ hk => trivial)⟩, ⟨by (with_reducible repeat (first | refine blk_drewN ?_ _ | refine blk_drew ?_ | refine blk_alloc ?_ _)); exact BK101.out⟩, ⟨by repeat (first | (with_reducible first | exact HB.out | apply below_alloc | apply pw_below_drewN | apply below_drew1 | refine below_set ?_ GE101.out) | exact HB.out)⟩⟩
           case rest =>
            clear HC61
            try clear c1
            try clear c2
            try clear p2
            try clear c3
            try clear c4
            try clear c4b0
            try clear c5
            try clear c7
            try clear c12
            try clear c25
            try clear c32
            try clear c35
            try clear c40
            try clear c42
            try clear c42b0
            try clear c44
            try clear c51
            try clear c52
            try clear c53
            try clear c54
            try clear c54b0
            try clear c55
            try clear c56
            try clear c57
            try clear c57b0
            try clear c57b1
            try clear c70
            try clear hcz20_0
            try clear hcz20_1
            try clear hcz20_2
            try clear hfz20_0
            try clear hfz20_1
            try clear hfz20_2
            try clear p2
            obtain ⟨kq, x95_60, rfl, HA, HJ60, HO_9, BK101, HB⟩ := hcut
            have hl9_60 := (Kd.R_reads' HO_9.out).1
            rw [hl9_60] at HO_9
            (try simp only [hl9_60])
            (try simp only [hl9_60] at BK101)
            cases kq with
            | zero => exact absurd HA.out (by simp [laws_FnExactWaysPut.j2])
            | succ kj60 =>
             have H := HA.out
             clear HA
             simp only [laws_FnExactWaysPut.j2] at H
             by_cases c77 : x95_60 = true
             ·subst c77
              have H1 : (some false) = some r := by rw [if_pos rfl] at H; exact H
              clear H
              have H := H1
              clear H1
              obtain rfl := Option.some.inj H
              go_wp2
              go_ret
              exact ⟨by first | rfl | (simp [errW_none, errW_some] <;> rfl) | (simp [*, errW_none, errW_some] <;> rfl), by repeat (first | (with_reducible first | exact HB.out | apply below_alloc | apply pw_below_drewN | apply below_drew1 | refine below_set ?_ GE101.out) | exact HB.out)⟩
             ·replace c77 := Bool.eq_false_iff.mpr c77
              subst c77
              have H1 : ((laws_heldWayS.f kj60 t132 1).bind fun t145 => (if t145 < 0 then (some false) else (if t145 = t131 then (some true) else (some false)))) = some r := by rw [if_neg (show ¬ (false = true) by decide)] at H; exact H
              clear H
              have H := H1
              clear H1
              replace H := Option.bind_eq_some_iff.mp H
              obtain ⟨t145, A780, H⟩ := H
              replace H : (if t145 < 0 then (some false) else (if t145 = t131 then (some true) else (some false))) = some r := H
              have A78 := Aside0.mk A780
              clear A780
              by_cases c79 : t145 < 0
              ·rw [if_pos c79] at H
               have c79b0 : decide (t145 < 0) = true := decide_eq_true c79
               clear c79
               obtain rfl := Option.some.inj H
               go_wp2_with (first | ((with_reducible refine gate_callee (f := 53) rfl ?_); refine goesL_ (some 98) rfl rfl Try.func53 (by kernel_rfl) rfl #[.slice Ao62 t132.length co62, .int .i64 1] rfl (by (try simp only [List.map_toArray, List.map_cons, List.map_nil]); first | done | rfl | (simp only [List.length_drop, List.length_take]; rfl)) ?_; (with_reducible refine (laws_heldWayS.calls kj60 _ _ t132 1 t145 _ ?side1 ?side2 A78.out).mono ?_); (case side1 => repeat (first | exact (Kd.R_reads' HO_9.out).2.2 | (with_reducible refine Kd.C_alloc ?_ _) | (with_reducible refine Kd.C_drewN ?_ _) | (with_reducible refine Kd.C_drew ?_))); (case side2 => exact (Kd.R_reads' HO_9.out).2.1); rintro e w' ⟨rfl, ⟨nd, rfl⟩⟩; refine ⟨_, rfl, ?_⟩))
               go_ret
               exact ⟨by first | rfl | (simp [errW_none, errW_some] <;> rfl) | (simp [*, errW_none, errW_some] <;> rfl), by repeat (first | (with_reducible first | exact HB.out | apply below_alloc | apply pw_below_drewN | apply below_drew1 | refine below_set ?_ GE101.out) | exact HB.out)⟩
              ·rw [if_neg c79] at H
               have c79b0 : decide (t145 < 0) = false := decide_eq_false c79
               clear c79
               by_cases c80 : t145 = t131
               ·rw [if_pos c80] at H
                have c80b0 : (t145 == t131) = true := beq_iff_eq.mpr c80
                have c80b1 : (t145 != t131) = false := bne_eq_false_iff_eq.mpr c80
                clear c80
                obtain rfl := Option.some.inj H
                go_wp2_with (first | ((with_reducible refine gate_callee (f := 53) rfl ?_); refine goesL_ (some 98) rfl rfl Try.func53 (by kernel_rfl) rfl #[.slice Ao62 t132.length co62, .int .i64 1] rfl (by (try simp only [List.map_toArray, List.map_cons, List.map_nil]); first | done | rfl | (simp only [List.length_drop, List.length_take]; rfl)) ?_; (with_reducible refine (laws_heldWayS.calls kj60 _ _ t132 1 t145 _ ?side1 ?side2 A78.out).mono ?_); (case side1 => repeat (first | exact (Kd.R_reads' HO_9.out).2.2 | (with_reducible refine Kd.C_alloc ?_ _) | (with_reducible refine Kd.C_drewN ?_ _) | (with_reducible refine Kd.C_drew ?_))); (case side2 => exact (Kd.R_reads' HO_9.out).2.1); rintro e w' ⟨rfl, ⟨nd, rfl⟩⟩; refine ⟨_, rfl, ?_⟩))
                go_ret
                exact ⟨by first | rfl | (simp [errW_none, errW_some] <;> rfl) | (simp [*, errW_none, errW_some] <;> rfl), by repeat (first | (with_reducible first | exact HB.out | apply below_alloc | apply pw_below_drewN | apply below_drew1 | refine below_set ?_ GE101.out) | exact HB.out)⟩
               ·rw [if_neg c80] at H
                have c80b0 : (t145 == t131) = false := beq_eq_false_iff_ne.mpr c80
                have c80b1 : (t145 != t131) = true := bne_iff_ne.mpr c80
                obtain rfl := Option.some.inj H
                go_wp2_with (first | ((with_reducible refine gate_callee (f := 53) rfl ?_); refine goesL_ (some 98) rfl rfl Try.func53 (by kernel_rfl) rfl #[.slice Ao62 t132.length co62, .int .i64 1] rfl (by (try simp only [List.map_toArray, List.map_cons, List.map_nil]); first | done | rfl | (simp only [List.length_drop, List.length_take]; rfl)) ?_; (with_reducible refine (laws_heldWayS.calls kj60 _ _ t132 1 t145 _ ?side1 ?side2 A78.out).mono ?_); (case side1 => repeat (first | exact (Kd.R_reads' HO_9.out).2.2 | (with_reducible refine Kd.C_alloc ?_ _) | (with_reducible refine Kd.C_drewN ?_ _) | (with_reducible refine Kd.C_drew ?_))); (case side2 => exact (Kd.R_reads' HO_9.out).2.1); rintro e w' ⟨rfl, ⟨nd, rfl⟩⟩; refine ⟨_, rfl, ?_⟩))
                go_ret
                exact ⟨by first | rfl | (simp [errW_none, errW_some] <;> rfl) | (simp [*, errW_none, errW_some] <;> rfl), by repeat (first | (with_reducible first | exact HB.out | apply below_alloc | apply pw_below_drewN | apply below_drew1 | refine below_set ?_ GE101.out) | exact HB.out)⟩
          ·rw [if_neg c57] at H
           have c57b0 : (t133 == t131) = false := beq_eq_false_iff_ne.mpr c57
           have c57b1 : (t133 != t131) = true := bne_iff_ne.mpr c57
           obtain rfl := Option.some.inj H
           obtain ⟨Ao81, co81, eo81⟩ := Kd.R_slice HO_9.out
           subst eo81
           go_wp2_with (first | ((with_reducible refine gate_callee (f := 52) rfl ?_); refine goesL_ (some 70) rfl rfl Try.func52 (by kernel_rfl) rfl #[.slice Ao81 t119.length co81, .int .i64 1] rfl (by (try simp only [List.map_toArray, List.map_cons, List.map_nil]); first | done | rfl | (simp only [List.length_drop, List.length_take]; rfl)) ?_; (with_reducible refine (laws_markWayS.calls kj36 (fun k_ => some k_ = (.slice Ao81 t119.length co81 : Value).ownBlock) (.slice Ao81 t119.length co81) t119 1 t131 t132 w _ ?side1 ?side2 A52.out).mono ?_); (case side1 => repeat (first | (with_reducible first | exact HB.out | apply below_alloc | apply pw_below_drewN | apply below_drew1 | refine below_set ?_ GE101.out) | exact HB.out)); (case side2 => exact Kd.R_tight rfl HO_9.out); rintro e w82 ⟨rfl, hy0, hb, hkp⟩; refine ⟨_, rfl, ?_⟩; have n0_ := Aside0.mk (Kd.R_mono (ok' := fun k_ => some k_ ≠ (.slice Ao81 t119.length co81 : Value).ownBlock) (Kd.R_keptB (HO_6.out) hkp (fun k_ hk_ hs_ => (hk_) hs_)) (fun k_ hk_ => hk_.1)); have n1_ := Aside0.mk (Kd.R_reok rfl hy0 (fun k_ e_ => HO_9.out.1 k_ e_)); have n2_ := Aside0.mk (blk_kept (by (with_reducible repeat (first | refine blk_drewN ?_ _ | refine blk_drew ?_ | refine blk_alloc ?_ _)); exact BK101.out) hkp (fun hs_ => (fun e_ => (Kd.R_ne HO_9.out BK101.out (by decide)) e_) hs_)); have n3_ := Aside0.mk (hb); clear HO_6; clear HO_9; clear BK101; clear HB; have HO_6 := n0_; have HO_9 := n1_; have BK101 := n2_; have HB := n3_; clear n0_ n1_ n2_ n3_; (try clear hb); (try clear hkp); (try clear hy0)) | ((with_reducible refine gate_callee (f := 53) rfl ?_); refine goesL_ (some 73) rfl rfl Try.func53 (by kernel_rfl) rfl #[.slice Ao81 t132.length co81, .int .i64 1] rfl (by (try simp only [List.map_toArray, List.map_cons, List.map_nil]); first | done | (rw [show t132.length = t119.length from (Kd.R_reads' HO_9.out).1.symm] <;> rfl) | rfl | (simp only [List.length_drop, List.length_take]; rfl)) ?_; (with_reducible refine (laws_heldWayS.calls kj36 _ _ t132 1 t133 _ ?side1 ?side2 A53.out).mono ?_); (case side1 => repeat (first | exact (Kd.R_reads' HO_9.out).2.2 | (with_reducible refine Kd.C_alloc ?_ _) | (with_reducible refine Kd.C_drewN ?_ _) | (with_reducible refine Kd.C_drew ?_))); (case side2 => rw [show t132.length = t119.length from (Kd.R_reads' HO_9.out).1.symm]; exact (Kd.R_reads' HO_9.out).2.1); rintro e w' ⟨rfl, ⟨nd, rfl⟩⟩; refine ⟨_, rfl, ?_⟩))
           go_ret
           exact ⟨by first | rfl | (simp [errW_none, errW_some] <;> rfl) | (simp [*, errW_none, errW_some] <;> rfl), by repeat (first | (with_reducible first | exact HB.out | apply below_alloc | apply pw_below_drewN | apply below_drew1 | refine below_set ?_ GE101.out) | exact HB.out)⟩
     ·replace c35 := Bool.eq_false_iff.mpr c35
      subst c35
      have H1 : (some false) = some r := by rw [if_neg (show ¬ (false = true) by decide)] at H; exact H
      clear H
      have H := H1
      clear H1
      obtain rfl := Option.some.inj H
      go_wp2_with (first | ((with_reducible refine gate_callee (f := 42) rfl ?_); refine goesL_ (some 49) rfl rfl Try.func42 (by kernel_rfl) rfl #[.slice A0 l0.length c0] rfl (by (try simp only [List.map_toArray, List.map_cons, List.map_nil]); first | done | rfl | (simp only [List.length_drop, List.length_take]; rfl)) ?_; (with_reducible refine (laws_toWayS.calls kj11 _ _ l0 t124 _ ?side1 ?side2 A33.out).mono ?_); (case side1 => repeat (first | exact (Kd.C_below HR0.out HB.out) | (with_reducible refine Kd.C_alloc ?_ _) | (with_reducible refine Kd.C_drewN ?_ _) | (with_reducible refine Kd.C_drew ?_))); (case side2 => exact HC0.out); rintro e w83 ⟨v125, rfl, ho0, hb⟩; refine ⟨_, rfl, ?_⟩; have n0_ := Aside0.mk (Kd.R_elder' (by (with_reducible repeat (first | apply Kd.R_alloc | apply Kd.R_drewN | apply Kd.R_drew)); exact HO_6.out) (Kd.R_base ho0) hb); have n1_ := Aside0.mk (Kd.R_elder' (by (with_reducible repeat (first | apply Kd.R_alloc | apply Kd.R_drewN | apply Kd.R_drew)); exact HO_8.out) (Kd.R_base ho0) hb); have n2_ := Aside0.mk (Kd.R_elder' (by (with_reducible repeat (first | apply Kd.R_alloc | apply Kd.R_drewN | apply Kd.R_drew)); exact HO_9.out) (Kd.R_base ho0) hb); have n3_ := Aside0.mk (Kd.R_lower (Kd.R_new' (Kd.R_new' (Kd.R_new' ho0 (Kd.R_lt (by (with_reducible repeat (first | apply Kd.R_alloc | apply Kd.R_drewN | apply Kd.R_drew)); exact HO_6.out))) (Kd.R_lt (by (with_reducible repeat (first | apply Kd.R_alloc | apply Kd.R_drewN | apply Kd.R_drew)); exact HO_8.out))) (Kd.R_lt (by (with_reducible repeat (first | apply Kd.R_alloc | apply Kd.R_drewN | apply Kd.R_drew)); exact HO_9.out))) (below_size (by repeat (first | (with_reducible first | exact HB.out | apply below_alloc | apply pw_below_drewN | apply below_drew1 | refine below_set ?_ GE101.out) | exact HB.out)))); have n4_ := Aside0.mk (blk_below (g := gb101) (o := .cells #[.int .i64 a1_0, .int .i64 a1_1, .int .i64 a1_2] 79 (0, 0)) (by (with_reducible repeat (first | refine blk_drewN ?_ _ | refine blk_drew ?_ | refine blk_alloc ?_ _)); exact BK101.out) hb); have n5_ := Aside0.mk (below_step (by repeat (first | (with_reducible first | exact HB.out | apply below_alloc | apply pw_below_drewN | apply below_drew1 | refine below_set ?_ GE101.out) | exact HB.out)) hb); clear HO_6; clear HO_8; clear HO_9; clear BK101; clear HB; have HO_6 := n0_; have HO_8 := n1_; have HO_9 := n2_; have HO126 := n3_; have BK101 := n4_; have HB := n5_; clear n0_ n1_ n2_ n3_ n4_ n5_; (try clear hb); (try clear hb2); (try clear hk); (try clear hi); (try clear ho0); obtain ⟨Ao84, co84, eo84⟩ := Kd.R_slice HO126.out; subst eo84) | ((with_reducible refine gate_callee (f := 44) rfl ?_); refine goesL_ (some 50) rfl rfl Try.func44 (by kernel_rfl) rfl #[.slice Ao22 t113.length co22, .slice Ao84 t124.length co84] rfl (by (try simp only [List.map_toArray, List.map_cons, List.map_nil]); first | done | rfl | (simp only [List.length_drop, List.length_take]; rfl)) ?_; (with_reducible refine (laws_eqWayS.calls kj11 _ _ t113 _ _ t124 false _ ?side1 ?side2 ?side3 ?side4 A34.out).mono ?_); (case side1 => repeat (first | exact (Kd.R_reads' HO_8.out).2.2 | (with_reducible refine Kd.C_alloc ?_ _) | (with_reducible refine Kd.C_drewN ?_ _) | (with_reducible refine Kd.C_drew ?_))); (case side2 => exact (Kd.R_reads' HO_8.out).2.1); (case side3 => repeat (first | exact (Kd.R_reads' HO126.out).2.2 | (with_reducible refine Kd.C_alloc ?_ _) | (with_reducible refine Kd.C_drewN ?_ _) | (with_reducible refine Kd.C_drew ?_))); (case side4 => exact (Kd.R_reads' HO126.out).2.1); rintro e w85 ⟨rfl, hb⟩; refine ⟨_, rfl, ?_⟩; have n0_ := Aside0.mk (Kd.R_below (by (with_reducible repeat (first | apply Kd.R_alloc | apply Kd.R_drewN | apply Kd.R_drew)); exact HO_6.out) hb); have n1_ := Aside0.mk (Kd.R_below (by (with_reducible repeat (first | apply Kd.R_alloc | apply Kd.R_drewN | apply Kd.R_drew)); exact HO_8.out) hb); have n2_ := Aside0.mk (Kd.R_below (by (with_reducible repeat (first | apply Kd.R_alloc | apply Kd.R_drewN | apply Kd.R_drew)); exact HO_9.out) hb); have n3_ := Aside0.mk (Kd.R_below (by (with_reducible repeat (first | apply Kd.R_alloc | apply Kd.R_drewN | apply Kd.R_drew)); exact HO126.out) hb); have n4_ := Aside0.mk (blk_below (g := gb101) (o := .cells #[.int .i64 a1_0, .int .i64 a1_1, .int .i64 a1_2] 79 (0, 0)) (by (with_reducible repeat (first | refine blk_drewN ?_ _ | refine blk_drew ?_ | refine blk_alloc ?_ _)); exact BK101.out) hb); have n5_ := Aside0.mk (below_step (by repeat (first | (with_reducible first | exact HB.out | apply below_alloc | apply pw_below_drewN | apply below_drew1 | refine below_set ?_ GE101.out) | exact HB.out)) hb); clear HO_6; clear HO_8; clear HO_9; clear HO126; clear BK101; clear HB; have HO_6 := n0_; have HO_8 := n1_; have HO_9 := n2_; have HO126 := n3_; have BK101 := n4_; have HB := n5_; clear n0_ n1_ n2_ n3_ n4_ n5_; (try clear hb); (try clear hb2); (try clear hk); (try clear hi)))
      go_ret
      exact ⟨by first | rfl | (simp [errW_none, errW_some] <;> rfl) | (simp [*, errW_none, errW_some] <;> rfl), by repeat (first | (with_reducible first | exact HB.out | apply below_alloc | apply pw_below_drewN | apply below_drew1 | refine below_set ?_ GE101.out) | exact HB.out)⟩
end Go.Proofs.Ytbhgkpfbggkgdaa.Q

namespace Go.Proofs.Ytbhgkpfbggkgdaa.Open
open Go.RowKit Go.ChangeShapes Go.WideShapes Go.Deep Go.Proofs.YtbhgkpfbggkgdaaW.PrintWords
/-- A number is an int of 64 bits. -/
def I64 (n : Int) : Prop := -9223372036854775808 ≤ n ∧ n ≤ 9223372036854775807
/-- What the cells of a type say. -/
def Opens (P : Program) (w : World) (t : TypeId) {α : Type} (d : Kd α) (p : α → Prop) : Prop :=
 ∀ (H : Type) (enc : TypeId × Value → H) (base : Nat) (spare : Nat → Bool) (held : Bool) (fuel : Nat) (cs : List Value) (x : DataW H × List MemPlace),
  DataW.trod enc P w base spare held fuel t cs = some x → ∃ a, d.K w a cs ∧ p a
theorem i64_of {n : Int} (h : (Lit.int .i64 n).wf = true) : I64 n := by
 simp only [Lit.wf, Bool.and_eq_true, decide_eq_true_eq] at h
 exact ⟨h.1, h.2⟩
theorem opens_i64 {P : Program} {w : World} {t : TypeId} (ht : P.underlying t = some (.int .i64)) : Opens P w t (Kd.int .i64) (fun n => I64 n) := by
 intro H enc base spare held fuel cs x h
 obtain ⟨n, rfl, _, hw⟩ := DataW.trod_int ht h
 exact ⟨n, rfl, i64_of hw⟩
theorem pick {α : Type} (n : Nat) (R : Nat → α → Prop) (h : ∀ i, i < n → ∃ a, R i a) : ∃ xs : List α, xs.length = n ∧ ∀ i a, xs[i]? = some a → R i a := by
 induction n with
 | zero => exact ⟨[], rfl, fun i a e => by simp at e⟩
 | succ n ih =>
  obtain ⟨xs, hl, hx⟩ := ih (fun i hi => h i (by omega))
  obtain ⟨a, ha⟩ := h n (by omega)
  refine ⟨xs ++ [a], by simp [hl], fun i b e => ?_⟩
  rcases Nat.lt_or_ge i xs.length with hi | hi
  ·rw [List.getElem?_append_left hi] at e
   exact hx i b e
  ·have hlt := (List.getElem?_eq_some_iff.1 e).1
   rw [List.length_append, List.length_singleton] at hlt
   obtain rfl : i = xs.length := by omega
   simp at e
   subst e
   rw [hl]
   exact ha
theorem opens_slice {P : Program} {w : World} {t e : TypeId} {α : Type} {d : Kd α} {p : α → Prop} (ht : P.underlying t = some (.slice e)) (hc : P.cellsOf e = d.sz) (he : Opens P w e d p) :
  Opens P w t (Kd.slice e d) (fun xs => xs.length ≤ 9223372036854775807 ∧ ∀ y ∈ xs, p y) := by
 intro H enc base spare held fuel cs x h
 rcases open_slice ht h with ⟨rfl, _⟩ | ⟨a, len, cap, m, n, D, Pl, rfl, _, hl, hm, hmm, _, hi⟩
 ·exact ⟨[], ⟨none, 0, rfl, by simp, by simp, by simp, fun hn => by simp at hn⟩, by simp, by simp⟩
 ·have hle : len ≤ m := by rw [hmm]; split <;> omega
  obtain ⟨xs, hxl, hx⟩ := pick len (fun i y => p y ∧ ∃ c, c.length = d.sz ∧ d.K w y c ∧ ∀ j u, c[j]? = some u → w.cell? (a.add (i * d.sz + j)) = some u) (fun i hil => by
   obtain ⟨cs', h1, h2⟩ := hi i (by omega)
   obtain ⟨y, hK, hp⟩ := he _ _ _ _ _ _ _ _ h2
   obtain ⟨_, hcl, hat⟩ := World.cells?_some h1
   rw [hc] at hcl hat
   refine ⟨y, hp, cs', hcl, hK, fun j u hu => ?_⟩
   have hj := (List.getElem?_eq_some_iff.1 hu).1
   rw [← Go.Deep.add_add, hat j (by omega), hu])
  have hmx : maxLen = 9223372036854775807 := rfl
  refine ⟨xs, ⟨some a, cap, by rw [hxl], by omega, ?_⟩, by omega, fun y hy => ?_⟩
  ·refine ⟨rfl, by omega, fun _ => ⟨a, rfl, fun j q hj => ?_⟩⟩
   obtain ⟨_, c, h1, h2, h3⟩ := hx j q hj
   exact ⟨c, h1, h2, h3⟩
  ·obtain ⟨i, hi2⟩ := List.getElem?_of_mem hy
   exact (hx i y hi2).1
theorem open_fields {H : Type} {enc : TypeId × Value → H} {P : Program} {w : World} {base : Nat} {spare : Nat → Bool} {held : Bool} {t : TypeId} {fs : Array Field} {fuel m : Nat} {cs : List Value} {x : DataW H × List MemPlace}
  (ht : P.underlying t = some (.struct fs)) (hm : P.cellsOf t = m) (h : DataW.trod enc P w base spare held fuel t cs = some x) :
  ∃ (n : Nat), cs.length = m ∧ ∀ (i : Nat) (f : Field), fs[i]? = some f → ∃ y, DataW.trod enc P w base spare held n f.type ((cs.drop f.offset).take (P.cellsOf f.type)) = some y := by
 obtain ⟨xs, n, _, _, hl, hlen, hf⟩ := DataW.trod_struct ht h
 refine ⟨n, by rw [hl, hm], fun i f hi => ?_⟩
 have hlt : i < xs.length := by rw [hlen]; exact (Array.getElem?_eq_some_iff.1 hi).1
 exact ⟨xs[i], by rw [hf i f hi, List.getElem?_eq_getElem hlt]⟩
theorem field_opens {H : Type} {enc : TypeId × Value → H} {P : Program} {w : World} {base : Nat} {spare : Nat → Bool} {held : Bool} {t : TypeId} {α : Type} {d : Kd α} {p : α → Prop} {n o s i : Nat} {cs : List Value} {fs : Array Field} {f : Field} (he : Opens P w t d p)
  (hf : ∀ (i : Nat) (f : Field), fs[i]? = some f → ∃ y, DataW.trod enc P w base spare held n f.type ((cs.drop f.offset).take (P.cellsOf f.type)) = some y)
  (hi : fs[i]? = some f) (ht : f.type = t) (ho : f.offset = o) (hs : P.cellsOf t = s) : ∃ a, d.K w a ((cs.drop o).take s) ∧ p a := by
 obtain ⟨y, hy⟩ := hf i f hi
 subst ht ho hs
 exact he _ _ _ _ _ _ _ _ hy
theorem split_piece (cs : List Value) (o s : Nat) : cs.drop o = (cs.drop o).take s ++ cs.drop (o + s) := by
 rw [← List.drop_drop]
 exact (List.take_append_drop s _).symm
theorem last_piece {α : Type} {d : Kd α} {w : World} {x : α} {cs : List Value} {o s : Nat} (hl : cs.length = o + s) (h : d.K w x ((cs.drop o).take s)) : d.K w x (cs.drop o) := by
 rwa [List.take_of_length_le (by rw [List.length_drop]; omega)] at h
theorem open_arg {H : Type} {enc : TypeId × Value → H} {P : Program} {w : World} {base : Nat} {spare : Nat → Bool} {held : Bool} {t : TypeId} {α : Type} {d : Kd α} {p : α → Prop} {v : Value} {dt : DataW H} {ps : List MemPlace} (he : Opens P w t d p)
  (h : DataW.Trod enc P w base spare held t v dt ps) : ∃ a, d.K w a v.cells.toList ∧ p a := by
 obtain ⟨fuel, hf⟩ := h
 exact he _ _ _ _ _ _ _ _ hf
theorem agg_of_cells {cs : Array Value} {l : List Value} (h : (Value.agg cs).cells.toList = l) : cs = l.toArray := by
 simp only [Value.cells] at h
 exact Array.ext' (by simpa using h)
theorem slice_of_cells {a A : Option Addr} {len cap n c : Nat} (h : (Value.slice a len cap).cells.toList = [.slice A n c]) : A = a ∧ len = n ∧ c = cap := by
 simp only [Value.cells, List.cons.injEq, Value.slice.injEq, and_true] at h
 exact ⟨h.1.symm, h.2.1, h.2.2.symm⟩
end Go.Proofs.Ytbhgkpfbggkgdaa.Open

namespace Go.Proofs.Ytbhgkpfbggkgdaa.Q
open Go.RowKit Go.Proofs.YtbhgkpfbggkgdaaW.PrintWords Go.Proofs.Ytbhgkpfbggkgdaa.Open
theorem op3 (w : World) : Opens Try.prog w 3 (Kd.int .i64) (fun x => Open.I64 x) := opens_i64 Try.underlying3
def wf23 (x : S23) : Prop := Open.I64 x.f0 ∧ Open.I64 x.f1
theorem op23 (w : World) : Opens Try.prog w 23 k23 wf23 := by
 intro H enc base spare held fuel cs x h
 obtain ⟨n, hlen, hf⟩ := open_fields Try.underlying23 (m := 2) (by kernel_rfl) h
 obtain ⟨a0, K0, p0⟩ := field_opens (i := 0) (o := 0) (s := 1) (op3 w) hf rfl rfl rfl (by kernel_rfl)
 obtain ⟨a1, K1, p1⟩ := field_opens (i := 1) (o := 1) (s := 1) (op3 w) hf rfl rfl rfl (by kernel_rfl)
 refine ⟨⟨a0, a1⟩, ?_, p0, p1⟩
 exact ⟨_, _, split_piece cs 0 1, K0, (last_piece (o := 1) (s := 1) (by rw [hlen]) K1)⟩
def wf79 (x : S79) : Prop := wf23 x.f0 ∧ Open.I64 x.f1
theorem op79 (w : World) : Opens Try.prog w 79 k79 wf79 := by
 intro H enc base spare held fuel cs x h
 obtain ⟨n, hlen, hf⟩ := open_fields Try.underlying79 (m := 3) (by kernel_rfl) h
 obtain ⟨a0, K0, p0⟩ := field_opens (i := 0) (o := 0) (s := 2) (op23 w) hf rfl rfl rfl (by kernel_rfl)
 obtain ⟨a1, K1, p1⟩ := field_opens (i := 1) (o := 2) (s := 1) (op3 w) hf rfl rfl rfl (by kernel_rfl)
 refine ⟨⟨a0, a1⟩, ?_, p0, p1⟩
 exact ⟨_, _, split_piece cs 0 2, K0, (last_piece (o := 2) (s := 1) (by rw [hlen]) K1)⟩
theorem op59 (w : World) : Opens Try.prog w 59 (Kd.slice 79 k79) (fun x => (x.length ≤ 9223372036854775807 ∧ ∀ y ∈ x, wf79 y)) := opens_slice Try.underlying59 (by kernel_rfl) (op79 w)
end Go.Proofs.Ytbhgkpfbggkgdaa.Q

namespace Go.Proofs.Ytbhgkpfbggkgdaa.Q
open Go.Proofs.Ytbhgkpfbggkgdaa.Open
/-- The pure statement of laws_FnExactWaysPut. -/
def laws_FnExactWaysPut.Pure : Prop := ∀ (x0 : List (S79)) (x1 : S79), ((x0.length ≤ 9223372036854775807 ∧ ∀ y ∈ x0, wf79 y)) → (wf79 x1) → ∃ k, laws_FnExactWaysPut.f k x0 x1.f0.f0 x1.f0.f1 x1.f1 = some true
end Go.Proofs.Ytbhgkpfbggkgdaa.Q

namespace Go.Proofs.Ytbhgkpfbggkgdaa.Pure
open Go.RowKit
theorem w64 {x : Int} (h : -9223372036854775808 ≤ x) (h' : x ≤ 9223372036854775807) : wrap64 x = x := by
 unfold wrap64
 omega
/-- A loop that fills a list out of another one, element by element. -/
theorem fill_loop {α β : Type} (l0 : Nat → List α → List β → Int → Option (List β)) (f : α → β) (d : α) (xs : List α)
  (hstep : ∀ (k i : Nat) (ys : List β), i < xs.length → ys.length = xs.length → l0 (k + 1) xs ys (i : Int) = l0 k xs (ys.set i (f (xs.getD i d))) ((i + 1 : Nat) : Int))
  (hend : ∀ (k : Nat) (ys : List β), l0 (k + 1) xs ys (xs.length : Int) = some ys) :
  ∀ (k : Nat) (ys : List β), xs.length < k → ys.length = xs.length → l0 k xs ys 0 = some (xs.map f) := by
 have key : ∀ (e k i : Nat) (ys : List β), xs.length - i = e → e < k → i ≤ xs.length → ys.length = xs.length → (∀ j, j < i → ys[j]? = (xs.map f)[j]?) → l0 k xs ys (i : Int) = some (xs.map f) := by
  intro e
  induction e with
  | zero =>
   intro k i ys he hk hi hl hy
   obtain ⟨k, rfl⟩ : ∃ m, k = m + 1 := ⟨k - 1, by omega⟩
   obtain rfl : i = xs.length := by omega
   rw [hend]
   congr 1
   apply List.ext_getElem?
   intro j
   by_cases h : j < xs.length
   ·exact hy j h
   ·rw [List.getElem?_eq_none (by omega), List.getElem?_eq_none (by rw [List.length_map]; omega)]
  | succ e ih =>
   intro k i ys he hk hi hl hy
   obtain ⟨k, rfl⟩ : ∃ m, k = m + 1 := ⟨k - 1, by omega⟩
   have hlt : i < xs.length := by omega
   rw [hstep k i ys hlt hl]
   refine ih k (i + 1) _ (by omega) (by omega) (by omega) (by rw [List.length_set, hl]) (fun j hj => ?_)
   rw [List.getElem?_set]
   by_cases h : i = j
   ·subst h
    rw [if_pos rfl, if_pos (by omega), List.getElem?_map, List.getElem?_eq_getElem hlt, List.getD_eq_getElem?_getD, List.getElem?_eq_getElem hlt]
    rfl
   ·rw [if_neg h]
    exact hy j (by omega)
 intro k ys hk hl
 exact key xs.length k 0 ys (by omega) hk (by omega) hl (fun j hj => by omega)
/-- A loop that goes on at each place. -/
theorem true_loop {β : Type} (l0 : Nat → Int → Option β) (n K : Nat) (r : β) (hstep : ∀ k i : Nat, i < n → K ≤ k → l0 (k + 1) (i : Int) = l0 k ((i + 1 : Nat) : Int)) (hend : ∀ k : Nat, K ≤ k → l0 (k + 1) (n : Int) = some r) :
  ∀ k, n + K < k → l0 k 0 = some r := by
 have key : ∀ (e k i : Nat), n - i = e → e + K < k → i ≤ n → l0 k (i : Int) = some r := by
  intro e
  induction e with
  | zero =>
   intro k i he hk hi
   obtain ⟨k, rfl⟩ : ∃ m, k = m + 1 := ⟨k - 1, by omega⟩
   obtain rfl : i = n := by omega
   exact hend k (by omega)
  | succ e ih =>
   intro k i he hk hi
   obtain ⟨k, rfl⟩ : ∃ m, k = m + 1 := ⟨k - 1, by omega⟩
   rw [hstep k i (by omega) (by omega)]
   exact ih k (i + 1) (by omega) (by omega) (by omega)
 intro k hk
 exact key n k 0 (by omega) (by omega) (by omega)
/-- A loop that leaves at the first place that isn't good. -/
theorem scan_loop {β : Type} (l0 : Nat → Int → Option β) (n K : Nat) (good : Nat → Bool) (bad fin : β)
  (hgood : ∀ k i : Nat, i < n → K ≤ k → (∀ j, j < i → good j = true) → good i = true → l0 (k + 1) (i : Int) = l0 k ((i + 1 : Nat) : Int))
  (hbad : ∀ k i : Nat, i < n → K ≤ k → (∀ j, j < i → good j = true) → good i = false → l0 (k + 1) (i : Int) = some bad)
  (hend : ∀ k : Nat, K ≤ k → l0 (k + 1) (n : Int) = some fin) :
  ∀ k, n + K < k → l0 k 0 = some (if (List.range n).all good then fin else bad) := by
 have key : ∀ (e k i : Nat), n - i = e → e + K < k → i ≤ n → (∀ j, j < i → good j = true) → l0 k (i : Int) = some (if (List.range n).all good then fin else bad) := by
  intro e
  induction e with
  | zero =>
   intro k i he hk hi hg
   obtain ⟨k, rfl⟩ : ∃ m, k = m + 1 := ⟨k - 1, by omega⟩
   obtain rfl : i = n := by omega
   rw [hend k (by omega), if_pos]
   rw [List.all_eq_true]
   exact fun x hx => hg x (List.mem_range.1 hx)
  | succ e ih =>
   intro k i he hk hi hg
   obtain ⟨k, rfl⟩ : ∃ m, k = m + 1 := ⟨k - 1, by omega⟩
   cases hc : good i with
   | true =>
    rw [hgood k i (by omega) (by omega) hg hc]
    refine ih k (i + 1) (by omega) (by omega) (by omega) (fun j hj => ?_)
    by_cases h : j = i
    ·rw [h]; exact hc
    ·exact hg j (by omega)
   | false =>
    rw [hbad k i (by omega) (by omega) hg hc, if_neg]
    rw [List.all_eq_true]
    intro h
    have := h i (List.mem_range.2 (by omega))
    rw [hc] at this
    exact absurd this (by simp)
 intro k hk
 exact key n k 0 (by omega) (by omega) (by omega) (fun j hj => by omega)
/-- A list of marks. -/
def marks {α : Type} (m : Int → α) (s v : Int) (n : Nat) : List α := (List.range n).map fun (j : Nat) => m (v + s * (j : Int))
theorem marks_length {α : Type} (m : Int → α) (s v : Int) (n : Nat) : (marks m s v n).length = n := by simp [marks]
theorem marks_get {α : Type} (m : Int → α) (s v : Int) (n i : Nat) (h : i < n) : (marks m s v n)[i]? = some (m (v + s * i)) := by
 simp [marks, h]
/-- A loop that writes marks. -/
theorem mark_loop {α : Type} (l0 : Nat → List α → Int → Int → Option (Int × List α)) (m : Int → α) (s : Int) (hs : 0 ≤ s)
  (hstep : ∀ (k i : Nat) (xs : List α) (v : Int), i < xs.length → xs.length ≤ 35184372088832 → 1 ≤ v → v ≤ 1000000000000000000 → l0 (k + 1) xs v (i : Int) = l0 k (xs.set i (m v)) (v + s) ((i + 1 : Nat) : Int))
  (hend : ∀ (k : Nat) (xs : List α) (v : Int), l0 (k + 1) xs v (xs.length : Int) = some (v, xs)) (xs : List α) (hx : xs.length ≤ 35184372088832) (v : Int) (hv : 1 ≤ v) (hb : v + s * xs.length ≤ 1000000000000000000) :
  ∀ k, xs.length < k → l0 k xs v 0 = some (v + s * xs.length, marks m s v xs.length) := by
 have key : ∀ (e k i : Nat) (ys : List α), xs.length - i = e → e < k → i ≤ xs.length → ys.length = xs.length → (∀ j, j < i → ys[j]? = (marks m s v xs.length)[j]?) →
   l0 k ys (v + s * i) (i : Int) = some (v + s * xs.length, marks m s v xs.length) := by
  intro e
  induction e with
  | zero =>
   intro k i ys he hk hi hl hy
   obtain ⟨k, rfl⟩ : ∃ m, k = m + 1 := ⟨k - 1, by omega⟩
   obtain rfl : i = xs.length := by omega
   have h1 := hend k ys (v + s * (xs.length : Int))
   rw [hl] at h1
   rw [h1]
   congr 2
   apply List.ext_getElem?
   intro j
   by_cases h : j < xs.length
   ·exact hy j h
   ·rw [List.getElem?_eq_none (by omega), List.getElem?_eq_none (by rw [marks_length]; omega)]
  | succ e ih =>
   intro k i ys he hk hi hl hy
   obtain ⟨k, rfl⟩ : ∃ m, k = m + 1 := ⟨k - 1, by omega⟩
   have hlt : i < xs.length := by omega
   have h1 : s * (i : Int) ≤ s * (xs.length : Int) := Int.mul_le_mul_of_nonneg_left (by omega) hs
   have h2 : 0 ≤ s * (i : Int) := Int.mul_nonneg hs (by omega)
   rw [hstep k i ys (v + s * i) (by omega) (by omega) (by omega) (by omega), show v + s * (i : Int) + s = v + s * ((i + 1 : Nat) : Int) by rw [show ((i + 1 : Nat) : Int) = (i : Int) + 1 by omega, Int.mul_add]; omega]
   refine ih k (i + 1) _ (by omega) (by omega) (by omega) (by rw [List.length_set, hl]) (fun j hj => ?_)
   rw [List.getElem?_set]
   by_cases h : i = j
   ·subst h
    rw [if_pos rfl, if_pos (by omega), marks_get _ _ _ _ _ hlt]
   ·rw [if_neg h]
    exact hy j (by omega)
 intro k hk
 have := key xs.length k 0 xs (by omega) hk (by omega) rfl (fun j hj => by omega)
 rwa [show v + s * ((0 : Nat) : Int) = v by simp] at this
/-- A loop that reads marks. -/
theorem held_loop {α : Type} (l0 : Nat → List α → Int → Int → Option Int) (m : Int → α) (s : Int) (hs : 0 ≤ s)
  (hstep : ∀ (k i : Nat) (xs : List α) (v : Int), i < xs.length → xs.length ≤ 35184372088832 → 1 ≤ v → v ≤ 1000000000000000000 → xs[i]? = some (m v) → l0 (k + 1) xs v (i : Int) = l0 k xs (v + s) ((i + 1 : Nat) : Int))
  (hend : ∀ (k : Nat) (xs : List α) (v : Int), l0 (k + 1) xs v (xs.length : Int) = some v) (n : Nat) (hx : n ≤ 35184372088832) (v : Int) (hv : 1 ≤ v) (hb : v + s * n ≤ 1000000000000000000) :
  ∀ k, n < k → l0 k (marks m s v n) v 0 = some (v + s * n) := by
 have key : ∀ (e k i : Nat), n - i = e → e < k → i ≤ n → l0 k (marks m s v n) (v + s * i) (i : Int) = some (v + s * n) := by
  intro e
  induction e with
  | zero =>
   intro k i he hk hi
   obtain ⟨k, rfl⟩ : ∃ m, k = m + 1 := ⟨k - 1, by omega⟩
   obtain rfl : i = n := by omega
   have h1 := hend k (marks m s v i) (v + s * (i : Int))
   rw [marks_length] at h1
   exact h1
  | succ e ih =>
   intro k i he hk hi
   obtain ⟨k, rfl⟩ : ∃ m, k = m + 1 := ⟨k - 1, by omega⟩
   have hlt : i < n := by omega
   have h1 : s * (i : Int) ≤ s * (n : Int) := Int.mul_le_mul_of_nonneg_left (by omega) hs
   have h2 : 0 ≤ s * (i : Int) := Int.mul_nonneg hs (by omega)
   rw [hstep k i (marks m s v n) (v + s * i) (by rw [marks_length]; exact hlt) (by rw [marks_length]; exact hx) (by omega) (by omega) (marks_get _ _ _ _ _ hlt), show v + s * (i : Int) + s = v + s * ((i + 1 : Nat) : Int) by rw [show ((i + 1 : Nat) : Int) = (i : Int) + 1 by omega, Int.mul_add]; omega]
   exact ih k (i + 1) (by omega) (by omega) (by omega)
 intro k hk
 have := key n k 0 (by omega) hk (by omega)
 rwa [show v + s * ((0 : Nat) : Int) = v by simp] at this
end Go.Proofs.Ytbhgkpfbggkgdaa.Pure

namespace Go.Proofs.Ytbhgkpfbggkgdaa.Pure
open Go.RowKit Go.Proofs.Ytbhgkpfbggkgdaa.Q Go.Proofs.YtbhgkpfbggkgdaaW.PrintWords Go.Proofs.YtbhgkpfbggkgdaaW.PrintLast Go.Proofs.YtbhgkpfbggkgdaaW.PrintMore
/-- How many addresses a block of b bits has. -/
def sz (b : Int) : Int := 2 ^ (32 - b).toNat
theorem sz_pos (b : Int) : 0 < sz b := Int.pow_pos (by omega)
theorem sz_le {b : Int} (h : 0 ≤ b) : sz b ≤ 4294967296 := by
 have h1 : (32 - b).toNat ≤ 32 := by omega
 have h2 : (2 : Nat) ^ (32 - b).toNat ≤ 2 ^ 32 := Nat.pow_le_pow_right (by omega) h1
 have h3 : ((2 : Nat) ^ (32 - b).toNat : Nat) ≤ 4294967296 := by simpa using h2
 unfold sz
 have h4 : ((2 ^ (32 - b).toNat : Nat) : Int) = (2 : Int) ^ (32 - b).toNat := by norm_cast
 omega
theorem in_spec (a lo hi : Int) : spec_l1In.f a lo hi = some (decide (lo ≤ a ∧ a ≤ hi)) := by
 unfold spec_l1In.f
 by_cases h : a ≥ lo
 ·rw [if_pos h]; simp [show lo ≤ a from h]
 ·rw [if_neg h]; simp [show ¬ lo ≤ a from h]
theorem in_impl (a lo hi : Int) : impl_in.f a lo hi = some (decide (lo ≤ a ∧ a ≤ hi)) := by
 unfold impl_in.f
 by_cases h : a ≥ lo
 ·rw [if_pos h]; simp [show lo ≤ a from h]
 ·rw [if_neg h]; simp [show ¬ lo ≤ a from h]
theorem addr_spec (a : Int) : spec_l1Addr.f a = some (decide (0 ≤ a ∧ a ≤ 4294967295)) := by
 unfold spec_l1Addr.f
 rw [in_spec]
 rfl
theorem addr_impl (a : Int) : impl_isAddr.f a = some (decide (0 ≤ a ∧ a ≤ 4294967295)) := by
 unfold impl_isAddr.f
 rw [in_impl]
 rfl
theorem two_ev : ∀ (m k : Nat) (x : Int), m < k → 0 ≤ x → x * 2 ^ m ≤ 9223372036854775807 → m ≤ 62 → spec_l1Two.l0 k m x = some (x * 2 ^ m) := by
 intro m
 induction m with
 | zero =>
  intro k x hk h0 h1 _
  obtain ⟨k, rfl⟩ : ∃ j, k = j + 1 := ⟨k - 1, by omega⟩
  simp only [spec_l1Two.l0]
  rw [if_neg (by omega)]
  simp
 | succ m ih =>
  intro k x hk h0 h1 hm
  obtain ⟨k, rfl⟩ : ∃ j, k = j + 1 := ⟨k - 1, by omega⟩
  simp only [spec_l1Two.l0]
  rw [if_pos (by omega)]
  have e : x * 2 ^ (m + 1) = x * 2 * 2 ^ m := by rw [Int.pow_succ]; rw [Int.mul_comm (2 ^ m) 2, Int.mul_assoc]
  have p : (1 : Int) ≤ 2 ^ m := Int.pow_pos (by omega)
  have h2 : x * 2 ≤ x * 2 * 2 ^ m := by
   have := Int.mul_le_mul_of_nonneg_left p (show 0 ≤ x * 2 by omega)
   omega
  rw [w64 (by omega) (by omega), w64 (by omega) (by omega), show (((m + 1 : Nat) : Int) - 1) = (m : Int) by omega, ih k (x * 2) (by omega) (by omega) (by rw [← e]; exact h1) (by omega), e]
theorem size_spec {b : Int} {k : Nat} (h0 : 0 ≤ b) (h1 : b ≤ 32) (hk : 40 ≤ k) : spec_l1Size.f k b = some (sz b) := by
 unfold spec_l1Size.f spec_l1Two.f
 rw [w64 (by omega) (by omega)]
 have e : (32 - b) = (((32 - b).toNat : Nat) : Int) := by omega
 have hs := sz_le h0
 rw [e, two_ev _ k 1 (by omega) (by omega) (by unfold sz at hs; omega) (by omega)]
 simp [sz]
theorem size_impl {a b : Int} (h0 : 0 ≤ b) (h1 : b ≤ 32) : impl_Block_size.f a b = some (sz b) := by
 unfold impl_Block_size.f
 have hs := sz_le h0
 have hp := sz_pos b
 rw [w64 (by omega) (by omega), if_pos (by omega)]
 unfold shl
 rw [show min (32 - b).toNat IntKind.i64.bits = (32 - b).toNat from Nat.min_eq_left (by show (32 - b).toNat ≤ 64; omega)]
 congr 1
 rw [Int.one_mul]
 show IntKind.i64.wrap (sz b) = sz b
 rw [IntKind.wrap_i64]
 omega
/-- A block is valid. -/
def bok (a b : Int) : Bool := decide (0 ≤ a ∧ a ≤ 4294967295 ∧ 0 ≤ b ∧ b ≤ 32 ∧ a % sz b = 0)
theorem bok_iff {a b : Int} : bok a b = true ↔ 0 ≤ a ∧ a ≤ 4294967295 ∧ 0 ≤ b ∧ b ≤ 32 ∧ a % sz b = 0 := by
 unfold bok
 rw [decide_eq_true_iff]
theorem tmod_of {a b : Int} (h : 0 ≤ a) : Int.tmod a (sz b) = a % sz b := Int.tmod_eq_emod_of_nonneg h
theorem ok_spec {k : Nat} (a b : Int) (hk : 40 ≤ k) : spec_BlockOk.f k a b = some (bok a b) := by
 unfold spec_BlockOk.f
 rw [addr_spec, Option.bind_some]
 by_cases h : 0 ≤ a ∧ a ≤ 4294967295
 ·rw [if_pos (by simpa using h), in_spec, Option.bind_some]
  by_cases h2 : 0 ≤ b ∧ b ≤ 32
  ·rw [if_pos (by simpa using h2), size_spec h2.1 h2.2 hk, Option.bind_some, if_neg (by have := sz_pos b; omega), tmod_of h.1]
   congr 1
   unfold bok
   rw [Bool.eq_iff_iff]
   simp [h, h2]
  ·rw [if_neg (by simpa using h2)]
   congr 1
   symm
   unfold bok
   rw [decide_eq_false_iff_not]
   omega
 ·rw [if_neg (by simpa using h)]
  congr 1
  symm
  unfold bok
  rw [decide_eq_false_iff_not]
  omega
theorem ok_impl (a b : Int) : impl_BlockOk.f a b = some (bok a b) := by
 unfold impl_BlockOk.f
 rw [addr_impl, Option.bind_some]
 by_cases h : 0 ≤ a ∧ a ≤ 4294967295
 ·rw [if_pos (by simpa using h), in_impl, Option.bind_some]
  by_cases h2 : 0 ≤ b ∧ b ≤ 32
  ·rw [if_pos (by simpa using h2), size_impl h2.1 h2.2, Option.bind_some, if_neg (by have := sz_pos b; omega), tmod_of h.1]
   congr 1
   unfold bok
   rw [Bool.eq_iff_iff]
   simp [h, h2]
  ·rw [if_neg (by simpa using h2)]
   congr 1
   symm
   unfold bok
   rw [decide_eq_false_iff_not]
   omega
 ·rw [if_neg (by simpa using h)]
  congr 1
  symm
  unfold bok
  rw [decide_eq_false_iff_not]
  omega
end Go.Proofs.Ytbhgkpfbggkgdaa.Pure

namespace Go.Proofs.Ytbhgkpfbggkgdaa.Pure
set_option linter.unusedSimpArgs false
open Go.RowKit Go.Proofs.Ytbhgkpfbggkgdaa.Q Go.Proofs.YtbhgkpfbggkgdaaW.PrintWords Go.Proofs.YtbhgkpfbggkgdaaW.PrintLast Go.Proofs.YtbhgkpfbggkgdaaW.PrintMore
def cvW (x : S79) : S82 := ⟨⟨x.f0.f0, x.f0.f1⟩, x.f1⟩
theorem toWayS_ev {l : List S79} {k : Nat} (hl : l.length ≤ 1048576) (hk : l.length < k) : laws_toWayS.f k l = some (l.map cvW) := by
 unfold laws_toWayS.f
 rw [if_pos (by omega), if_pos (by omega)]
 refine fill_loop laws_toWayS.l0 cvW z79 l ?_ ?_ k _ hk (by simp)
 ·intro k i ys hi hy
  simp only [laws_toWayS.l0, laws_toWay.f, laws_toBlock.f, Option.bind_some]
  rw [if_pos (by omega), if_pos (by omega), if_pos (by omega), w64 (by omega) (by omega)]
  rfl
 ·intro k ys
  simp only [laws_toWayS.l0]
  rw [if_neg (by omega)]
theorem eqWayS_ev {l : List S82} {k : Nat} (hl : l.length ≤ 1048576) (hk : l.length < k) : laws_eqWayS.f k l l = some true := by
 unfold laws_eqWayS.f
 rw [if_pos rfl]
 refine true_loop (fun k i => laws_eqWayS.l0 k l l i) l.length 0 true ?_ ?_ k hk
 ·intro k i hi _
  simp only [laws_eqWayS.l0, laws_eqWay.f, laws_eqBlock.f, if_true, Option.bind_some]
  rw [if_pos (by omega), if_pos (by omega), if_pos (by omega), w64 (by omega) (by omega)]
  rfl
 ·intro k _
  simp only [laws_eqWayS.l0]
  rw [if_neg (by omega)]
theorem szWayS_ev {l : List S79} (hl : l.length ≤ 9223372036854775807) : laws_szWayS.f l 1048576 = some (if (1048576 : Int) - (l.length : Int) < 0 then (-1 : Int) else 1048576 - (l.length : Int)) := by
 unfold laws_szWayS.f
 rw [w64 (by omega) (by omega)]
 split <;> rfl
/-- One block comes ahead of another one. -/
def blt (a b : S24) : Bool := decide (a.f0 < b.f0 ∨ (a.f0 = b.f0 ∧ a.f1 < b.f1))
/-- A route is valid. -/
def wok (w : S82) : Bool := bok w.f0.f0 w.f0.f1 && decide (0 ≤ w.f1 ∧ w.f1 ≤ 99)
/-- Route i of a table is valid, and behind the one ahead of it. -/
def wgood (l : List S82) (i : Nat) : Bool := wok (l.getD i z82) && (decide (i = 0) || blt (l.getD (i - 1) z82).f0 (l.getD i z82).f0)
/-- A table is valid. -/
def wsok (l : List S82) : Bool := if (List.range l.length).all (wgood l) then decide ((l.length : Int) ≤ 40) else false
theorem cmp3 (a b : Int) : cmp_Compare_int.f a b = some (if a < b then -1 else if a > b then 1 else 0) := by
 unfold cmp_Compare_int.f cmp_isNaN_int.f
 simp only [Option.bind_some, bne_self_eq_false, Bool.false_eq_true, if_false]
 split
 ·rfl
 ·split <;> rfl
theorem cmpOr (k : Nat) (x y : Int) : cmp_Or_int.f (k + 4) [x, y] = some (if x = 0 then y else x) := by
 have e1 : wrap64 ((0 : Int) + 1) = 1 := w64 (by omega) (by omega)
 have e2 : wrap64 ((1 : Int) + 1) = 2 := w64 (by omega) (by omega)
 unfold cmp_Or_int.f
 simp only [cmp_Or_int.l0, List.length_cons, List.length_nil, e1, e2]
 simp only [rd, Int.toNat_zero, List.getD_cons_zero, show Int.toNat 1 = 1 from rfl, List.getD_cons_succ]
 by_cases hx : x = 0
 ·by_cases hy : y = 0
  ·simp [hx, hy]
  ·simp [hx, hy]
 ·simp [hx]
theorem byBlock_ev (k : Nat) (a b c d : Int) (hk : 4 ≤ k) : ∃ v, impl_byBlock.f k a b c d = some v ∧ (v < 0 ↔ (a < c ∨ (a = c ∧ b < d))) ∧ (v = 0 ↔ (a = c ∧ b = d)) := by
 obtain ⟨k, rfl⟩ : ∃ m, k = m + 4 := ⟨k - 4, by omega⟩
 unfold impl_byBlock.f
 simp only [cmp3, Option.bind_some, cmpOr]
 refine ⟨_, rfl, ?_⟩
 repeat' split
 all_goals omega
theorem l3Cmp_ev {a b c d : Int} (h1 : bok a b = true) (h2 : bok c d = true) : ∃ v, spec_l3Cmp.f a b c d = some v ∧ (v < 0 ↔ (a < c ∨ (a = c ∧ b < d))) ∧ (v = 0 ↔ (a = c ∧ b = d)) := by
 obtain ⟨p1, p2, p3, p4, _⟩ := bok_iff.1 h1
 obtain ⟨q1, q2, q3, q4, _⟩ := bok_iff.1 h2
 unfold spec_l3Cmp.f
 by_cases h : a = c
 ·rw [if_pos h, w64 (by omega) (by omega)]
  exact ⟨_, rfl, by omega, by omega⟩
 ·rw [if_neg h, w64 (by omega) (by omega)]
  exact ⟨_, rfl, by omega, by omega⟩
theorem wgood_wok {l : List S82} {i : Nat} (h : wgood l i = true) : wok (l.getD i z82) = true := by
 unfold wgood at h
 rw [Bool.and_eq_true] at h
 exact h.1
theorem rdW (l : List S82) (i : Nat) : rd_T82 l (i : Int) = l.getD i z82 := rfl
theorem waysOk_spec {l : List S82} {k : Nat} (hl : l.length ≤ 1048577) (hk : l.length + 50 < k) : spec_WaysOk.f k l = some (wsok l) := by
 unfold spec_WaysOk.f wsok
 refine scan_loop (fun k i => spec_WaysOk.l0 k l i) l.length 50 (wgood l) false _ ?_ ?_ ?_ k hk
 ·intro k i hi hk hp hg
  obtain ⟨hw, hb⟩ : wok (l.getD i z82) = true ∧ (i = 0 ∨ blt (l.getD (i - 1) z82).f0 (l.getD i z82).f0 = true) := by
   unfold wgood at hg
   simpa using hg
  have hw0 := hw
  unfold wok at hw0
  rw [Bool.and_eq_true, decide_eq_true_eq] at hw0
  simp only [spec_WaysOk.l0]
  rw [if_pos (by omega), if_pos (by omega), rdW, ok_spec _ _ (by omega), Option.bind_some, if_pos hw0.1, in_spec, Option.bind_some, if_pos (by simpa using hw0.2), w64 (x := (i : Int) + 1) (by omega) (by omega)]
  by_cases h0 : i = 0
  ·rw [if_neg (by omega)]; rfl
  ·have hprev := wgood_wok (hp (i - 1) (by omega))
   unfold wok at hprev
   rw [Bool.and_eq_true] at hprev
   obtain ⟨v, hv, hv1, _⟩ := l3Cmp_ev hprev.1 hw0.1
   have hbl : blt (l.getD (i - 1) z82).f0 (l.getD i z82).f0 = true := by
    rcases hb with h | h
    ·exact absurd h h0
    ·exact h
   unfold blt at hbl
   rw [decide_eq_true_eq] at hbl
   rw [if_pos (by omega), w64 (x := (i : Int) - 1) (by omega) (by omega), if_pos (by omega), if_pos (by omega), show (i : Int) - 1 = ((i - 1 : Nat) : Int) by omega, rdW, hv, Option.bind_some, if_neg (by have := hv1.2 hbl; omega)]
   rfl
 ·intro k i hi hk hp hg
  simp only [spec_WaysOk.l0]
  rw [if_pos (by omega), if_pos (by omega), rdW, ok_spec _ _ (by omega), Option.bind_some]
  by_cases hw1 : bok (l.getD i z82).f0.f0 (l.getD i z82).f0.f1 = true
  ·rw [if_pos hw1, in_spec, Option.bind_some]
   by_cases hw2 : 0 ≤ (l.getD i z82).f1 ∧ (l.getD i z82).f1 ≤ 99
   ·rw [if_pos (by simpa using hw2)]
    have hw : wok (l.getD i z82) = true := by unfold wok; rw [hw1]; simpa using hw2
    have hnb : ¬ i = 0 ∧ ¬ blt (l.getD (i - 1) z82).f0 (l.getD i z82).f0 = true := by
     unfold wgood at hg
     rw [hw] at hg
     simpa using hg
    have hprev := wgood_wok (hp (i - 1) (by omega))
    unfold wok at hprev
    rw [Bool.and_eq_true] at hprev
    obtain ⟨v, hv, hv1, _⟩ := l3Cmp_ev hprev.1 hw1
    have hbl := hnb.2
    unfold blt at hbl
    rw [decide_eq_true_eq] at hbl
    rw [if_pos (by omega), w64 (x := (i : Int) - 1) (by omega) (by omega), if_pos (by omega), if_pos (by omega), show (i : Int) - 1 = ((i - 1 : Nat) : Int) by omega, rdW, hv, Option.bind_some, if_pos (by have := fun h => hbl (hv1.1 h); omega)]
   ·rw [if_neg (by simpa using hw2)]
  ·rw [if_neg hw1]
 ·intro k _
  simp only [spec_WaysOk.l0]
  rw [if_neg (by omega)]
theorem waysOk_impl {l : List S82} {k : Nat} (hl : l.length ≤ 1048577) (hk : l.length + 50 < k) : impl_WaysOk.f k l = some (wsok l) := by
 unfold impl_WaysOk.f wsok
 refine scan_loop (fun k i => impl_WaysOk.l0 k l l (l.length : Int) i) l.length 50 (wgood l) false _ ?_ ?_ ?_ k hk
 ·intro k i hi hk hp hg
  obtain ⟨hw, hb⟩ : wok (l.getD i z82) = true ∧ (i = 0 ∨ blt (l.getD (i - 1) z82).f0 (l.getD i z82).f0 = true) := by
   unfold wgood at hg
   simpa using hg
  have hw0 := hw
  unfold wok at hw0
  rw [Bool.and_eq_true, decide_eq_true_eq] at hw0
  simp only [impl_WaysOk.l0]
  rw [if_pos (by omega), if_pos (by omega), if_pos (by omega), rdW, ok_impl, Option.bind_some, if_pos hw0.1, in_impl, Option.bind_some, if_pos (by simpa using hw0.2), w64 (x := (i : Int) + 1) (by omega) (by omega)]
  by_cases h0 : i = 0
  ·rw [if_neg (by omega)]; rfl
  ·have hbl : blt (l.getD (i - 1) z82).f0 (l.getD i z82).f0 = true := by
    rcases hb with h | h
    ·exact absurd h h0
    ·exact h
   unfold blt at hbl
   rw [decide_eq_true_eq] at hbl
   obtain ⟨v, hv, hv1, _⟩ := byBlock_ev k (l.getD (i - 1) z82).f0.f0 (l.getD (i - 1) z82).f0.f1 (l.getD i z82).f0.f0 (l.getD i z82).f0.f1 (by omega)
   rw [if_pos (by omega), w64 (x := (i : Int) - 1) (by omega) (by omega), if_pos (by omega), if_pos (by omega), show (i : Int) - 1 = ((i - 1 : Nat) : Int) by omega, rdW, hv, Option.bind_some, if_neg (by have := hv1.2 hbl; omega)]
   rfl
 ·intro k i hi hk hp hg
  simp only [impl_WaysOk.l0]
  rw [if_pos (by omega), if_pos (by omega), if_pos (by omega), rdW, ok_impl, Option.bind_some]
  by_cases hw1 : bok (l.getD i z82).f0.f0 (l.getD i z82).f0.f1 = true
  ·rw [if_pos hw1, in_impl, Option.bind_some]
   by_cases hw2 : 0 ≤ (l.getD i z82).f1 ∧ (l.getD i z82).f1 ≤ 99
   ·rw [if_pos (by simpa using hw2)]
    have hw : wok (l.getD i z82) = true := by unfold wok; rw [hw1]; simpa using hw2
    have hnb : ¬ i = 0 ∧ ¬ blt (l.getD (i - 1) z82).f0 (l.getD i z82).f0 = true := by
     unfold wgood at hg
     rw [hw] at hg
     simpa using hg
    have hbl := hnb.2
    unfold blt at hbl
    rw [decide_eq_true_eq] at hbl
    obtain ⟨v, hv, hv1, _⟩ := byBlock_ev k (l.getD (i - 1) z82).f0.f0 (l.getD (i - 1) z82).f0.f1 (l.getD i z82).f0.f0 (l.getD i z82).f0.f1 (by omega)
    rw [if_pos (by omega), w64 (x := (i : Int) - 1) (by omega) (by omega), if_pos (by omega), if_pos (by omega), show (i : Int) - 1 = ((i - 1 : Nat) : Int) by omega, rdW, hv, Option.bind_some, if_pos (by have := fun h => hbl (hv1.1 h); omega)]
   ·rw [if_neg (by simpa using hw2)]
  ·rw [if_neg hw1]
 ·intro k _
  simp only [impl_WaysOk.l0]
  rw [if_neg (by omega)]
end Go.Proofs.Ytbhgkpfbggkgdaa.Pure

namespace Go.Proofs.Ytbhgkpfbggkgdaa.Pure
set_option linter.unusedSimpArgs false
set_option linter.unusedVariables false
open Go.RowKit Go.Proofs.Ytbhgkpfbggkgdaa.Q Go.Proofs.YtbhgkpfbggkgdaaW.PrintWords Go.Proofs.YtbhgkpfbggkgdaaW.PrintLast Go.Proofs.YtbhgkpfbggkgdaaW.PrintMore
abbrev WW := S82
abbrev at_ (l : List WW) (i : Nat) : WW := l.getD i z82
theorem blt_iff (a b : S24) : blt a b = true ↔ (a.f0 < b.f0 ∨ (a.f0 = b.f0 ∧ a.f1 < b.f1)) := by
 unfold blt
 rw [decide_eq_true_iff]
theorem blt_trans {a b c : S24} (h1 : blt a b = true) (h2 : blt b c = true) : blt a c = true := by
 rw [blt_iff] at *
 omega
/-- Blocks are the same. -/
theorem blk_ext {a b : S24} (h0 : a.f0 = b.f0) (h1 : a.f1 = b.f1) : a = b := by
 cases a; cases b
 simp only [S24.mk.injEq]
 exact ⟨h0, h1⟩
/-- Each comes behind the one ahead of it. -/
def asc (l : List WW) : Prop := ∀ i j, i < j → j < l.length → blt (at_ l i).f0 (at_ l j).f0 = true
theorem wsok_iff {l : List WW} : wsok l = true ↔ (l.length ≤ 40 ∧ (∀ i, i < l.length → wok (at_ l i) = true) ∧ asc l) := by
 unfold wsok
 constructor
 ·intro h
  by_cases hg : (List.range l.length).all (wgood l) = true
  ·rw [if_pos hg, decide_eq_true_eq] at h
   rw [List.all_eq_true] at hg
   have hg' : ∀ i, i < l.length → wgood l i = true := fun i hi => hg i (List.mem_range.2 hi)
   refine ⟨by omega, fun i hi => wgood_wok (hg' i hi), ?_⟩
   have step : ∀ j, 0 < j → j < l.length → blt (at_ l (j - 1)).f0 (at_ l j).f0 = true := by
    intro j h0 hj
    have := hg' j hj
    unfold wgood at this
    rw [Bool.and_eq_true, Bool.or_eq_true, decide_eq_true_eq] at this
    rcases this.2 with e | e
    ·omega
    ·exact e
   intro i j
   induction j with
   | zero => intro h; omega
   | succ j ih =>
    intro hij hj
    have hs := step (j + 1) (by omega) hj
    rw [Nat.add_sub_cancel] at hs
    by_cases e : i = j
    ·rw [e]; exact hs
    ·exact blt_trans (ih (by omega) (by omega)) hs
  ·rw [if_neg hg] at h
   cases h
 ·rintro ⟨h1, h2, h3⟩
  rw [if_pos]
  ·rw [decide_eq_true_eq]; omega
  ·rw [List.all_eq_true]
   intro i hi
   rw [List.mem_range] at hi
   unfold wgood
   rw [Bool.and_eq_true, Bool.or_eq_true, decide_eq_true_eq]
   refine ⟨h2 i hi, ?_⟩
   by_cases e : i = 0
   ·exact .inl e
   ·exact .inr (h3 (i - 1) i (by omega) hi)
/-- Where a block is, or would come. -/
def place (l : List WW) (b : S24) (i : Nat) : Prop := i ≤ l.length ∧ (∀ j, j < i → blt (at_ l j).f0 b = true) ∧ (∀ j, i ≤ j → j < l.length → blt (at_ l j).f0 b = false)
theorem place_uniq {l : List WW} {b : S24} {i j : Nat} (h1 : place l b i) (h2 : place l b j) : i = j := by
 obtain ⟨a1, a2, a3⟩ := h1
 obtain ⟨b1, b2, b3⟩ := h2
 rcases Nat.lt_trichotomy i j with h | h | h
 ·have := b2 i h
  rw [a3 i (Nat.le_refl _) (by omega)] at this
  cases this
 ·exact h
 ·have := a2 j h
  rw [b3 j (Nat.le_refl _) (by omega)] at this
  cases this
/-- Whether a block is at its place. -/
def there (l : List WW) (b : S24) (i : Nat) : Bool := decide (i < l.length) && (((at_ l i).f0.f0 == b.f0) && ((at_ l i).f0.f1 == b.f1))
theorem there_iff {l : List WW} {b : S24} {i : Nat} : there l b i = true ↔ i < l.length ∧ (at_ l i).f0 = b := by
 unfold there
 rw [Bool.and_eq_true, Bool.and_eq_true, decide_eq_true_eq, beq_iff_eq, beq_iff_eq]
 exact ⟨fun h => ⟨h.1, blk_ext h.2.1 h.2.2⟩, fun h => ⟨h.1, by rw [h.2], by rw [h.2]⟩⟩
theorem half {x y : Int} (hx : 0 ≤ x) (hy : 0 ≤ y) (h1 : x ≤ 1000000) (h2 : y ≤ 1000000) : wrap64 ((IntKind.u64.wrap (wrap64 (x + y))) / 2) = (x + y) / 2 := by
 rw [w64 (x := x + y) (by omega) (by omega), IntKind.wrap_u64, w64 (by omega) (by omega)]
 omega
theorem bsearch_ev {l : List WW} (hl : l.length ≤ 100000) (ha : asc l) (b : S24) : ∀ (e lo hi : Nat), hi - lo ≤ e → lo ≤ hi → hi ≤ l.length → (∀ j, j < lo → blt (at_ l j).f0 b = true) → (∀ j, hi ≤ j → j < l.length → blt (at_ l j).f0 b = false) →
  ∃ i, place l b i ∧ ∀ k, e + 5 < k → slices_BinarySearchFunc_Block.l0 k l (l.length : Int) (lo : Int) (hi : Int) b.f0 b.f1 = some ((i : Int), there l b i) := by
 intro e
 induction e with
 | zero =>
  intro lo hi he h1 h2 h3 h4
  obtain rfl : lo = hi := by omega
  refine ⟨lo, ⟨h2, h3, h4⟩, fun k hk => ?_⟩
  obtain ⟨k, rfl⟩ : ∃ m, k = m + 1 := ⟨k - 1, by omega⟩
  simp only [slices_BinarySearchFunc_Block.l0]
  rw [if_neg (by omega)]
  unfold there
  by_cases hn : lo < l.length
  ·rw [if_pos (by omega), if_pos (by omega), if_pos (by omega), rdW]
   unfold impl_find_1.f
   obtain ⟨v, ev, _, e0⟩ := byBlock_ev k (at_ l lo).f0.f0 (at_ l lo).f0.f1 b.f0 b.f1 (by omega)
   rw [ev, Option.bind_some, Option.bind_some, decide_eq_true hn, Bool.true_and]
   congr 2
   rw [Bool.eq_iff_iff, beq_iff_eq, e0, Bool.and_eq_true, beq_iff_eq, beq_iff_eq]
  ·rw [if_neg (by omega), decide_eq_false hn]
   rfl
 | succ e ih =>
  intro lo hi he h1 h2 h3 h4
  by_cases hlt : lo < hi
  ·obtain ⟨m, hm⟩ : ∃ m : Nat, m = (lo + hi) / 2 := ⟨_, rfl⟩
   have hh := half (x := (lo : Int)) (y := (hi : Int)) (by omega) (by omega) (by omega) (by omega)
   rw [show ((lo : Int) + (hi : Int)) / 2 = (m : Int) by omega] at hh
   cases hb : blt (at_ l m).f0 b with
   | true =>
    obtain ⟨i, hi1, hi2⟩ := ih (m + 1) hi (by omega) (by omega) h2 (fun j hj => by
     by_cases e : j = m
     ·rw [e]; exact hb
     ·exact blt_trans (ha j m (by omega) (by omega)) hb) h4
    refine ⟨i, hi1, fun k hk => ?_⟩
    obtain ⟨k, rfl⟩ : ∃ q, k = q + 1 := ⟨k - 1, by omega⟩
    simp only [slices_BinarySearchFunc_Block.l0]
    unfold impl_find_1.f
    obtain ⟨v, ev, e1, _⟩ := byBlock_ev k (at_ l m).f0.f0 (at_ l m).f0.f1 b.f0 b.f1 (by omega)
    rw [if_pos (by omega), hh, if_pos (by omega), if_pos (by omega), rdW, ev, Option.bind_some, Option.bind_some, if_pos (e1.2 ((blt_iff _ _).1 hb)), w64 (by omega) (by omega), show (m : Int) + 1 = ((m + 1 : Nat) : Int) by omega]
    exact hi2 k (by omega)
   | false =>
    obtain ⟨i, hi1, hi2⟩ := ih lo m (by omega) (by omega) (by omega) h3 (fun j hj hjl => by
     by_cases e : j = m
     ·rw [e]; exact hb
     ·rw [Bool.eq_false_iff]
      intro hc
      have := blt_trans (ha m j (by omega) hjl) hc
      rw [hb] at this
      cases this)
    refine ⟨i, hi1, fun k hk => ?_⟩
    obtain ⟨k, rfl⟩ : ∃ q, k = q + 1 := ⟨k - 1, by omega⟩
    simp only [slices_BinarySearchFunc_Block.l0]
    unfold impl_find_1.f
    obtain ⟨v, ev, e1, _⟩ := byBlock_ev k (at_ l m).f0.f0 (at_ l m).f0.f1 b.f0 b.f1 (by omega)
    have hnv : ¬ v < 0 := fun hv => by
     have := (blt_iff _ _).2 (e1.1 hv)
     rw [hb] at this
     cases this
    rw [if_pos (by omega), hh, if_pos (by omega), if_pos (by omega), rdW, ev, Option.bind_some, Option.bind_some, if_neg hnv]
    exact hi2 k (by omega)
  ·obtain ⟨i, h5, h6⟩ := ih lo hi (by omega) h1 h2 h3 h4
   exact ⟨i, h5, fun k hk => h6 k (by omega)⟩
theorem find_ev {l : List WW} (hl : l.length ≤ 100000) (ha : asc l) (b : S24) : ∃ i, place l b i ∧ ∀ k, l.length + 5 < k → impl_find.f k l b.f0 b.f1 = some ((i : Int), there l b i) := by
 obtain ⟨i, h1, h2⟩ := bsearch_ev hl ha b l.length 0 l.length (by omega) (by omega) (by omega) (fun j hj => by omega) (fun j hj hjl => by omega)
 refine ⟨i, h1, fun k hk => ?_⟩
 unfold impl_find.f slices_BinarySearchFunc_Block.f
 have := h2 k hk
 rw [show ((0 : Nat) : Int) = 0 from rfl] at this
 rw [this, Option.bind_some]
theorem l3At_ev {l : List WW} (hl : l.length ≤ 100000) (ha : asc l) (hw : ∀ i, i < l.length → wok (at_ l i) = true) (b : S24) (hb : bok b.f0 b.f1 = true) : ∃ i, place l b i ∧ ∀ k, l.length + 5 < k → spec_l3At.f k l b.f0 b.f1 = some ((i : Int), there l b i) := by
 have key : ∀ (e c : Nat), l.length - c = e → c ≤ l.length → (∀ j, j < c → blt (at_ l j).f0 b = true) → ∃ i, place l b i ∧ ∀ k, e + 5 < k → spec_l3At.l0 k l (c : Int) b.f0 b.f1 = some ((i : Int), there l b i) := by
  intro e
  induction e with
  | zero =>
   intro c he hc h3
   refine ⟨c, ⟨hc, h3, fun j h1 h2 => by omega⟩, fun k hk => ?_⟩
   obtain ⟨k, rfl⟩ : ∃ m, k = m + 1 := ⟨k - 1, by omega⟩
   simp only [spec_l3At.l0]
   rw [if_neg (by omega)]
   unfold there
   rw [decide_eq_false (by omega)]
   rfl
  | succ e ih =>
   intro c he hc h3
   have hok : bok (at_ l c).f0.f0 (at_ l c).f0.f1 = true := by
    have := hw c (by omega)
    unfold wok at this
    rw [Bool.and_eq_true] at this
    exact this.1
   obtain ⟨v, ev, e1, e0⟩ := l3Cmp_ev hok hb
   cases hlt : blt (at_ l c).f0 b with
   | true =>
    obtain ⟨i, h1, h2⟩ := ih (c + 1) (by omega) (by omega) (fun j hj => by
     by_cases e : j = c
     ·rw [e]; exact hlt
     ·exact h3 j (by omega))
    refine ⟨i, h1, fun k hk => ?_⟩
    obtain ⟨k, rfl⟩ : ∃ m, k = m + 1 := ⟨k - 1, by omega⟩
    simp only [spec_l3At.l0]
    rw [if_pos (by omega), if_pos (by omega), rdW, ev, Option.bind_some, if_pos (e1.2 ((blt_iff _ _).1 hlt)), w64 (by omega) (by omega), show (c : Int) + 1 = ((c + 1 : Nat) : Int) by omega]
    exact h2 k (by omega)
   | false =>
    refine ⟨c, ⟨hc, h3, fun j h1 h2 => ?_⟩, fun k hk => ?_⟩
    ·by_cases e : j = c
     ·rw [e]; exact hlt
     ·rw [Bool.eq_false_iff]
      intro hc'
      have := blt_trans (ha c j (by omega) h2) hc'
      rw [hlt] at this
      cases this
    ·obtain ⟨k, rfl⟩ : ∃ m, k = m + 1 := ⟨k - 1, by omega⟩
     have hnv : ¬ v < 0 := fun hv => by
      have := (blt_iff _ _).2 (e1.1 hv)
      rw [hlt] at this
      cases this
     simp only [spec_l3At.l0]
     rw [if_pos (by omega), if_pos (by omega), rdW, ev, Option.bind_some, if_neg hnv]
     unfold there
     rw [decide_eq_true (show c < l.length by omega), Bool.true_and]
 obtain ⟨i, h1, h2⟩ := key l.length 0 (by omega) (by omega) (fun j hj => by omega)
 exact ⟨i, h1, fun k hk => h2 k hk⟩
/-- A marked route. -/
def mkW (v : Int) : S82 := ⟨⟨v, v + 1⟩, v + 2⟩
theorem rdW_set {l : List S82} {i : Nat} (h : i < l.length) (z : S82) : rd_T82 (l.set i z) (i : Int) = z := by
 show (l.set i z).getD i _ = z
 rw [List.getD_eq_getElem?_getD, List.getElem?_set_self h]; rfl
theorem markWS_ev (l : List S82) (hl : l.length ≤ 35184372088832) {k : Nat} (hk : l.length < k) : laws_markWayS.f k l 1 = some (1 + 3 * (l.length : Int), marks mkW 3 1 l.length) := by
 unfold laws_markWayS.f
 refine mark_loop laws_markWayS.l0 mkW 3 (by omega) (fun k i xs v hi hx h0 h1 => ?_) (fun k xs v => ?_) l hl 1 (by omega) (by omega) k hk
 ·simp only [laws_markWayS.l0]
  rw [if_pos (by omega), if_pos (by omega), Option.bind_some, Option.bind_some, w64 (x := v + 1) (by omega) (by omega), w64 (x := v + 1 + 1) (by omega) (by omega), w64 (x := v + 1 + 1 + 1) (by omega) (by omega), w64 (x := (i : Int) + 1) (by omega) (by omega)]
  rw [show ((i : Int)).toNat = i from Int.toNat_natCast i, rdW_set hi, rdW_set (l := xs.set i _) (by rw [List.length_set]; exact hi), List.set_set, List.set_set, show v + 1 + 1 + 1 = v + 3 by omega, show v + 1 + 1 = v + 2 by omega]
  rfl
 ·simp only [laws_markWayS.l0]
  rw [if_neg (by omega)]
theorem heldWS_ev (n : Nat) (hn : n ≤ 35184372088832) {k : Nat} (hk : n < k) : laws_heldWayS.f k (marks mkW 3 1 n) 1 = some (1 + 3 * (n : Int)) := by
 unfold laws_heldWayS.f
 refine held_loop laws_heldWayS.l0 mkW 3 (by omega) (fun k i xs v hi hx h0 h1 hm => ?_) (fun k xs v => ?_) n hn 1 (by omega) (by omega) k hk
 ·have e : rd_T82 xs (i : Int) = mkW v := by
   show xs.getD i _ = _
   rw [List.getD_eq_getElem?_getD, hm]; rfl
  simp only [laws_heldWayS.l0]
  rw [if_pos (by omega), if_pos (by omega), e]
  unfold mkW
  rw [if_pos rfl, w64 (x := v + 1) (by omega) (by omega), if_pos rfl, w64 (x := v + 1 + 1) (by omega) (by omega), show v + 1 + 1 = v + 2 by omega, if_pos rfl, w64 (x := v + 2 + 1) (by omega) (by omega), w64 (x := (i : Int) + 1) (by omega) (by omega), show v + 2 + 1 = v + 3 by omega]
  rfl
 ·simp only [laws_heldWayS.l0]
  rw [if_neg (by omega)]
end Go.Proofs.Ytbhgkpfbggkgdaa.Pure

namespace Go.Proofs.Ytbhgkpfbggkgdaa.Pure
set_option linter.unusedSimpArgs false
set_option linter.unusedVariables false
open Go.RowKit Go.Proofs.Ytbhgkpfbggkgdaa.Q Go.Proofs.YtbhgkpfbggkgdaaW.PrintWords Go.Proofs.YtbhgkpfbggkgdaaW.PrintLast Go.Proofs.YtbhgkpfbggkgdaaW.PrintMore
theorem blt_tri {a b : S24} (h : blt a b = false) (hne : a ≠ b) : blt b a = true := by
 rw [Bool.eq_false_iff] at h
 rw [Ne, blt_iff] at h
 rw [blt_iff]
 by_cases h0 : a.f0 = b.f0
 ·by_cases h1 : a.f1 = b.f1
  ·exact absurd (blk_ext h0 h1) hne
  ·omega
 ·omega
theorem at_set {l : List WW} {i : Nat} (hi : i < l.length) (w : WW) (j : Nat) : at_ (l.set i w) j = if i = j then w else at_ l j := by
 show (l.set i w).getD j _ = _
 rw [List.getD_eq_getElem?_getD, List.getElem?_set]
 by_cases h : i = j
 ·rw [if_pos h, if_pos hi, if_pos h]; rfl
 ·rw [if_neg h, if_neg h]
  show _ = l.getD j _
  rw [List.getD_eq_getElem?_getD]
/-- A table with a route put in at a place. -/
abbrev ins (l : List WW) (w : WW) (i : Nat) : List WW := l.take i ++ [w] ++ l.drop i
theorem ins_length {l : List WW} {i : Nat} (hi : i ≤ l.length) (w : WW) : (ins l w i).length = l.length + 1 := by
 rw [List.length_append, List.length_append, List.length_take, List.length_drop, List.length_singleton]
 omega
theorem at_ins {l : List WW} {i : Nat} (hi : i ≤ l.length) (w : WW) (j : Nat) : at_ (ins l w i) j = if j < i then at_ l j else if j = i then w else at_ l (j - 1) := by
 show (l.take i ++ [w] ++ l.drop i).getD j _ = _
 have ht : (l.take i).length = i := by rw [List.length_take]; omega
 rw [List.getD_eq_getElem?_getD, List.append_assoc]
 by_cases h : j < i
 ·rw [if_pos h, List.getElem?_append_left (by omega), List.getElem?_take, if_pos h]
  show _ = l.getD j _
  rw [List.getD_eq_getElem?_getD]
 ·rw [if_neg h, List.getElem?_append_right (by omega), ht]
  by_cases h2 : j = i
  ·rw [if_pos h2, h2, Nat.sub_self]
   rfl
  ·rw [if_neg h2, List.getElem?_append_right (by rw [List.length_singleton]; omega), List.length_singleton, List.getElem?_drop, show i + (j - i - 1) = j - 1 by omega]
   show _ = l.getD (j - 1) _
   rw [List.getD_eq_getElem?_getD]
theorem set_ok {l : List WW} (h : wsok l = true) {w : WW} (hw : wok w = true) {i : Nat} (ht : there l w.f0 i = true) : wsok (l.set i w) = true := by
 obtain ⟨h1, h2, h3⟩ := wsok_iff.1 h
 obtain ⟨hi, hb⟩ := there_iff.1 ht
 have hf : ∀ j, (at_ (l.set i w) j).f0 = (at_ l j).f0 := by
  intro j
  rw [at_set hi]
  split
  ·next e => rw [← e, hb]
  ·rfl
 refine wsok_iff.2 ⟨by rw [List.length_set]; exact h1, fun j hj => ?_, fun p q hpq hq => ?_⟩
 ·rw [at_set hi]
  split
  ·exact hw
  ·exact h2 j (by rwa [List.length_set] at hj)
 ·rw [hf, hf]
  exact h3 p q hpq (by rwa [List.length_set] at hq)
theorem set_bad {l : List WW} {w : WW} (hw : wok w = false) {i : Nat} (hi : i < l.length) : wsok (l.set i w) = false := by
 rw [Bool.eq_false_iff]
 intro h
 have := (wsok_iff.1 h).2.1 i (by rw [List.length_set]; exact hi)
 rw [at_set hi, if_pos rfl, hw] at this
 cases this
theorem ins_bad {l : List WW} {w : WW} {i : Nat} (hi : i ≤ l.length) (hw : wok w = false ∨ 40 ≤ l.length) : wsok (ins l w i) = false := by
 rw [Bool.eq_false_iff]
 intro h
 obtain ⟨h1, h2, _⟩ := wsok_iff.1 h
 rw [ins_length hi] at h1
 rcases hw with hw | hw
 ·have := h2 i (by rw [ins_length hi]; omega)
  rw [at_ins hi, if_neg (by omega), if_pos rfl, hw] at this
  cases this
 ·omega
theorem ins_ok {l : List WW} (h : wsok l = true) {w : WW} (hw : wok w = true) {i : Nat} (hp : place l w.f0 i) (ht : there l w.f0 i = false) (hn : l.length < 40) : wsok (ins l w i) = true := by
 obtain ⟨h1, h2, h3⟩ := wsok_iff.1 h
 obtain ⟨hi, p1, p2⟩ := hp
 have hne : ∀ j, i ≤ j → j < l.length → blt w.f0 (at_ l j).f0 = true := by
  intro j hj hjl
  refine blt_tri (p2 j hj hjl) (fun e => ?_)
  by_cases hji : j = i
  ·rw [hji] at e
   have := there_iff.2 ⟨by omega, e⟩
   rw [ht] at this
   cases this
  ·have h4 := h3 i j (by omega) hjl
   rw [e, p2 i (Nat.le_refl _) (by omega)] at h4
   cases h4
 refine wsok_iff.2 ⟨by rw [ins_length hi]; omega, fun j hj => ?_, fun p q hpq hq => ?_⟩
 ·rw [ins_length hi] at hj
  rw [at_ins hi]
  split
  ·exact h2 j (by omega)
  ·split
   ·exact hw
   ·exact h2 (j - 1) (by omega)
 ·rw [ins_length hi] at hq
  rw [at_ins hi, at_ins hi]
  by_cases c1 : q < i
  ·rw [if_pos c1, if_pos (show p < i by omega)]
   exact h3 p q hpq (by omega)
  ·rw [if_neg c1]
   by_cases c2 : q = i
   ·rw [if_pos c2, if_pos (show p < i by omega)]
    exact p1 p (by omega)
   ·rw [if_neg c2]
    by_cases c3 : p < i
    ·rw [if_pos c3]
     exact h3 p (q - 1) (by omega) (by omega)
    ·rw [if_neg c3]
     by_cases c4 : p = i
     ·rw [if_pos c4]
      exact hne (q - 1) (by omega) (by omega)
     ·rw [if_neg c4]
      exact h3 (p - 1) (q - 1) (by omega) (by omega)
/-- A table with a route put in, where its block's place is i. -/
def putw (l : List WW) (w : WW) (i : Nat) : List WW × Bool :=
 if wok w = true then if there l w.f0 i = true then (l.set i w, true) else if 40 ≤ l.length then (l, false) else (ins l w i, true) else (l, false)
theorem put_impl {l : List WW} (hl : l.length ≤ 1048577) (h : wsok l = true) (w : WW) : ∃ i, place l w.f0 i ∧ ∀ k, l.length + 70 < k → impl_WaysPut.f k l w.f0.f0 w.f0.f1 w.f1 = some (putw l w i) := by
 obtain ⟨h1, h2, h3⟩ := wsok_iff.1 h
 obtain ⟨i, hp, hf⟩ := find_ev (by omega) h3 w.f0
 refine ⟨i, hp, fun k hk => ?_⟩
 obtain ⟨k, rfl⟩ : ∃ m, k = m + 1 := ⟨k - 1, by omega⟩
 have hi := hp.1
 unfold impl_WaysPut.f slices_Clone_Way.f putw
 rw [waysOk_impl hl (by omega), Option.bind_some, if_pos h, if_pos (by omega), Option.bind_some, hf (k + 1) (by omega), Option.bind_some]
 dsimp only
 cases ht : there l w.f0 i with
 | true =>
  have hil := (there_iff.1 ht).1
  have e : (⟨⟨w.f0.f0, w.f0.f1⟩, w.f1⟩ : WW) = w := rfl
  rw [if_pos rfl, if_pos (by omega), if_pos (by omega), Int.toNat_natCast, e]
  simp only [impl_WaysPut.j0]
  rw [waysOk_impl (by rw [List.length_set]; exact hl) (by rw [List.length_set]; omega), Option.bind_some]
  cases hw : wok w with
  | true =>
   rw [if_pos (set_ok h hw ht)]
   rfl
  | false =>
   rw [if_neg (by rw [set_bad hw hil]; simp)]
   unfold slices_Clone_Way.f
   rw [if_pos (by omega), Option.bind_some]
   rfl
 | false =>
  have e : (⟨⟨w.f0.f0, w.f0.f1⟩, w.f1⟩ : WW) = w := rfl
  rw [if_neg (show ¬ (false = true) by simp), e]
  unfold slices_Insert_Way.f
  rw [if_pos (by refine ⟨⟨⟨by omega, by omega⟩, rfl⟩, by omega⟩), Option.bind_some, Int.toNat_natCast]
  simp only [impl_WaysPut.j0]
  have hlen := ins_length hi w
  rw [waysOk_impl (l := ins l w i) (by omega) (by omega), Option.bind_some]
  cases hw : wok w with
  | true =>
   by_cases hn : 40 ≤ l.length
   ·rw [if_neg (by rw [ins_bad hi (.inr hn)]; simp)]
    unfold slices_Clone_Way.f
    rw [if_pos (by omega), Option.bind_some, if_pos hn]
    rfl
   ·rw [if_pos (ins_ok h hw hp ht (by omega)), if_neg hn]
    rfl
  | false =>
   rw [if_neg (by rw [ins_bad hi (.inl hw)]; simp)]
   unfold slices_Clone_Way.f
   rw [if_pos (by omega), Option.bind_some]
   rfl
theorem put_spec {l : List WW} (hl : l.length ≤ 1048577) (h : wsok l = true) (w : WW) (i : Nat) (hp : place l w.f0 i) : ∀ k, l.length + 70 < k → spec_WaysPut.f k l w.f0.f0 w.f0.f1 w.f1 = some (putw l w i) := by
 obtain ⟨h1, h2, h3⟩ := wsok_iff.1 h
 intro k hk
 obtain ⟨k, rfl⟩ : ∃ m, k = m + 1 := ⟨k - 1, by omega⟩
 have hi := hp.1
 unfold spec_WaysPut.f spec_l3Copy.f putw
 rw [waysOk_spec hl (by omega), Option.bind_some, if_pos h]
 simp only [Option.bind_some, List.nil_append, List.length_nil]
 rw [if_pos (by omega), Option.bind_some, ok_spec _ _ (by omega), Option.bind_some]
 cases hb : bok w.f0.f0 w.f0.f1 with
 | false =>
  rw [if_neg (by simp)]
  simp only [spec_WaysPut.j0]
  rw [if_pos trivial, if_neg (by unfold wok; rw [hb]; simp)]
 | true =>
  rw [if_pos rfl, in_spec, Option.bind_some]
  by_cases hh : 0 ≤ w.f1 ∧ w.f1 ≤ 99
  ·have hw : wok w = true := by unfold wok; rw [hb]; simpa using hh
   rw [decide_eq_true hh, if_pos hw]
   simp only [spec_WaysPut.j0]
   obtain ⟨j, hp', hf⟩ := l3At_ev (by omega) h3 h2 w.f0 hb
   obtain rfl := place_uniq hp hp'
   rw [if_neg (by simp), hf k (by omega), Option.bind_some]
   dsimp only
   cases ht : there l w.f0 i with
   | true =>
    have hil := (there_iff.1 ht).1
    rw [if_pos rfl, if_pos (by omega), if_pos (by omega), Int.toNat_natCast, if_pos rfl]
   | false =>
    rw [if_neg (by simp), if_neg (show ¬ (false = true) by simp)]
    by_cases hn : 40 ≤ l.length
    ·rw [if_pos (by omega), if_pos hn]
    ·rw [if_neg (by omega), if_neg hn]
     simp only [Option.bind_some, List.nil_append, List.length_nil, List.length_append, List.length_take, List.length_drop, List.length_singleton, Int.toNat_natCast]
     rw [if_pos (by omega), if_pos (by omega), if_pos (by omega), if_pos (by omega), if_pos (by omega)]
  ·rw [decide_eq_false hh, if_neg (by unfold wok; rw [hb]; simpa using hh)]
   simp only [spec_WaysPut.j0]
   rw [if_pos (by simp)]
theorem putw_len {l : List WW} (w : WW) {i : Nat} (hi : i ≤ l.length) : (putw l w i).1.length ≤ l.length + 1 := by
 unfold putw
 split
 ·split
  ·rw [List.length_set]; omega
  ·split
   ·exact Nat.le_succ _
   ·rw [ins_length hi]; exact Nat.le_refl _
 ·exact Nat.le_succ _
theorem put_both {l : List WW} (hl : l.length ≤ 1048577) (w : WW) : ∃ r : List WW × Bool, r.1.length ≤ 41 ∧ ∀ k, l.length + 70 < k → spec_WaysPut.f k l w.f0.f0 w.f0.f1 w.f1 = some r ∧ impl_WaysPut.f k l w.f0.f0 w.f0.f1 w.f1 = some r := by
 by_cases h : wsok l = true
 ·obtain ⟨i, hp, hi⟩ := put_impl hl h w
  exact ⟨putw l w i, by have := putw_len w hp.1; have := (wsok_iff.1 h).1; omega, fun k hk => ⟨put_spec hl h w i hp k hk, hi k hk⟩⟩
 ·refine ⟨([], false), Nat.zero_le _, fun k hk => ⟨?_, ?_⟩⟩
  ·unfold spec_WaysPut.f
   rw [waysOk_spec hl (by omega), Option.bind_some, if_neg h]
  ·unfold impl_WaysPut.f
   rw [waysOk_impl hl (by omega), Option.bind_some, if_neg h]
end Go.Proofs.Ytbhgkpfbggkgdaa.Pure

namespace Go.Proofs.Ytbhgkpfbggkgdaa.Pure
set_option linter.unusedSimpArgs false
open Go.RowKit Go.Proofs.Ytbhgkpfbggkgdaa.Q Go.Proofs.Ytbhgkpfbggkgdaa.Open Go.Proofs.YtbhgkpfbggkgdaaW.PrintWords Go.Proofs.YtbhgkpfbggkgdaaW.PrintLast Go.Proofs.YtbhgkpfbggkgdaaW.PrintMore
theorem FnExactWaysPut : laws_FnExactWaysPut.Pure := by
 intro l x hl _
 refine ⟨1048800, ?_⟩
 unfold laws_FnExactWaysPut.f laws_toWay.f laws_toBlock.f
 rw [szWayS_ev hl.1, Option.bind_some]
 by_cases h : (1048576 : Int) - (l.length : Int) < 0
 ·rw [if_pos (by rw [if_pos h]; omega)]
 ·rw [if_neg (by rw [if_neg h]; exact h)]
  have hm : (l.map cvW).length = l.length := List.length_map ..
  obtain ⟨⟨r, o⟩, hr, hb⟩ := put_both (l := l.map cvW) (by omega) ⟨⟨x.f0.f0, x.f0.f1⟩, x.f1⟩
  dsimp only at hr hb
  obtain ⟨s0, i0⟩ := hb 1048800 (by omega)
  obtain ⟨s1, i1⟩ := hb 1048798 (by omega)
  rw [toWayS_ev (by omega) (by omega)]
  simp only [Option.bind_some, s0, i0]
  rw [eqWayS_ev (by omega) (by omega), Option.bind_some, if_pos rfl, show 1048800 = 1048799 + 1 from rfl]
  simp only [laws_FnExactWaysPut.j0]
  rw [if_neg (by simp), toWayS_ev (by omega) (by omega), Option.bind_some, eqWayS_ev (by omega) (by omega), Option.bind_some, if_pos rfl, markWS_ev _ (by omega) (by omega), Option.bind_some]
  dsimp only
  rw [if_neg (by omega), eqWayS_ev (by omega) (by omega), Option.bind_some, if_pos rfl, show 1048799 = 1048798 + 1 from rfl]
  simp only [laws_FnExactWaysPut.j1]
  rw [if_neg (by simp), markWS_ev _ (by omega) (by omega), Option.bind_some]
  dsimp only
  rw [heldWS_ev _ (by omega) (by omega), Option.bind_some, if_neg (by omega), if_pos rfl, toWayS_ev (by omega) (by omega), Option.bind_some]
  unfold laws_toWay.f laws_toBlock.f
  simp only [Option.bind_some, i1]
  rw [eqWayS_ev (by omega) (by omega), Option.bind_some, if_pos rfl, show 1048798 = 1048797 + 1 from rfl]
  simp only [laws_FnExactWaysPut.j2]
  rw [if_neg (by simp), heldWS_ev _ (by omega) (by omega), Option.bind_some, if_neg (by omega), if_pos rfl]
end Go.Proofs.Ytbhgkpfbggkgdaa.Pure

namespace Go.Proofs.Ytbhgkpfbggkgdaa.fnExactWaysPut
open Go.ChangeShapes Go.WideShapes Go.ChangeAt Go.RowKit Go.Proofs.YtbhgkpfbggkgdaaW.PrintWords Go.Proofs.Ytbhgkpfbggkgdaa.Open Go.Proofs.Ytbhgkpfbggkgdaa.Q
open Go.ChangeMaps (open_string shut_string)
set_option linter.unusedVariables false
theorem own : ownKnob Try.prog.godebug = none := by kernel_rfl
theorem laidOut : laidOutB Try.prog = true := by kernel_rfl
set_option maxRecDepth 100000 in
theorem lifted (os : Os) (started : os.Started) (H : Type) (enc : TypeId × Value → H) :
  ReturnsInHanded {} Try.checked os 12 .any (Rows.fnExactWaysPutSpec.pre6 enc Try.prog Try.f12 Rows.fnExactWaysPutRow.domain false) (Rows.fnExactWaysPutSpec.post enc Try.prog Try.f12 false true false false) := by
 refine returnsInHanded_of_change_sized (C := Try.checked) own started (by kernel_rfl) Try.func12
  (ChangeSpec.witness6 (enc := enc) (C := Try.checked) false ⟨#[], #[.slice none 0 0, .agg #[.int .i64 0, .int .i64 0, .int .i64 0]], []⟩ 8 (by kernel_rfl) (by kernel_rfl) (by kernel_rfl) (by kernel_rfl)) ?_
 intro W base args ds gs before hval0 hW hcnd hsz0 _
 have hval : ∀ (j : Nat) t v, Try.f12.params[j]? = some t → args[j]? = some v → Value.okWide Try.prog W .any base t v := hval0
 have hW' := hW
 obtain ⟨p, q, hA0, hV, rfl, hfz, hnd⟩ := hW
 have hA : DataW.TrodAll enc Try.prog W 0 (fun _ => true) true Try.f12.params.toList args.toList ds p := hA0
 rw [Try.params12] at hA hval
 obtain ⟨v0, vs0, d0, ds0, p0, q0, hargs, rfl, rfl, h0, r0⟩ := trodAll_cons hA
 obtain ⟨v1, vs1, d1, ds1, p1, q1, rfl, rfl, rfl, h1, r1⟩ := trodAll_cons r0
 obtain ⟨rfl, rfl, rfl⟩ := trodAll_nil r1
 obtain rfl : args = #[v0, v1] := by cases args; simp_all
 obtain ⟨rfl, rfl⟩ := trodVars_none hV
 have lt0 : ∀ x ∈ p0, x.block < W.heap.size := by obtain ⟨m, hm⟩ := h0; exact DataW.trod_lt m _ _ _ hm
 have k0 := h0
 obtain ⟨x0, K0, w0⟩ := open_arg (op59 W) h0
 obtain ⟨aa0, len0, cap0, rfl⟩ := okWide_slice Try.underlying59 (hval 0 59 v0 rfl rfl)
 obtain ⟨A0, c0, e0, hc0, hr0⟩ := K0
 obtain ⟨rfl, rfl, rfl⟩ := slice_of_cells e0
 have lt1 : ∀ x ∈ p1, x.block < W.heap.size := by obtain ⟨m, hm⟩ := h1; exact DataW.trod_lt m _ _ _ hm
 have k1 := h1
 obtain ⟨x1, K1, w1⟩ := open_arg (op79 W) h1
 obtain ⟨cs1, rfl, sz1⟩ := okWide_struct Try.underlying79 (hval 1 79 v1 rfl rfl)
 obtain e1 := k79_open K1
 obtain rfl := agg_of_cells e1
 obtain ⟨k, hp⟩ := Pure.FnExactWaysPut x0 x1 w0 w1
 refine (laws_FnExactWaysPut.calls k _ _ x0 x1.f0.f0 x1.f0.f1 x1.f1 true W hr0 hc0 hp).mono ?_
 rintro e W' ⟨rfl, bel0⟩
 have bel : Below W.heap.size W W' := bel0
 exact ⟨_, rfl, _, _, _, [], _, [], hW', trodAll_mk1 (shut_bool Try.underlying4 _), (trodAll_cons_mk (Below.trod laidOut (by kernel_rfl) (of_decide_eq_true (by kernel_rfl)) k0 bel lt0) (trodAll_cons_mk (Below.trod laidOut (by kernel_rfl) (of_decide_eq_true (by kernel_rfl)) k1 bel lt1) trodAll_mk0)), rfl, bel.frame _, fun h => by cases h⟩
theorem over : Rows.fnExactWaysPutRow.holds Try.pinned (OpenSpec.ofChange Rows.fnExactWaysPutSpec) :=
 OpenClaim.holds_of_wide 12 Try.f12 rfl rfl rfl rfl rfl rfl rfl ⟨rfl, rfl, rfl, rfl, rfl⟩ rfl rfl rfl rfl rfl (by kernel_rfl) Try.func12 (by kernel_rfl)
  (of_decide_eq_true (by kernel_rfl)) (by unfold Func.isWrapper; first | (rw [if_pos (by decide +kernel)]; kernel_rfl) | (rw [if_neg (by decide +kernel)]; exact ⟨rfl, rfl⟩))
  (fun os started H enc _ => lifted os started H enc)
theorem proved : Rows.FnExactWaysPutSaid := over
#print axioms proved
end Go.Proofs.Ytbhgkpfbggkgdaa.fnExactWaysPut
namespace Go.Proofs.Ytbhgkpfbggkgdaa
/-- The row, under a short name, for the claim. -/
theorem fnExactWaysPut_holds : Rows.FnExactWaysPutSaid := fnExactWaysPut.proved
end Go.Proofs.Ytbhgkpfbggkgdaa
